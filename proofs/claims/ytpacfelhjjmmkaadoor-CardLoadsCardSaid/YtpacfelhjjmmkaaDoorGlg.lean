/- Part of a proof: contracts and lemmas; no condition. -/
import Derived.Test.YtpacfelhjjmmkaaDoorGlf
section
set_option maxHeartbeats 20000000
namespace Go.Proofs.YtpacfelhjjmmkaaDoor
open Go Go.Sy Go.Tr Go.Kb Go.RowKit Go.Cd
set_option linter.unusedVariables false
set_option linter.unusedSimpArgs false
def root0 : OR := ⟨[], [], 0, 0, [], [], .nil⟩
def blocksM (l : List (List UInt8 × List UInt8)) : Int × Nat × List OR :=
  if (runR [root0] 0 l).1 ≠ 0 then runR [root0] 0 l else if 1 < (runR [root0] 0 l).2.2.length then (6, l.length, (runR [root0] 0 l).2.2) else (0, 0, (runR [root0] 0 l).2.2)
def bndR (i : Nat) (o : OR) : Prop := o.ps.length ≤ i ∧ o.ls.length ≤ i ∧ o.kids.len ≤ i
theorem bndR.mono {i j : Nat} {o : OR} (h : bndR i o) (hij : i ≤ j) : bndR j o := ⟨Nat.le_trans h.1 hij, Nat.le_trans h.2.1 hij, Nat.le_trans h.2.2 hij⟩
theorem root_row {H : Nat → Option Blk} : ∀ {fs : List Fr} {x : List SV} {R : Nat}, (fs.map Fr.id).getLast? = some R → stOk H x fs → (∃ c, H R = rowR c ∧ c ≠ []) ∧ R ∈ ids fs
  | [], _, _, h, _ => by simp at h
  | [f], x, R, h, hs => by
    simp at h
    subst h
    exact ⟨⟨_, hs.1, by simp [frC]⟩, by simp [ids]⟩
  | f :: g :: r, x, R, h, hs => by
    obtain ⟨h1, h2⟩ := root_row (fs := g :: r) (R := R) (by simpa using h) hs.2.2.2.2
    exact ⟨h1, by simp only [ids, List.flatMap_cons, List.mem_append] at h2 ⊢; exact .inr h2⟩
theorem nd5 {a b c d e : Nat} {l : List Nat} : (a :: b :: c :: d :: e :: l).Nodup ↔ (a ≠ b ∧ a ≠ c ∧ a ≠ d ∧ a ≠ e ∧ b ≠ c ∧ b ≠ d ∧ b ≠ e ∧ c ≠ d ∧ c ≠ e ∧ d ≠ e) ∧ (∀ y ∈ l, y ≠ a ∧ y ≠ b ∧ y ≠ c ∧ y ≠ d ∧ y ≠ e) ∧ l.Nodup := by
  simp only [List.nodup_cons, List.mem_cons, not_or]
  constructor
  · rintro ⟨⟨h1, h2, h3, h4, h5⟩, ⟨h6, h7, h8, h9⟩, ⟨h10, h11, h12⟩, ⟨h13, h14⟩, h15, h16⟩
    exact ⟨⟨h1, h2, h3, h4, h6, h7, h8, h10, h11, h13⟩, fun y hy => ⟨fun e => h5 (e ▸ hy), fun e => h9 (e ▸ hy), fun e => h12 (e ▸ hy), fun e => h14 (e ▸ hy), fun e => h15 (e ▸ hy)⟩, h16⟩
  · rintro ⟨⟨h1, h2, h3, h4, h6, h7, h8, h10, h11, h13⟩, hy, h16⟩
    exact ⟨⟨h1, h2, h3, h4, fun h => (hy _ h).1 rfl⟩, ⟨h6, h7, h8, fun h => (hy _ h).2.1 rfl⟩, ⟨h10, h11, fun h => (hy _ h).2.2.1 rfl⟩, ⟨h13, fun h => (hy _ h).2.2.2.1 rfl⟩, fun h => (hy _ h).2.2.2.2 rfl, h16⟩
theorem mem_ids {y : Nat} {f : Fr} {fs : List Fr} : y ∈ ids (f :: fs) ↔ y = f.id ∨ y = f.P ∨ y = f.L ∨ y = f.K ∨ y ∈ ids fs := by
  simp only [ids, List.flatMap_cons, List.mem_append, List.mem_cons, List.not_mem_nil, or_false, or_assoc]
theorem blocks_raw (l : List (List UInt8 × List UInt8)) (n : Nat) (hl : l.length ≤ 4000) (htx : ∀ x ∈ l, x.1.length ≤ 1000000) :
    SCallR Tryd.prog 20 [.lst l.length (lineC l)] ⟨A0, n⟩ (fun r s' => if (blocksM l).1 = 0 then ∃ R O f, r = .tup [.p R 0, .i .i64 0, .i .i64 0] ∧ RI R O [f] s' ∧ (blocksM l).2.2 = [f.o] else r = .tup [.nilp, .i .i64 (blocksM l).2.1, .i .i64 (blocksM l).1]) := by
  refine SCallR.enter cc_cadenceref8_blocks ?_
  dsimp only [c_cadenceref8_blocks, argT]
  have hcl := lineC_len l
  have hat := lineC_at l
  refine SC.seq ?_ nofun; refine SC.regK ?_; refine k_mv ?_; refine k_mv ?_; refine k_mv ?_; refine k_nil ?_; refine okS ?_ rfl; refine SC.seq ?_ nofun; refine SC.regK ?_; refine k_bld ?_; refine k_box ?_ (c := [SV.s [], SV.s [], SV.i IntKind.i64 0, SV.i IntKind.i64 0, SV.i IntKind.i64 0, SV.nils, SV.nils, SV.nils]); refine k_mv ?_; refine k_nil ?_; refine okS ?_ rfl; refine SC.seq ?_ nofun; refine SC.regK ?_; refine k_mv ?_; refine k_bsl ?_ (c' := [SV.p n 0]); refine k_mv ?_; refine k_nil ?_; refine okS ?_ rfl; refine SC.seq ?_ nofun; refine SC.seq ?_ nofun; refine SC.regK ?_; refine k_mv ?_; refine k_nil ?_; refine okS ?_ rfl; refine SC.blk ?_
  refine SC.mv (Mv.ownRow 80 3 (b := n) (l1 := [.s [], .s [], .i .i64 0, .i .i64 0, .i .i64 0]) (by ((try dsimp only) <;> (repeat first | assumption | with_reducible rfl | exact h_same rfl | refine h_ne (by first | assumption | omega) ?_))) (by omega)) ?_
  refine SC.mv (Mv.ownRow 3 1 (b := n) (l1 := [.s [], .s [], .i .i64 0, .i .i64 0, .i .i64 0, .sl (n + 2) 0 0]) (by ((try dsimp only) <;> (repeat first | assumption | with_reducible rfl | exact h_same rfl | refine h_ne (by first | assumption | omega) ?_))) (by omega)) ?_
  refine SC.mv (Mv.ownRow 57 1 (b := n) (l1 := [.s [], .s [], .i .i64 0, .i .i64 0, .i .i64 0, .sl (n + 2) 0 0, .sl (n + 3) 0 0]) (by ((try dsimp only) <;> (repeat first | assumption | with_reducible rfl | exact h_same rfl | refine h_ne (by first | assumption | omega) ?_))) (by omega)) ?_
  refine SC.loop [0, 5, 6, 7] (fun vs s' => ∃ (i : Nat) (fs : List Fr) (R O : Nat), i ≤ l.length ∧ vs = [.lst l.length (lineC l), .p R 0, .sl O 0 fs.length, .i .i64 i] ∧ RI R O fs s' ∧ (∀ f ∈ fs, bndR i f.o) ∧ fs.length ≤ 4 ∧ runR [root0] 0 l = runR (fs.map Fr.o) i (l.drop i)) (fun vs _ => match vs with
      | [_, _, _, .i _ i] => l.length - i.toNat
      | _ => 0) rfl ⟨0, [⟨n, n + 2, n + 3, n + 4, root0⟩], n, n + 1, Nat.zero_le _, rfl, ⟨rfl, by dsimp only; ((try dsimp only) <;> (repeat first | assumption | with_reducible rfl | exact h_same rfl | refine h_ne (by first | assumption | omega) ?_)), ⟨by dsimp only; ((try dsimp only) <;> (repeat first | assumption | with_reducible rfl | exact h_same rfl | refine h_ne (by first | assumption | omega) ?_)), by dsimp only; ((try dsimp only) <;> (repeat first | assumption | with_reducible rfl | exact h_same rfl | refine h_ne (by first | assumption | omega) ?_)), by dsimp only; ((try dsimp only) <;> (repeat first | assumption | with_reducible rfl | exact h_same rfl | refine h_ne (by first | assumption | omega) ?_)), by dsimp only; ((try dsimp only) <;> (repeat first | assumption | with_reducible rfl | exact h_same rfl | refine h_ne (by first | assumption | omega) ?_)), trivial⟩, by simp [ids], by simp [ids]; omega⟩, by simp [bndR, root0, RL.len], by simp, rfl⟩ nofun ?_
  rintro _ ⟨H, n'⟩ ⟨i, fs, R, O, hi, rfl, hI, hbnd, hfs, hrun⟩
  have hR := hI.hR
  obtain ⟨⟨cR, hRr, hcR⟩, hRm⟩ := root_row hR hI.st
  have hRn := hI.lt R (by simp [hRm])
  have hOn := hI.lt O (by simp)
  have hO := hI.hO
  have hnd := hI.nd
  have hst := hI.st
  dsimp only at hRr hRn hOn hO hst
  have e0 : blocksM l = if (runR [root0] 0 l).1 ≠ 0 then runR [root0] 0 l else if 1 < (runR [root0] 0 l).2.2.length then (6, l.length, (runR [root0] 0 l).2.2) else (0, 0, (runR [root0] 0 l).2.2) := rfl
  by_cases h : i < l.length
  · have hx : l[i]? = some l[i] := List.getElem?_eq_getElem h
    rw [List.drop_eq_getElem_cons h, runR] at hrun
    have ha := hat _ _ hx
    have htxi := htx _ (List.getElem_mem h)
    generalize l[i] = p at hx hrun ha htxi
    obtain ⟨tx, ed⟩ := p
    dsimp only at hrun ha htxi
    have ha1 : ((lineC l).drop (i * 2))[0]? = some (.s tx) := by
      have := congrArg (fun q => q[0]?) ha
      simpa using this
    have hc := fun s => read_sc tx s htxi
    cases fs with
    | nil => simp at hR
    | cons f fs' =>
    obtain ⟨h1, h2, h3, h4, h5⟩ := hst
    obtain ⟨b1, b2, b3⟩ := hbnd f (by simp)
    have hC : ((f :: fs').map fun f => SV.p f.id 0).reverse[fs'.length]? = some (.p f.id 0) := by
      simp [List.getElem?_append]
    have hCl : (((f :: fs').map fun f => SV.p f.id 0).reverse).length = fs'.length + 1 := by simp
    have hCt : (((f :: fs').map fun f => SV.p f.id 0).reverse).take fs'.length = (fs'.map fun f => SV.p f.id 0).reverse := by
      simp
    simp only [List.length_cons] at hfs ⊢
    generalize hCC : ((f :: fs').map fun f => SV.p f.id 0).reverse = C at hO hC hCl hCt
    have hn0 : f.id < n' := hI.lt _ (by simp [ids])
    have hn1 : f.P < n' := hI.lt _ (by simp [ids])
    have hn2 : f.L < n' := hI.lt _ (by simp [ids])
    have hn3 : f.K < n' := hI.lt _ (by simp [ids])
    obtain ⟨⟨d1, d2, d3, d4, d5, d6, d7, d8, d9, d10⟩, hfar, hndt⟩ := nd5.1 hnd
    have hlt : ∀ y ∈ ids fs', y < n' := fun y hy => hI.lt _ (List.mem_cons_of_mem _ (mem_ids.2 (.inr (.inr (.inr (.inr hy))))))
    have hkl := rlC_len f.o.kids
    have hko := rlC_one f.o.kids
    obtain ⟨ka, kb, hk | hk | hk | hk | hk⟩ := readL_kinds tx
    · -- nothing
      rw [hk] at hc
      simp only [rowV] at hc
      have ht := takeR0 (os := (f :: fs').map Fr.o) (i := i) hk
      rw [ht, if_pos rfl] at hrun
      refine SC.seq ?_ nofun; refine SC.seq ?_ nofun; refine SC.regK ?_; refine k_mv ?_; refine k_mv ?_; refine k_bll ?_; refine k_it ?_; refine k_nil ?_; refine okS ?_ rfl; refine SC.cond_t rfl ?_; refine SC.skip ?_; refine SC.seq ?_ nofun; refine SC.blk ?_; refine SC.seq ?_ nofun; refine SC.regK ?_; refine k_mv ?_; refine k_mv ?_; refine k_ial ?_; refine k_fal ?_; refine k_ldl ?_; refine k_call (hc _) ?_; refine k_alc ?_; refine k_sts ?_ (c' := [SV.i IntKind.i64 0, SV.s ka, SV.s kb]); refine k_nil ?_; refine okS ?_ rfl; refine SC.seq ?_ nofun; refine SC.regK ?_; refine k_mv ?_; refine k_mv ?_; refine k_bll ?_; refine k_sub ?_; refine k_ia ?_; refine k_ldp ?_; refine k_mv ?_; refine k_nil ?_; refine okS ?_ rfl; refine SC.blk ?_; refine SC.seq ?_ nofun; refine SC.regK ?_; refine k_fa ?_; refine k_ldp ?_; refine k_if ?_; refine k_mv ?_; refine k_nil ?_; refine okS ?_ rfl; refine SC.cond_f rfl ?_; refine SC.seq ?_ nofun; refine SC.regK ?_; refine k_fa ?_; refine k_ldp ?_; refine k_if ?_; refine k_mv ?_; refine k_no ?_; refine k_no ?_; refine k_no ?_; refine k_pf ?_; refine k_mv ?_; refine k_nil ?_; refine okS ?_ rfl; refine SC.cond_f rfl ?_; refine SC.seq ?_ nofun; refine SC.regK ?_; refine k_fa ?_; refine k_ldp ?_; refine k_if ?_; refine k_mv ?_; refine k_nil ?_; refine okS ?_ rfl; refine SC.cond_f rfl ?_; refine SC.seq ?_ nofun; refine SC.dregK ?_; refine k_fa ?_; refine k_ldp ?_; refine k_if ?_; refine k_mv ?_; refine k_no ?_; refine k_no ?_; refine k_no ?_; refine k_no ?_; refine k_no ?_; refine k_no ?_; refine k_no ?_; refine k_no ?_; refine k_no ?_; refine k_no ?_; refine k_no ?_; refine k_no ?_; refine k_no ?_; refine k_no ?_; refine k_no ?_; refine k_no ?_; refine k_no ?_; refine k_no ?_; refine k_no ?_; refine k_pf ?_; refine k_mv ?_; refine k_nil ?_; refine okD (ne := []) ?_ (by kernel_rfl) trivial; refine SC.cond_f rfl ?_; refine SC.seq ?_ nofun; refine SC.regK ?_; refine k_fa ?_; refine k_ldp ?_; refine k_if ?_; refine k_mv ?_; refine k_nil ?_; refine okS ?_ rfl
      refine SC.cond_f rfl ?_; refine SC.seq ?_ nofun; refine SC.regK ?_; refine k_fa ?_; refine k_ldp ?_; refine k_if ?_; refine k_mv ?_; refine k_no ?_; refine k_no ?_; refine k_no ?_; refine k_pf ?_; refine k_mv ?_; refine k_nil ?_; refine okS ?_ rfl; refine SC.cond_f rfl ?_; refine SC.seq ?_ nofun; refine SC.regK ?_; refine k_fa ?_; refine k_ldp ?_; refine k_if ?_; refine k_mv ?_; refine k_nil ?_; refine okS ?_ rfl; refine SC.cond_f rfl ?_; refine SC.skip ?_; refine SC.regK ?_; refine k_mv ?_; refine k_add ?_; refine k_mv ?_; refine k_nil ?_; refine okS ?_ rfl
      refine ⟨_, rfl, ⟨i + 1, f :: fs', R, O, h, rfl, hI.more (by omega) (fun y hy => by ((try dsimp only) <;> (repeat first | assumption | with_reducible rfl | exact h_same rfl | refine h_ne (by first | assumption | omega) ?_))), fun f hf => (hbnd f hf).mono (Nat.le_succ i), by simp; omega, hrun⟩, ?_⟩
      dsimp only; omega
    · -- a block begins
      rw [hk] at hc
      simp only [rowV] at hc
      have ht := takeR1 (os := (f :: fs').map Fr.o) (i := i) hk
      rw [List.length_map, List.length_cons] at ht
      by_cases h3l : 3 < fs'.length + 1
      · rw [if_pos h3l] at ht
        rw [ht, if_neg (show (11 : Int) ≠ 0 by decide)] at hrun
        have e : blocksM l = (11, i + 1, (f :: fs').map Fr.o) := by rw [e0, hrun, if_pos (show (11 : Int) ≠ 0 by decide)]
        refine SC.seq ?_ nofun; refine SC.seq ?_ nofun; refine SC.regK ?_; refine k_mv ?_; refine k_mv ?_; refine k_bll ?_; refine k_it ?_; refine k_nil ?_; refine okS ?_ rfl; refine SC.cond_t rfl ?_; refine SC.skip ?_; refine SC.seq ?_ nofun; refine SC.blk ?_; refine SC.seq ?_ nofun; refine SC.regK ?_; refine k_mv ?_; refine k_mv ?_; refine k_ial ?_; refine k_fal ?_; refine k_ldl ?_; refine k_call (hc _) ?_; refine k_alc ?_; refine k_sts ?_ (c' := [SV.i IntKind.i64 1, SV.s ka, SV.s kb]); refine k_nil ?_; refine okS ?_ rfl; refine SC.seq ?_ nofun; refine SC.regK ?_; refine k_mv ?_; refine k_mv ?_; refine k_bll ?_; refine k_sub ?_; refine k_ia ?_; refine k_ldp ?_; refine k_mv ?_; refine k_nil ?_; refine okS ?_ rfl; refine SC.blk ?_; refine SC.seq ?_ nofun; refine SC.regK ?_; refine k_fa ?_; refine k_ldp ?_; refine k_if ?_; refine k_mv ?_; refine k_nil ?_; refine okS ?_ rfl; refine SC.cond_f rfl ?_; refine SC.seq ?_ nofun; refine SC.regK ?_; refine k_fa ?_; refine k_ldp ?_; refine k_it ?_; refine k_mv ?_; refine k_mv ?_; refine k_bll ?_; refine k_it ?_; refine k_pt ?_; refine k_mv ?_; refine k_nil ?_; refine okS ?_ rfl; refine SC.cond_t rfl ?_; refine SC.seq ?_ nofun; refine SC.regK ?_; refine k_mv ?_; refine k_add ?_; refine k_mv ?_; refine k_mv ?_; refine k_mv ?_; refine k_nil ?_; refine okS ?_ rfl; refine SC.ret ?_
        refine ⟨_, rfl, ?_⟩
        dsimp only
        rw [e, if_neg (show (11 : Int) ≠ 0 by decide)]
        rfl
      · rw [if_neg h3l] at ht
        rw [ht, if_pos rfl] at hrun
        have h1' : H f.id = rowR [.s f.o.w, .s f.o.d, .i .i64 f.o.fr, .i .i64 (0 : Nat), .i .i64 f.o.at_, .sl f.P 0 f.o.ps.length, .sl f.L 0 f.o.ls.length, .sl f.K 0 f.o.kids.len] := h1
        have h4' : H f.K = rowK (rlC f.o.kids) := by rw [h4, List.append_nil]
        refine SC.mvPost ?_
        refine SC.seq ?_ nofun; refine SC.seq ?_ nofun; refine SC.regK ?_; refine k_mv ?_; refine k_mv ?_; refine k_bll ?_; refine k_it ?_; refine k_nil ?_; refine okS ?_ rfl; refine SC.cond_t rfl ?_; refine SC.skip ?_; refine SC.seq ?_ nofun; refine SC.blk ?_; refine SC.seq ?_ nofun; refine SC.regK ?_; refine k_mv ?_; refine k_mv ?_; refine k_ial ?_; refine k_fal ?_; refine k_ldl ?_; refine k_call (hc _) ?_; refine k_alc ?_; refine k_sts ?_ (c' := [SV.i IntKind.i64 1, SV.s ka, SV.s kb]); refine k_nil ?_; refine okS ?_ rfl; refine SC.seq ?_ nofun; refine SC.regK ?_; refine k_mv ?_; refine k_mv ?_; refine k_bll ?_; refine k_sub ?_; refine k_ia ?_; refine k_ldp ?_; refine k_mv ?_; refine k_nil ?_; refine okS ?_ rfl; refine SC.blk ?_; refine SC.seq ?_ nofun; refine SC.regK ?_; refine k_fa ?_; refine k_ldp ?_; refine k_if ?_; refine k_mv ?_; refine k_nil ?_; refine okS ?_ rfl; refine SC.cond_f rfl ?_; refine SC.seq ?_ nofun; refine SC.regK ?_; refine k_fa ?_; refine k_ldp ?_; refine k_it ?_; refine k_mv ?_; refine k_mv ?_; refine k_bll ?_; refine k_if ?_; refine k_pt ?_; refine k_mv ?_; refine k_nil ?_; refine okS ?_ rfl; refine SC.cond_f rfl ?_; refine SC.seq ?_ nofun; refine SC.regK ?_; refine k_fa ?_; refine k_ldp ?_; refine k_it ?_; refine k_mv ?_; refine k_nil ?_; refine okS ?_ rfl; refine SC.cond_t rfl ?_; refine SC.seq ?_ nofun; refine SC.regK ?_; refine k_fa ?_; refine k_ldp ?_; refine k_mv ?_; refine k_bld ?_; refine k_box ?_ (c := [SV.s kb, SV.s [], SV.i IntKind.i64 (↑i : Int), SV.i IntKind.i64 0, SV.i IntKind.i64 0, SV.nils, SV.nils, SV.nils]); refine k_mv ?_; refine k_nil ?_; refine okS ?_ rfl; refine SC.seq ?_ nofun; refine SC.regK ?_; refine k_mv ?_; refine k_mv ?_; refine k_nilc ?_; refine k_fa ?_; refine k_ldp ?_; refine k_mv ?_; refine k_bsl ?_ (c' := [SV.p (n' + 1) 0]); refine k_appo ?_ (c' := rlC (OR.kids (Fr.o f)) ++ [SV.p (n' + 1) 0]) (new := [SV.p (n' + 1) 0]); refine k_nilc ?_; refine k_fa ?_
        refine k_sto ?_ (c' := [SV.s (OR.w (Fr.o f)), SV.s (OR.d (Fr.o f)), SV.i IntKind.i64 (↑(OR.fr (Fr.o f)) : Int), SV.i IntKind.i64 (↑0 : Int), SV.i IntKind.i64 (↑(OR.at_ (Fr.o f)) : Int), SV.sl (Fr.P f) 0 (List.length (OR.ps (Fr.o f))), SV.sl (Fr.L f) 0 (List.length (OR.ls (Fr.o f))), SV.sl (n' + 1 + 1 + 1) 0 (RL.len (OR.kids (Fr.o f)) + 1)]); refine k_nil ?_; refine okS ?_ rfl; refine SC.regK ?_; refine k_mv ?_; refine k_mv ?_; refine k_bsl ?_ (c' := [SV.p (n' + 1) 0]); refine k_appo ?_ (c' := C ++ [SV.p (n' + 1) 0]) (new := [SV.p (n' + 1) 0]); refine k_mv ?_; refine k_nil ?_; refine okS ?_ rfl; refine SC.regK ?_; refine k_mv ?_; refine k_add ?_; refine k_mv ?_; refine k_nil ?_; refine okS ?_ rfl
        refine ⟨_, Mv.trans (Mv.ownRow 80 3 (b := n' + 1) (l1 := [.s kb, .s [], .i .i64 (i : Int), .i .i64 0, .i .i64 0]) (by ((try dsimp only) <;> (repeat first | assumption | with_reducible rfl | exact h_same rfl | refine h_ne (by first | assumption | omega) ?_))) (by omega)) (Mv.trans (Mv.ownRow 3 1 (b := n' + 1) (l1 := [.s kb, .s [], .i .i64 (i : Int), .i .i64 0, .i .i64 0, .sl (n' + 6) 0 0]) (by ((try dsimp only) <;> (repeat first | assumption | with_reducible rfl | exact h_same rfl | refine h_ne (by first | assumption | omega) ?_))) (by omega)) (Mv.ownRow 57 1 (b := n' + 1) (l1 := [.s kb, .s [], .i .i64 (i : Int), .i .i64 0, .i .i64 0, .sl (n' + 6) 0 0, .sl (n' + 7) 0 0]) (by ((try dsimp only) <;> (repeat first | assumption | with_reducible rfl | exact h_same rfl | refine h_ne (by first | assumption | omega) ?_))) (by omega))), ?_⟩
        refine ⟨_, rfl, ⟨i + 1, ⟨n' + 1, n' + 6, n' + 7, n' + 8, ⟨kb, [], i, 0, [], [], .nil⟩⟩ :: { f with K := n' + 3 } :: fs', R, n' + 5, h, rfl, ⟨?_, ?_, ⟨?_, ?_, ?_, ?_, ?_, ?_, ?_, ?_, ?_⟩, ?_, ?_⟩, ?_, ?_, ?_⟩, ?_⟩
        · simpa using hR
        · dsimp only
          rw [show ((⟨n' + 1, n' + 6, n' + 7, n' + 8, ⟨kb, [], i, 0, [], [], .nil⟩⟩ :: { f with K := n' + 3 } :: fs').map fun f => SV.p f.id 0).reverse = C ++ [.p (n' + 1) 0] by rw [← hCC]; simp]
          ((try dsimp only) <;> (repeat first | assumption | with_reducible rfl | exact h_same rfl | refine h_ne (by first | assumption | omega) ?_))
        · dsimp only [frC, RL.len, List.length_nil]; ((try dsimp only) <;> (repeat first | assumption | with_reducible rfl | exact h_same rfl | refine h_ne (by first | assumption | omega) ?_))
        · dsimp only [psC]; ((try dsimp only) <;> (repeat first | assumption | with_reducible rfl | exact h_same rfl | refine h_ne (by first | assumption | omega) ?_))
        · dsimp only [lnsC]; ((try dsimp only) <;> (repeat first | assumption | with_reducible rfl | exact h_same rfl | refine h_ne (by first | assumption | omega) ?_))
        · dsimp only [rlC]; ((try dsimp only) <;> (repeat first | assumption | with_reducible rfl | exact h_same rfl | refine h_ne (by first | assumption | omega) ?_))
        · dsimp only [frC, List.length_cons, List.length_nil]; ((try dsimp only) <;> (repeat first | assumption | with_reducible rfl | exact h_same rfl | refine h_ne (by first | assumption | omega) ?_))
        · dsimp only; ((try dsimp only) <;> (repeat first | assumption | with_reducible rfl | exact h_same rfl | refine h_ne (by first | assumption | omega) ?_))
        · dsimp only; ((try dsimp only) <;> (repeat first | assumption | with_reducible rfl | exact h_same rfl | refine h_ne (by first | assumption | omega) ?_))
        · dsimp only; ((try dsimp only) <;> (repeat first | assumption | with_reducible rfl | exact h_same rfl | refine h_ne (by first | assumption | omega) ?_))
        · exact stOk_of (fun y hy => by
            have := hlt y hy
            obtain ⟨y1, y2, y3, y4, y5⟩ := hfar y hy
            dsimp only
            ((try dsimp only) <;> (repeat first | assumption | with_reducible rfl | exact h_same rfl | refine h_ne (by first | assumption | omega) ?_))) h5
        · have hf' : ((n' + 5) :: f.id :: f.P :: f.L :: (n' + 3) :: ids fs').Nodup := nd5.2 ⟨by omega, fun y hy => by
            have := hlt y hy
            obtain ⟨y1, y2, y3, y4, y5⟩ := hfar y hy
            omega, hndt⟩
          refine nd5.2 ⟨by dsimp only; omega, fun y hy => ?_, (List.nodup_cons.1 hf').2⟩
          rcases mem_ids.1 hy with rfl | rfl | rfl | rfl | hy <;> dsimp only
          · omega
          · omega
          · omega
          · omega
          · have := hlt y hy
            omega
        · intro y hy
          rcases List.mem_cons.1 hy with rfl | hy
          · dsimp only; omega
          · rcases mem_ids.1 hy with rfl | rfl | rfl | rfl | hy <;> dsimp only
            · omega
            · omega
            · omega
            · omega
            · rcases mem_ids.1 hy with rfl | rfl | rfl | rfl | hy <;> (try dsimp only)
              · omega
              · omega
              · omega
              · omega
              · have := hlt y hy
                omega
        · intro x hx
          rcases List.mem_cons.1 hx with rfl | hx
          · exact ⟨Nat.zero_le _, Nat.zero_le _, Nat.zero_le _⟩
          · rcases List.mem_cons.1 hx with rfl | hx
            · exact bndR.mono ⟨b1, b2, b3⟩ (Nat.le_succ i)
            · exact (hbnd x (List.mem_cons_of_mem _ hx)).mono (Nat.le_succ i)
        · simp only [List.length_cons]; omega
        · exact hrun
        · dsimp only; omega
    · -- a block ends
      rw [hk] at hc
      simp only [rowV] at hc
      cases fs' with
      | nil =>
        obtain rfl : f.id = R := by simpa using hR
        have ht := takeR2a (b := f.o) (i := i) hk
        rw [show [f].map Fr.o = [f.o] from rfl, ht, if_neg (show (6 : Int) ≠ 0 by decide)] at hrun
        have e : blocksM l = (6, i + 1, [f.o]) := by rw [e0, hrun, if_pos (show (6 : Int) ≠ 0 by decide)]
        simp only [List.length_nil] at hC hCl ⊢
        refine SC.seq ?_ nofun; refine SC.seq ?_ nofun; refine SC.regK ?_; refine k_mv ?_; refine k_mv ?_; refine k_bll ?_; refine k_it ?_; refine k_nil ?_; refine okS ?_ rfl; refine SC.cond_t rfl ?_; refine SC.skip ?_; refine SC.seq ?_ nofun; refine SC.blk ?_; refine SC.seq ?_ nofun; refine SC.regK ?_; refine k_mv ?_; refine k_mv ?_; refine k_ial ?_; refine k_fal ?_; refine k_ldl ?_; refine k_call (hc _) ?_; refine k_alc ?_; refine k_sts ?_ (c' := [SV.i IntKind.i64 2, SV.s ka, SV.s kb]); refine k_nil ?_; refine okS ?_ rfl; refine SC.seq ?_ nofun; refine SC.regK ?_; refine k_mv ?_; refine k_mv ?_; refine k_bll ?_; refine k_sub ?_; refine k_ia ?_; refine k_ldp ?_; refine k_mv ?_; refine k_nil ?_; refine okS ?_ rfl; refine SC.blk ?_; refine SC.seq ?_ nofun; refine SC.regK ?_; refine k_fa ?_; refine k_ldp ?_; refine k_if ?_; refine k_mv ?_; refine k_nil ?_; refine okS ?_ rfl; refine SC.cond_f rfl ?_; refine SC.seq ?_ nofun; refine SC.regK ?_; refine k_fa ?_; refine k_ldp ?_; refine k_if ?_; refine k_mv ?_; refine k_no ?_; refine k_no ?_; refine k_no ?_; refine k_pf ?_; refine k_mv ?_; refine k_nil ?_; refine okS ?_ rfl; refine SC.cond_f rfl ?_; refine SC.seq ?_ nofun; refine SC.regK ?_; refine k_fa ?_; refine k_ldp ?_; refine k_if ?_; refine k_mv ?_; refine k_nil ?_; refine okS ?_ rfl; refine SC.cond_f rfl ?_; refine SC.seq ?_ nofun; refine SC.dregK ?_; refine k_fa ?_; refine k_ldp ?_; refine k_it ?_; refine k_mv ?_; refine k_mv ?_; refine k_mv ?_; refine k_pp ?_; refine k_mv ?_; refine k_no ?_; refine k_no ?_; refine k_no ?_; refine k_no ?_; refine k_no ?_; refine k_no ?_; refine k_no ?_; refine k_pt ?_; refine k_mv ?_; refine k_no ?_; refine k_no ?_; refine k_no ?_; refine k_no ?_; refine k_no ?_; refine k_pt ?_; refine k_pt ?_; refine k_mv ?_; refine k_nil ?_; refine okD (ne := []) ?_ (by kernel_rfl) trivial; refine SC.cond_t rfl ?_; refine SC.seq ?_ nofun; refine SC.regK ?_; refine k_mv ?_; refine k_add ?_; refine k_mv ?_; refine k_mv ?_; refine k_mv ?_; refine k_nil ?_
        refine okS ?_ rfl; refine SC.ret ?_
        skip
        refine ⟨_, rfl, ?_⟩
        dsimp only
        rw [e, if_neg (show (6 : Int) ≠ 0 by decide)]
        rfl
      | cons g r =>
        have hfR : f.id ≠ R := by
          have : R ∈ ids (g :: r) := by
            have h2 := (root_row (fs := g :: r) (R := R) (by simpa using hR) h5).2
            exact h2
          exact fun e => (hfar R this).2.1 e.symm
        have ht := takeR2 (b := f.o) (g := g.o) (r := r.map Fr.o) (i := i) hk
        rw [show (f :: g :: r).map Fr.o = f.o :: g.o :: r.map Fr.o from rfl] at hrun
        have h1' : H f.id = rowR [.s f.o.w, .s f.o.d, .i .i64 f.o.fr, .i .i64 (0 : Nat), .i .i64 f.o.at_, .sl f.P 0 f.o.ps.length, .sl f.L 0 f.o.ls.length, .sl f.K 0 f.o.kids.len] := h1
        have h4' : H f.K = rowK (rlC f.o.kids) := by rw [h4, List.append_nil]
        have bad : takeR (f.o :: g.o :: r.map Fr.o) i tx = (6, f.o :: g.o :: r.map Fr.o) → blocksM l = (6, i + 1, f.o :: g.o :: r.map Fr.o) := fun e => by
          rw [e, if_neg (show (6 : Int) ≠ 0 by decide)] at hrun
          rw [e0, hrun, if_pos (show (6 : Int) ≠ 0 by decide)]
        by_cases hw : f.o.w = kb
        · have dw : decide (f.o.w = kb) = true := decide_eq_true hw
          have dw' : (!decide (f.o.w = kb)) = false := by rw [dw]; rfl
          by_cases ha0 : f.o.at_ = 0
          · have da : decide ((f.o.at_ : Int) = 0) = true := decide_eq_true (by omega)
            have e := bad (by rw [ht, if_pos (.inr ha0)])
            refine SC.seq ?_ nofun; refine SC.seq ?_ nofun; refine SC.regK ?_; refine k_mv ?_; refine k_mv ?_; refine k_bll ?_; refine k_it ?_; refine k_nil ?_; refine okS ?_ rfl; refine SC.cond_t rfl ?_; refine SC.skip ?_; refine SC.seq ?_ nofun; refine SC.blk ?_; refine SC.seq ?_ nofun; refine SC.regK ?_; refine k_mv ?_; refine k_mv ?_; refine k_ial ?_; refine k_fal ?_; refine k_ldl ?_; refine k_call (hc _) ?_; refine k_alc ?_; refine k_sts ?_ (c' := [SV.i IntKind.i64 2, SV.s ka, SV.s kb]); refine k_nil ?_; refine okS ?_ rfl; refine SC.seq ?_ nofun; refine SC.regK ?_; refine k_mv ?_; refine k_mv ?_; refine k_bll ?_; refine k_sub ?_; refine k_ia ?_; refine k_ldp ?_; refine k_mv ?_; refine k_nil ?_; refine okS ?_ rfl; refine SC.blk ?_; refine SC.seq ?_ nofun; refine SC.regK ?_; refine k_fa ?_; refine k_ldp ?_; refine k_if ?_; refine k_mv ?_; refine k_nil ?_; refine okS ?_ rfl; refine SC.cond_f rfl ?_; refine SC.seq ?_ nofun; refine SC.regK ?_; refine k_fa ?_; refine k_ldp ?_; refine k_if ?_; refine k_mv ?_; refine k_no ?_; refine k_no ?_; refine k_no ?_; refine k_pf ?_; refine k_mv ?_; refine k_nil ?_; refine okS ?_ rfl; refine SC.cond_f rfl ?_; refine SC.seq ?_ nofun; refine SC.regK ?_; refine k_fa ?_; refine k_ldp ?_; refine k_if ?_; refine k_mv ?_; refine k_nil ?_; refine okS ?_ rfl; refine SC.cond_f rfl ?_; refine SC.seq ?_ nofun; refine SC.dregK ?_; refine k_fa ?_; refine k_ldp ?_; refine k_it ?_; refine k_mv ?_; refine k_mv ?_; refine k_mv ?_; refine k_npp (hne := hfR) ?_; refine k_mv ?_; refine k_mv ?_; refine k_nilc ?_; refine k_fa ?_; refine k_ldp ?_; refine k_fa ?_; refine k_ldp ?_; refine k_sf ?_; refine k_pf ?_; refine k_mv ?_; refine k_mv ?_; refine k_nilc ?_; refine k_fa ?_; refine k_ldp ?_; refine k_it ?_; refine k_pf ?_; refine k_pt ?_; refine k_mv ?_; refine k_nil ?_; refine okD (ne := []) ?_ (by kernel_rfl) trivial; refine SC.cond_t rfl ?_; refine SC.seq ?_ nofun; refine SC.regK ?_; refine k_mv ?_; refine k_add ?_; refine k_mv ?_; refine k_mv ?_; refine k_mv ?_
            refine k_nil ?_; refine okS ?_ rfl; refine SC.ret ?_
            skip
            refine ⟨_, rfl, ?_⟩
            dsimp only
            rw [e, if_neg (show (6 : Int) ≠ 0 by decide)]
            rfl
          · have da : decide ((f.o.at_ : Int) = 0) = false := decide_eq_false (by omega)
            rw [if_neg (by rw [not_or]; exact ⟨fun h => h hw, ha0⟩)] at ht
            obtain ⟨g1, g2, g3, g4, g5⟩ := h5
            have gm : ∀ y, (y = g.id ∨ y = g.P ∨ y = g.L ∨ y = g.K ∨ y ∈ ids r) → y ∈ ids (g :: r) := fun y hy => mem_ids.2 hy
            obtain ⟨⟨q1, q2, q3, q4, q5, q6, q7, q8, q9, q10⟩, gfar, gnd⟩ := nd5.1 (List.nodup_cons.2 ⟨fun h => (hfar _ h).1 rfl, hndt⟩ : (O :: ids (g :: r)).Nodup)
            obtain ⟨u1, u2, u3, u4, u5⟩ := hfar g.id (gm _ (.inl rfl))
            obtain ⟨v1, v2, v3, v4, v5⟩ := hfar g.K (gm _ (.inr (.inr (.inr (.inl rfl)))))
            obtain ⟨w1, w2, w3, w4, w5⟩ := hfar g.P (gm _ (.inr (.inl rfl)))
            obtain ⟨x1, x2, x3, x4, x5⟩ := hfar g.L (gm _ (.inr (.inr (.inl rfl))))
            have d1' := NeH.sy d1
            replace d1 := NeH.of d1
            have d2' := NeH.sy d2
            replace d2 := NeH.of d2
            have d3' := NeH.sy d3
            replace d3 := NeH.of d3
            have d4' := NeH.sy d4
            replace d4 := NeH.of d4
            have d5' := NeH.sy d5
            replace d5 := NeH.of d5
            have d6' := NeH.sy d6
            replace d6 := NeH.of d6
            have d7' := NeH.sy d7
            replace d7 := NeH.of d7
            have d8' := NeH.sy d8
            replace d8 := NeH.of d8
            have d9' := NeH.sy d9
            replace d9 := NeH.of d9
            have d10' := NeH.sy d10
            replace d10 := NeH.of d10
            have q1' := NeH.sy q1
            replace q1 := NeH.of q1
            have q2' := NeH.sy q2
            replace q2 := NeH.of q2
            have q3' := NeH.sy q3
            replace q3 := NeH.of q3
            have q4' := NeH.sy q4
            replace q4 := NeH.of q4
            have q5' := NeH.sy q5
            replace q5 := NeH.of q5
            have q6' := NeH.sy q6
            replace q6 := NeH.of q6
            have q7' := NeH.sy q7
            replace q7 := NeH.of q7
            have q8' := NeH.sy q8
            replace q8 := NeH.of q8
            have q9' := NeH.sy q9
            replace q9 := NeH.of q9
            have q10' := NeH.sy q10
            replace q10 := NeH.of q10
            have u1' := NeH.sy u1
            replace u1 := NeH.of u1
            have u2' := NeH.sy u2
            replace u2 := NeH.of u2
            have u3' := NeH.sy u3
            replace u3 := NeH.of u3
            have u4' := NeH.sy u4
            replace u4 := NeH.of u4
            have u5' := NeH.sy u5
            replace u5 := NeH.of u5
            have v1' := NeH.sy v1
            replace v1 := NeH.of v1
            have v2' := NeH.sy v2
            replace v2 := NeH.of v2
            have v3' := NeH.sy v3
            replace v3 := NeH.of v3
            have v4' := NeH.sy v4
            replace v4 := NeH.of v4
            have v5' := NeH.sy v5
            replace v5 := NeH.of v5
            have w1' := NeH.sy w1
            replace w1 := NeH.of w1
            have w2' := NeH.sy w2
            replace w2 := NeH.of w2
            have w3' := NeH.sy w3
            replace w3 := NeH.of w3
            have w4' := NeH.sy w4
            replace w4 := NeH.of w4
            have w5' := NeH.sy w5
            replace w5 := NeH.of w5
            have x1' := NeH.sy x1
            replace x1 := NeH.of x1
            have x2' := NeH.sy x2
            replace x2 := NeH.of x2
            have x3' := NeH.sy x3
            replace x3 := NeH.of x3
            have x4' := NeH.sy x4
            replace x4 := NeH.of x4
            have x5' := NeH.sy x5
            replace x5 := NeH.of x5
            have m1 := hlt g.id (gm _ (.inl rfl))
            have m2 := hlt g.K (gm _ (.inr (.inr (.inr (.inl rfl)))))
            have m3 := hlt g.P (gm _ (.inr (.inl rfl)))
            have m4 := hlt g.L (gm _ (.inr (.inr (.inl rfl))))
            obtain ⟨c1, c2, c3⟩ := hbnd g (by simp)
            have g1' : H g.id = rowR [.s g.o.w, .s g.o.d, .i .i64 g.o.fr, .i .i64 (0 : Nat), .i .i64 g.o.at_, .sl g.P 0 g.o.ps.length, .sl g.L 0 g.o.ls.length, .sl g.K 0 (g.o.kids.len + 1)] := g1
            have htw := fun k => twin_sc (n := k) (K := g.K) (q := f.id) (w := f.o.w) (d := f.o.d) (c2 := [.i .i64 f.o.fr, .i .i64 (i : Int), .i .i64 f.o.at_, .sl f.P 0 f.o.ps.length, .sl f.L 0 f.o.ls.length, .sl f.K 0 f.o.kids.len]) 57 g.o.kids v2 (by omega)
            have hmr : ((g :: r).length : Int) - 1 = (r.length : Int) := by simp
            have hC2 : C[r.length]? = some (.p g.id 0) := by
              rw [← hCC]
              simp [List.getElem?_append]
            cases htv : twinL g.o.kids f.o.w f.o.d with
            | true =>
              rw [htv] at htw
              rw [htv, if_pos rfl] at ht
              rw [ht, if_neg (show (7 : Int) ≠ 0 by decide)] at hrun
              have e : blocksM l = (7, i + 1, f.o :: g.o :: r.map Fr.o) := by rw [e0, hrun, if_pos (show (7 : Int) ≠ 0 by decide)]
              refine SC.seq ?_ nofun; refine SC.seq ?_ nofun; refine SC.regK ?_; refine k_mv ?_; refine k_mv ?_; refine k_bll ?_; refine k_it ?_; refine k_nil ?_; refine okS ?_ rfl; refine SC.cond_t rfl ?_; refine SC.skip ?_; refine SC.seq ?_ nofun; refine SC.blk ?_; refine SC.seq ?_ nofun; refine SC.regK ?_; refine k_mv ?_; refine k_mv ?_; refine k_ial ?_; refine k_fal ?_; refine k_ldl ?_; refine k_call (hc _) ?_; refine k_alc ?_; refine k_sts ?_ (c' := [SV.i IntKind.i64 2, SV.s ka, SV.s kb]); refine k_nil ?_; refine okS ?_ rfl; refine SC.seq ?_ nofun; refine SC.regK ?_; refine k_mv ?_; refine k_mv ?_; refine k_bll ?_; refine k_sub ?_; refine k_ia ?_; refine k_ldp ?_; refine k_mv ?_; refine k_nil ?_; refine okS ?_ rfl; refine SC.blk ?_; refine SC.seq ?_ nofun; refine SC.regK ?_; refine k_fa ?_; refine k_ldp ?_; refine k_if ?_; refine k_mv ?_; refine k_nil ?_; refine okS ?_ rfl; refine SC.cond_f rfl ?_; refine SC.seq ?_ nofun; refine SC.regK ?_; refine k_fa ?_; refine k_ldp ?_; refine k_if ?_; refine k_mv ?_; refine k_no ?_; refine k_no ?_; refine k_no ?_; refine k_pf ?_; refine k_mv ?_; refine k_nil ?_; refine okS ?_ rfl; refine SC.cond_f rfl ?_; refine SC.seq ?_ nofun; refine SC.regK ?_; refine k_fa ?_; refine k_ldp ?_; refine k_if ?_; refine k_mv ?_; refine k_nil ?_; refine okS ?_ rfl; refine SC.cond_f rfl ?_; refine SC.seq ?_ nofun; refine SC.dregK ?_; refine k_fa ?_; refine k_ldp ?_; refine k_it ?_; refine k_mv ?_; refine k_mv ?_; refine k_mv ?_; refine k_npp (hne := hfR) ?_; refine k_mv ?_; refine k_mv ?_; refine k_nilc ?_; refine k_fa ?_; refine k_ldp ?_; refine k_fa ?_; refine k_ldp ?_; refine k_sf ?_; refine k_pf ?_; refine k_mv ?_; refine k_mv ?_; refine k_nilc ?_; refine k_fa ?_; refine k_ldp ?_; refine k_if ?_; refine k_pf ?_; refine k_pt ?_; refine k_mv ?_; refine k_nil ?_; refine okD (ne := []) ?_ (by kernel_rfl) trivial; refine SC.cond_f rfl ?_; refine SC.seq ?_ nofun; refine SC.regK ?_; refine k_fa ?_; refine k_ldp ?_; refine k_it ?_; refine k_mv ?_; refine k_nil ?_
              refine okS ?_ rfl; refine SC.cond_t rfl ?_; refine SC.seq ?_ nofun; refine SC.regK ?_; refine k_mv ?_; refine k_mv ?_; refine k_nilc ?_; refine k_fa ?_; refine k_sto ?_ (c' := [SV.s (OR.w (Fr.o f)), SV.s (OR.d (Fr.o f)), SV.i IntKind.i64 (↑(OR.fr (Fr.o f)) : Int), SV.i IntKind.i64 (↑i : Int), SV.i IntKind.i64 (↑(OR.at_ (Fr.o f)) : Int), SV.sl (Fr.P f) 0 (List.length (OR.ps (Fr.o f))), SV.sl (Fr.L f) 0 (List.length (OR.ls (Fr.o f))), SV.sl (Fr.K f) 0 (RL.len (OR.kids (Fr.o f)))]); refine k_nil ?_; refine okS ?_ rfl; refine SC.seq ?_ nofun; refine SC.regK ?_; refine k_mv ?_; refine k_mv ?_; refine k_bll ?_; refine k_sub ?_; refine k_oh ?_; refine k_mv ?_; refine k_nil ?_; refine okS ?_ rfl; refine SC.seq ?_ nofun; refine SC.regK ?_; refine k_mv ?_; refine k_mv ?_; refine k_bll ?_; refine k_sub ?_; refine k_ia ?_; refine k_ldp ?_; refine k_nilc ?_; refine k_fa ?_; refine k_ldp ?_; refine k_mv ?_
              refine k_call2 (by ((try dsimp only) <;> (repeat first | assumption | with_reducible rfl | exact h_same rfl | refine h_ne (by first | assumption | omega) ?_))) (by ((try dsimp only) <;> (repeat first | assumption | with_reducible rfl | exact h_same rfl | refine h_ne (by first | assumption | omega) ?_))) (htw _) ?_; refine k_nil ?_; refine okS ?_ rfl; refine SC.cond_t rfl ?_; refine SC.seq ?_ nofun; refine SC.regK ?_; refine k_mv ?_; refine k_add ?_; refine k_mv ?_; refine k_mv ?_; refine k_mv ?_; refine k_nil ?_; refine okS ?_ rfl; refine SC.ret ?_
              skip
              refine ⟨_, rfl, ?_⟩
              dsimp only
              rw [e, if_neg (show (7 : Int) ≠ 0 by decide)]
              rfl
            | false =>
              rw [htv] at htw
              rw [htv, if_neg (by decide)] at ht
              rw [ht, if_pos rfl] at hrun
              refine SC.mvPost ?_
              refine SC.seq ?_ nofun; refine SC.seq ?_ nofun; refine SC.regK ?_; refine k_mv ?_; refine k_mv ?_; refine k_bll ?_; refine k_it ?_; refine k_nil ?_; refine okS ?_ rfl; refine SC.cond_t rfl ?_; refine SC.skip ?_; refine SC.seq ?_ nofun; refine SC.blk ?_; refine SC.seq ?_ nofun; refine SC.regK ?_; refine k_mv ?_; refine k_mv ?_; refine k_ial ?_; refine k_fal ?_; refine k_ldl ?_; refine k_call (hc _) ?_; refine k_alc ?_; refine k_sts ?_ (c' := [SV.i IntKind.i64 2, SV.s ka, SV.s kb]); refine k_nil ?_; refine okS ?_ rfl; refine SC.seq ?_ nofun; refine SC.regK ?_; refine k_mv ?_; refine k_mv ?_; refine k_bll ?_; refine k_sub ?_; refine k_ia ?_; refine k_ldp ?_; refine k_mv ?_; refine k_nil ?_; refine okS ?_ rfl; refine SC.blk ?_; refine SC.seq ?_ nofun; refine SC.regK ?_; refine k_fa ?_; refine k_ldp ?_; refine k_if ?_; refine k_mv ?_; refine k_nil ?_; refine okS ?_ rfl; refine SC.cond_f rfl ?_; refine SC.seq ?_ nofun; refine SC.regK ?_; refine k_fa ?_; refine k_ldp ?_; refine k_if ?_; refine k_mv ?_; refine k_no ?_; refine k_no ?_; refine k_no ?_; refine k_pf ?_; refine k_mv ?_; refine k_nil ?_; refine okS ?_ rfl; refine SC.cond_f rfl ?_; refine SC.seq ?_ nofun; refine SC.regK ?_; refine k_fa ?_; refine k_ldp ?_; refine k_if ?_; refine k_mv ?_; refine k_nil ?_; refine okS ?_ rfl; refine SC.cond_f rfl ?_; refine SC.seq ?_ nofun; refine SC.dregK ?_; refine k_fa ?_; refine k_ldp ?_; refine k_it ?_; refine k_mv ?_; refine k_mv ?_; refine k_mv ?_; refine k_npp (hne := hfR) ?_; refine k_mv ?_; refine k_mv ?_; refine k_nilc ?_; refine k_fa ?_; refine k_ldp ?_; refine k_fa ?_; refine k_ldp ?_; refine k_sf ?_; refine k_pf ?_; refine k_mv ?_; refine k_mv ?_; refine k_nilc ?_; refine k_fa ?_; refine k_ldp ?_; refine k_if ?_; refine k_pf ?_; refine k_pt ?_; refine k_mv ?_; refine k_nil ?_; refine okD (ne := []) ?_ (by kernel_rfl) trivial; refine SC.cond_f rfl ?_; refine SC.seq ?_ nofun; refine SC.regK ?_; refine k_fa ?_; refine k_ldp ?_; refine k_it ?_; refine k_mv ?_; refine k_nil ?_
              refine okS ?_ rfl; refine SC.cond_t rfl ?_; refine SC.seq ?_ nofun; refine SC.regK ?_; refine k_mv ?_; refine k_mv ?_; refine k_nilc ?_; refine k_fa ?_; refine k_sto ?_ (c' := [SV.s (OR.w (Fr.o f)), SV.s (OR.d (Fr.o f)), SV.i IntKind.i64 (↑(OR.fr (Fr.o f)) : Int), SV.i IntKind.i64 (↑i : Int), SV.i IntKind.i64 (↑(OR.at_ (Fr.o f)) : Int), SV.sl (Fr.P f) 0 (List.length (OR.ps (Fr.o f))), SV.sl (Fr.L f) 0 (List.length (OR.ls (Fr.o f))), SV.sl (Fr.K f) 0 (RL.len (OR.kids (Fr.o f)))]); refine k_nil ?_; refine okS ?_ rfl; refine SC.seq ?_ nofun; refine SC.regK ?_; refine k_mv ?_; refine k_mv ?_; refine k_bll ?_; refine k_sub ?_; refine k_oh ?_; refine k_mv ?_; refine k_nil ?_; refine okS ?_ rfl; refine SC.seq ?_ nofun; refine SC.regK ?_; refine k_mv ?_; refine k_mv ?_; refine k_bll ?_; refine k_sub ?_; refine k_ia ?_; refine k_ldp ?_; refine k_nilc ?_; refine k_fa ?_; refine k_ldp ?_; refine k_mv ?_
              refine k_call2 (by ((try dsimp only) <;> (repeat first | assumption | with_reducible rfl | exact h_same rfl | refine h_ne (by first | assumption | omega) ?_))) (by ((try dsimp only) <;> (repeat first | assumption | with_reducible rfl | exact h_same rfl | refine h_ne (by first | assumption | omega) ?_))) (htw _) ?_; refine k_nil ?_; refine okS ?_ rfl; refine SC.cond_f rfl ?_; refine SC.skip ?_; refine SC.regK ?_; refine k_mv ?_; refine k_add ?_; refine k_mv ?_; refine k_nil ?_; refine okS ?_ rfl
              skip
              refine ⟨_, Mv.trans (Mv.weakRow (b := O) (m := (g :: r).length) (cs := C) (cs' := C.take (g :: r).length) (by ((try dsimp only) <;> (repeat first | assumption | with_reducible rfl | exact h_same rfl | refine h_ne (by first | assumption | omega) ?_))) (Wks.refl _)) (Mv.trans (Mv.fz1 (q := f.P) (b := f.id) (c := [.s f.o.w, .s f.o.d, .i .i64 f.o.fr, .i .i64 (i : Int), .i .i64 f.o.at_, .sl f.P 0 f.o.ps.length, .sl f.L 0 f.o.ls.length, .sl f.K 0 f.o.kids.len]) (cs := psC f.o.ps) (by ((try dsimp only) <;> (repeat first | assumption | with_reducible rfl | exact h_same rfl | refine h_ne (by first | assumption | omega) ?_))) (by ((try dsimp only) <;> (repeat first | assumption | with_reducible rfl | exact h_same rfl | refine h_ne (by first | assumption | omega) ?_))) d5 (.cons (.refl _) (.cons (.refl _) (.cons (.refl _) (.cons (.refl _) (.cons (.refl _) (.cons (.sl _) (Fzs.refl _)))))))) (Mv.trans (Mv.fz1 (q := f.L) (b := f.id) (cs := lnsC f.o.ls) (by ((try dsimp only) <;> (repeat first | assumption | with_reducible rfl | exact h_same rfl | refine h_ne (by first | assumption | omega) ?_))) (by ((try dsimp only) <;> (repeat first | assumption | with_reducible rfl | exact h_same rfl | refine h_ne (by first | assumption | omega) ?_))) d6 (.cons (.refl _) (.cons (.refl _) (.cons (.refl _) (.cons (.refl _) (.cons (.refl _) (.cons (.refl _) (.cons (.sl _) (Fzs.refl _))))))))) (Mv.trans (Mv.fz1 (q := f.K) (b := f.id) (cs := rlC f.o.kids) (by ((try dsimp only) <;> (repeat first | assumption | with_reducible rfl | exact h_same rfl | refine h_ne (by first | assumption | omega) ?_))) (by ((try dsimp only) <;> (repeat first | assumption | with_reducible rfl | exact h_same rfl | refine h_ne (by first | assumption | omega) ?_))) d7 (.cons (.refl _) (.cons (.refl _) (.cons (.refl _) (.cons (.refl _) (.cons (.refl _) (.cons (.refl _) (.cons (.refl _) (.cons (.sl _) (Fzs.refl _)))))))))) (Mv.fz1 (q := f.id) (b := g.K) (c := rlC g.o.kids ++ [.p f.id 0]) (c' := rlC g.o.kids ++ [.pl [.s f.o.w, .s f.o.d, .i .i64 f.o.fr, .i .i64 (i : Int), .i .i64 f.o.at_, .lst f.o.ps.length (psC f.o.ps), .lst f.o.ls.length (lnsC f.o.ls), .lst f.o.kids.len (rlC f.o.kids)]]) (by ((try dsimp only) <;> (repeat first | assumption | with_reducible rfl | exact h_same rfl | refine h_ne (by first | assumption | omega) ?_))) (by ((try dsimp only) <;> (repeat first | assumption | with_reducible rfl | exact h_same rfl | refine h_ne (by first | assumption | omega) ?_))) v2 (Fzs.append (Fzs.refl _) (.cons (.p 0) .nil)))))), ?_⟩
              refine ⟨_, rfl, ⟨i + 1, { g with o := { g.o with kids := g.o.kids.snoc f.o.w f.o.d f.o.fr i f.o.at_ f.o.ps f.o.ls f.o.kids } } :: r, R, O, h, rfl, ⟨?_, ?_, ⟨?_, ?_, ?_, ?_, ?_⟩, ?_, ?_⟩, ?_, ?_, ?_⟩, ?_⟩
              · simpa using hR
              · dsimp only
                rw [show (({ g with o := { g.o with kids := g.o.kids.snoc f.o.w f.o.d f.o.fr i f.o.at_ f.o.ps f.o.ls f.o.kids } } :: r).map fun f => SV.p f.id 0).reverse = C.take (g :: r).length by rw [hCt]; rfl]
                ((try dsimp only) <;> (repeat first | assumption | with_reducible rfl | exact h_same rfl | refine h_ne (by first | assumption | omega) ?_))
              · dsimp only [frC]
                rw [snoc_len]
                ((try dsimp only) <;> (repeat first | assumption | with_reducible rfl | exact h_same rfl | refine h_ne (by first | assumption | omega) ?_))
              · dsimp only; ((try dsimp only) <;> (repeat first | assumption | with_reducible rfl | exact h_same rfl | refine h_ne (by first | assumption | omega) ?_))
              · dsimp only; ((try dsimp only) <;> (repeat first | assumption | with_reducible rfl | exact h_same rfl | refine h_ne (by first | assumption | omega) ?_))
              · dsimp only
                rw [snoc_C, List.append_nil]
                ((try dsimp only) <;> (repeat first | assumption | with_reducible rfl | exact h_same rfl | refine h_ne (by first | assumption | omega) ?_))
              · exact stOk_of (fun y hy => by
                  have := hlt y (gm _ (.inr (.inr (.inr (.inr hy)))))
                  obtain ⟨y1, y2, y3, y4, y5⟩ := hfar y (gm _ (.inr (.inr (.inr (.inr hy)))))
                  obtain ⟨z1, z2, z3, z4, z5⟩ := gfar y hy
                  replace y1 := NeH.of y1
                  replace y2 := NeH.of y2
                  replace y3 := NeH.of y3
                  replace y4 := NeH.of y4
                  replace y5 := NeH.of y5
                  replace z5 := NeH.of z5
                  clear z1 z2 z3 z4
                  dsimp only
                  ((try dsimp only) <;> (repeat first | assumption | with_reducible rfl | exact h_same rfl | refine h_ne (by first | assumption | omega) ?_))) g5
              · exact List.nodup_cons.2 ⟨fun h => (hfar _ h).1 rfl, hndt⟩
              · intro y hy
                rcases List.mem_cons.1 hy with rfl | hy
                · exact Nat.lt_succ_of_lt hOn
                · exact Nat.lt_succ_of_lt (hlt y hy)
              · intro x hx
                rcases List.mem_cons.1 hx with rfl | hx
                · exact ⟨Nat.le_succ_of_le c1, Nat.le_succ_of_le c2, by dsimp only; rw [snoc_len]; omega⟩
                · exact (hbnd x (List.mem_cons_of_mem _ (List.mem_cons_of_mem _ hx))).mono (Nat.le_succ i)
              · simp only [List.length_cons] at hfs ⊢; omega
              · exact hrun
              · dsimp only; omega
        · have dw : decide (f.o.w = kb) = false := decide_eq_false hw
          have dw' : (!decide (f.o.w = kb)) = true := by rw [dw]; rfl
          have e := bad (by rw [ht, if_pos (.inl hw)])
          refine SC.seq ?_ nofun; refine SC.seq ?_ nofun; refine SC.regK ?_; refine k_mv ?_; refine k_mv ?_; refine k_bll ?_; refine k_it ?_; refine k_nil ?_; refine okS ?_ rfl; refine SC.cond_t rfl ?_; refine SC.skip ?_; refine SC.seq ?_ nofun; refine SC.blk ?_; refine SC.seq ?_ nofun; refine SC.regK ?_; refine k_mv ?_; refine k_mv ?_; refine k_ial ?_; refine k_fal ?_; refine k_ldl ?_; refine k_call (hc _) ?_; refine k_alc ?_; refine k_sts ?_ (c' := [SV.i IntKind.i64 2, SV.s ka, SV.s kb]); refine k_nil ?_; refine okS ?_ rfl; refine SC.seq ?_ nofun; refine SC.regK ?_; refine k_mv ?_; refine k_mv ?_; refine k_bll ?_; refine k_sub ?_; refine k_ia ?_; refine k_ldp ?_; refine k_mv ?_; refine k_nil ?_; refine okS ?_ rfl; refine SC.blk ?_; refine SC.seq ?_ nofun; refine SC.regK ?_; refine k_fa ?_; refine k_ldp ?_; refine k_if ?_; refine k_mv ?_; refine k_nil ?_; refine okS ?_ rfl; refine SC.cond_f rfl ?_; refine SC.seq ?_ nofun; refine SC.regK ?_; refine k_fa ?_; refine k_ldp ?_; refine k_if ?_; refine k_mv ?_; refine k_no ?_; refine k_no ?_; refine k_no ?_; refine k_pf ?_; refine k_mv ?_; refine k_nil ?_; refine okS ?_ rfl; refine SC.cond_f rfl ?_; refine SC.seq ?_ nofun; refine SC.regK ?_; refine k_fa ?_; refine k_ldp ?_; refine k_if ?_; refine k_mv ?_; refine k_nil ?_; refine okS ?_ rfl; refine SC.cond_f rfl ?_; refine SC.seq ?_ nofun; refine SC.dregK ?_; refine k_fa ?_; refine k_ldp ?_; refine k_it ?_; refine k_mv ?_; refine k_mv ?_; refine k_mv ?_; refine k_npp (hne := hfR) ?_; refine k_mv ?_; refine k_mv ?_; refine k_nilc ?_; refine k_fa ?_; refine k_ldp ?_; refine k_fa ?_; refine k_ldp ?_; refine k_st ?_; refine k_pf ?_; refine k_mv ?_; refine k_no ?_; refine k_no ?_; refine k_no ?_; refine k_no ?_; refine k_no ?_; refine k_pt ?_; refine k_pt ?_; refine k_mv ?_; refine k_nil ?_; refine okD (ne := []) ?_ (by kernel_rfl) trivial; refine SC.cond_t rfl ?_; refine SC.seq ?_ nofun; refine SC.regK ?_; refine k_mv ?_; refine k_add ?_; refine k_mv ?_; refine k_mv ?_; refine k_mv ?_
          refine k_nil ?_; refine okS ?_ rfl; refine SC.ret ?_
          skip
          refine ⟨_, rfl, ?_⟩
          dsimp only
          rw [e, if_neg (show (6 : Int) ≠ 0 by decide)]
          rfl
    · -- a property
      rw [hk] at hc
      simp only [rowV] at hc
      cases fs' with
      | nil =>
        obtain rfl : f.id = R := by simpa using hR
        have ht := takeR3a (b := f.o) (i := i) hk
        rw [show [f].map Fr.o = [f.o] from rfl, ht, if_neg (show (6 : Int) ≠ 0 by decide)] at hrun
        have e : blocksM l = (6, i + 1, [f.o]) := by rw [e0, hrun, if_pos (show (6 : Int) ≠ 0 by decide)]
        simp only [List.length_nil] at hC hCl ⊢
        refine SC.seq ?_ nofun; refine SC.seq ?_ nofun; refine SC.regK ?_; refine k_mv ?_; refine k_mv ?_; refine k_bll ?_; refine k_it ?_; refine k_nil ?_; refine okS ?_ rfl; refine SC.cond_t rfl ?_; refine SC.skip ?_; refine SC.seq ?_ nofun; refine SC.blk ?_; refine SC.seq ?_ nofun; refine SC.regK ?_; refine k_mv ?_; refine k_mv ?_; refine k_ial ?_; refine k_fal ?_; refine k_ldl ?_; refine k_call (hc _) ?_; refine k_alc ?_; refine k_sts ?_ (c' := [SV.i IntKind.i64 3, SV.s ka, SV.s kb]); refine k_nil ?_; refine okS ?_ rfl; refine SC.seq ?_ nofun; refine SC.regK ?_; refine k_mv ?_; refine k_mv ?_; refine k_bll ?_; refine k_sub ?_; refine k_ia ?_; refine k_ldp ?_; refine k_mv ?_; refine k_nil ?_; refine okS ?_ rfl; refine SC.blk ?_; refine SC.seq ?_ nofun; refine SC.regK ?_; refine k_fa ?_; refine k_ldp ?_; refine k_if ?_; refine k_mv ?_; refine k_nil ?_; refine okS ?_ rfl; refine SC.cond_f rfl ?_; refine SC.seq ?_ nofun; refine SC.regK ?_; refine k_fa ?_; refine k_ldp ?_; refine k_if ?_; refine k_mv ?_; refine k_no ?_; refine k_no ?_; refine k_no ?_; refine k_pf ?_; refine k_mv ?_; refine k_nil ?_; refine okS ?_ rfl; refine SC.cond_f rfl ?_; refine SC.seq ?_ nofun; refine SC.regK ?_; refine k_fa ?_; refine k_ldp ?_; refine k_if ?_; refine k_mv ?_; refine k_nil ?_; refine okS ?_ rfl; refine SC.cond_f rfl ?_; refine SC.seq ?_ nofun; refine SC.dregK ?_; refine k_fa ?_; refine k_ldp ?_; refine k_if ?_; refine k_mv ?_; refine k_no ?_; refine k_no ?_; refine k_no ?_; refine k_no ?_; refine k_no ?_; refine k_no ?_; refine k_no ?_; refine k_no ?_; refine k_no ?_; refine k_no ?_; refine k_no ?_; refine k_no ?_; refine k_no ?_; refine k_no ?_; refine k_no ?_; refine k_no ?_; refine k_no ?_; refine k_no ?_; refine k_no ?_; refine k_pf ?_; refine k_mv ?_; refine k_nil ?_; refine okD (ne := []) ?_ (by kernel_rfl) trivial; refine SC.cond_f rfl ?_; refine SC.seq ?_ nofun; refine SC.regK ?_; refine k_fa ?_; refine k_ldp ?_; refine k_if ?_; refine k_mv ?_; refine k_nil ?_; refine okS ?_ rfl
        refine SC.cond_f rfl ?_; refine SC.seq ?_ nofun; refine SC.regK ?_; refine k_fa ?_; refine k_ldp ?_; refine k_it ?_; refine k_mv ?_; refine k_mv ?_; refine k_mv ?_; refine k_pp ?_; refine k_pt ?_; refine k_mv ?_; refine k_nil ?_; refine okS ?_ rfl; refine SC.cond_t rfl ?_; refine SC.seq ?_ nofun; refine SC.regK ?_; refine k_mv ?_; refine k_add ?_; refine k_mv ?_; refine k_mv ?_; refine k_mv ?_; refine k_nil ?_; refine okS ?_ rfl; refine SC.ret ?_
        skip
        refine ⟨_, rfl, ?_⟩
        dsimp only
        rw [e, if_neg (show (6 : Int) ≠ 0 by decide)]
        rfl
      | cons g r =>
        have hfR : f.id ≠ R := by
          have : R ∈ ids (g :: r) := by
            have h2 := (root_row (fs := g :: r) (R := R) (by simpa using hR) h5).2
            exact h2
          exact fun e => (hfar R this).2.1 e.symm
        have ht := takeR3 (b := f.o) (g := g.o) (r := r.map Fr.o) (i := i) hk
        rw [show (f :: g :: r).map Fr.o = f.o :: g.o :: r.map Fr.o from rfl] at hrun
        have h1' : H f.id = rowR [.s f.o.w, .s f.o.d, .i .i64 f.o.fr, .i .i64 (0 : Nat), .i .i64 f.o.at_, .sl f.P 0 f.o.ps.length, .sl f.L 0 f.o.ls.length, .sl f.K 0 f.o.kids.len] := h1
        have hp := fun (H' : Nat → Option Blk) (e : ∀ y, y < n' → H' y = H y) => rprop_sc (H := H') (n := n' + 1) (q := f.id) (P := f.P) (L := f.L) (w := ka) (v := kb) (at1 := i) (by rw [e _ hn0]; exact h1') (by rw [e _ hn1]; exact h2) (by rw [e _ hn2]; exact h3) d5 d6 d8 (by omega) (by omega) (by omega) (by omega) (by omega) (by omega)
        have bad : takeR (f.o :: g.o :: r.map Fr.o) i tx = (7, f.o :: g.o :: r.map Fr.o) → blocksM l = (7, i + 1, f.o :: g.o :: r.map Fr.o) := fun e => by
          rw [e, if_neg (show (7 : Int) ≠ 0 by decide)] at hrun
          rw [e0, hrun, if_pos (show (7 : Int) ≠ 0 by decide)]
        refine SC.seq ?_ nofun; refine SC.seq ?_ nofun; refine SC.regK ?_; refine k_mv ?_; refine k_mv ?_; refine k_bll ?_; refine k_it ?_; refine k_nil ?_; refine okS ?_ rfl; refine SC.cond_t rfl ?_; refine SC.skip ?_; refine SC.seq ?_ nofun; refine SC.blk ?_; refine SC.seq ?_ nofun; refine SC.regK ?_; refine k_mv ?_; refine k_mv ?_; refine k_ial ?_; refine k_fal ?_; refine k_ldl ?_; refine k_call (hc _) ?_; refine k_alc ?_; refine k_sts ?_ (c' := [SV.i IntKind.i64 3, SV.s ka, SV.s kb]); refine k_nil ?_; refine okS ?_ rfl; refine SC.seq ?_ nofun; refine SC.regK ?_; refine k_mv ?_; refine k_mv ?_; refine k_bll ?_; refine k_sub ?_; refine k_ia ?_; refine k_ldp ?_; refine k_mv ?_; refine k_nil ?_; refine okS ?_ rfl; refine SC.blk ?_; refine SC.seq ?_ nofun; refine SC.regK ?_; refine k_fa ?_; refine k_ldp ?_; refine k_if ?_; refine k_mv ?_; refine k_nil ?_; refine okS ?_ rfl; refine SC.cond_f rfl ?_; refine SC.seq ?_ nofun; refine SC.regK ?_; refine k_fa ?_; refine k_ldp ?_; refine k_if ?_; refine k_mv ?_; refine k_no ?_; refine k_no ?_; refine k_no ?_; refine k_pf ?_; refine k_mv ?_; refine k_nil ?_; refine okS ?_ rfl; refine SC.cond_f rfl ?_; refine SC.seq ?_ nofun; refine SC.regK ?_; refine k_fa ?_; refine k_ldp ?_; refine k_if ?_; refine k_mv ?_; refine k_nil ?_; refine okS ?_ rfl; refine SC.cond_f rfl ?_; refine SC.seq ?_ nofun; refine SC.dregK ?_; refine k_fa ?_; refine k_ldp ?_; refine k_if ?_; refine k_mv ?_; refine k_no ?_; refine k_no ?_; refine k_no ?_; refine k_no ?_; refine k_no ?_; refine k_no ?_; refine k_no ?_; refine k_no ?_; refine k_no ?_; refine k_no ?_; refine k_no ?_; refine k_no ?_; refine k_no ?_; refine k_no ?_; refine k_no ?_; refine k_no ?_; refine k_no ?_; refine k_no ?_; refine k_no ?_; refine k_pf ?_; refine k_mv ?_; refine k_nil ?_; refine okD (ne := []) ?_ (by kernel_rfl) trivial; refine SC.cond_f rfl ?_; refine SC.seq ?_ nofun; refine SC.regK ?_; refine k_fa ?_; refine k_ldp ?_; refine k_if ?_; refine k_mv ?_; refine k_nil ?_; refine okS ?_ rfl
        refine SC.cond_f rfl ?_; refine SC.seq ?_ nofun; refine SC.regK ?_; refine k_fa ?_; refine k_ldp ?_; refine k_it ?_; refine k_mv ?_; refine k_mv ?_; refine k_mv ?_; refine k_npp (hne := hfR) ?_; refine k_pt ?_; refine k_mv ?_; refine k_nil ?_; refine okS ?_ rfl; refine SC.cond_f rfl ?_; refine SC.seq ?_ nofun; refine SC.regK ?_; refine k_fa ?_; refine k_ldp ?_; refine k_it ?_; refine k_mv ?_; refine k_nil ?_; refine okS ?_ rfl; refine SC.cond_t rfl ?_; refine SC.seq ?_ nofun; refine SC.regK ?_; refine k_mv ?_; refine k_lnp ?_ (c' := [SV.i IntKind.i64 3, SV.s ka, SV.s kb]); refine k_mv ?_; refine k_callR (hp _ (fun y hy => by ((try dsimp only) <;> (repeat first | assumption | with_reducible rfl | exact h_same rfl | refine h_ne (by first | assumption | omega) ?_)))) ?_ (hok := okCS rfl)
        skip
        rintro rv ⟨H2, n2⟩ hpost
        by_cases hI' : ka = bID
        · rw [if_pos hI'] at hpost ht
          by_cases h0 : 0 < f.o.at_
          · rw [if_pos h0] at hpost ht
            subst hpost
            have e := bad ht
            refine k_mv ?_; refine k_nil ?_; refine okS ?_ rfl; refine SC.seq ?_ nofun; refine SC.regK ?_; refine k_mv ?_; refine k_it ?_; refine k_nil ?_; refine okS ?_ rfl; refine SC.cond_t rfl ?_; refine SC.seq ?_ nofun; refine SC.regK ?_; refine k_mv ?_; refine k_add ?_; refine k_mv ?_; refine k_mv ?_; refine k_mv ?_; refine k_mv ?_; refine k_nil ?_; refine okS ?_ rfl; refine SC.ret ?_
            refine ⟨_, rfl, ?_⟩
            dsimp only
            rw [e, if_neg (show (7 : Int) ≠ 0 by decide)]
            rfl
          · rw [if_neg h0] at hpost ht
            obtain ⟨rfl, o1, o2⟩ := hpost
            rw [ht, if_pos rfl] at hrun
            dsimp only at o1 o2
            refine k_mv ?_; refine k_nil ?_; refine okS ?_ rfl; refine SC.seq ?_ nofun; refine SC.regK ?_; refine k_mv ?_; refine k_if ?_; refine k_nil ?_; refine okS ?_ rfl; refine SC.cond_f rfl ?_; refine SC.skip ?_; refine SC.regK ?_; refine k_mv ?_; refine k_add ?_; refine k_mv ?_; refine k_nil ?_; refine okS ?_ rfl
            refine ⟨_, rfl, ⟨i + 1, { f with o := { f.o with d := kb, at_ := i + 1 } } :: g :: r, R, O, h, rfl, ⟨?_, ?_, ⟨?_, ?_, ?_, ?_, ?_⟩, hnd, fun y hy => ?_⟩, ?_, ?_, ?_⟩, ?_⟩
            · simpa using hR
            · show H2 O = rowK (((f :: g :: r).map fun f => SV.p f.id 0).reverse)
              rw [hCC, o2 _ (by omega), upd_ne _ _ d1, upd_ne _ _ (by omega)]
              exact hO
            · dsimp only
              rw [o2 _ (by omega), upd_same]
              rfl
            · dsimp only
              rw [o2 _ (by omega), upd_ne _ _ (fun e => d5 e.symm), upd_ne _ _ (by omega)]
              exact h2
            · dsimp only
              rw [o2 _ (by omega), upd_ne _ _ (fun e => d6 e.symm), upd_ne _ _ (by omega)]
              exact h3
            · dsimp only
              rw [o2 _ (by omega), upd_ne _ _ (fun e => d7 e.symm), upd_ne _ _ (by omega)]
              exact h4
            · exact stOk_of (fun y hy => by
                have := hlt y hy
                dsimp only
                rw [o2 _ (by omega), upd_ne _ _ (hfar y hy).2.1, upd_ne _ _ (by omega)]) h5
            · have : y < n' := hI.lt y hy
              dsimp only; omega
            · intro x hx
              rcases List.mem_cons.1 hx with rfl | hx
              · exact bndR.mono ⟨b1, b2, b3⟩ (Nat.le_succ i)
              · exact (hbnd x (List.mem_cons_of_mem _ hx)).mono (Nat.le_succ i)
            · exact hfs
            · exact hrun
            · dsimp only; omega
        · rw [if_neg hI'] at hpost ht
          by_cases hh : hasP ka kb f.o.ps = true
          · rw [if_pos hh] at hpost ht
            subst hpost
            have e := bad ht
            refine k_mv ?_; refine k_nil ?_; refine okS ?_ rfl; refine SC.seq ?_ nofun; refine SC.regK ?_; refine k_mv ?_; refine k_it ?_; refine k_nil ?_; refine okS ?_ rfl; refine SC.cond_t rfl ?_; refine SC.seq ?_ nofun; refine SC.regK ?_; refine k_mv ?_; refine k_add ?_; refine k_mv ?_; refine k_mv ?_; refine k_mv ?_; refine k_mv ?_; refine k_nil ?_; refine okS ?_ rfl; refine SC.ret ?_
            refine ⟨_, rfl, ?_⟩
            dsimp only
            rw [e, if_neg (show (7 : Int) ≠ 0 by decide)]
            rfl
          · rw [if_neg hh] at hpost ht
            obtain ⟨rfl, P', L', p1, p2, p3, p4, p5, p6, p7, p8, p9, p10⟩ := hpost
            rw [ht, if_pos rfl] at hrun
            dsimp only at p4 p5 p6 p7 p8 p9 p10
            have o2 : ∀ y, y < n' → y ≠ f.id → y ≠ f.P → y ≠ f.L → H2 y = H y := fun y h1 h2 h3 h4 => by
              rw [p10 y (by omega) h2 h3 h4, upd_ne _ _ (by omega)]
            refine k_mv ?_; refine k_nil ?_; refine okS ?_ rfl; refine SC.seq ?_ nofun; refine SC.regK ?_; refine k_mv ?_; refine k_if ?_; refine k_nil ?_; refine okS ?_ rfl; refine SC.cond_f rfl ?_; refine SC.skip ?_; refine SC.regK ?_; refine k_mv ?_; refine k_add ?_; refine k_mv ?_; refine k_nil ?_; refine okS ?_ rfl
            refine ⟨_, rfl, ⟨i + 1, { f with P := P', L := L', o := { f.o with ps := f.o.ps ++ [(ka, kb)], ls := f.o.ls ++ [i] } } :: g :: r, R, O, h, rfl, ⟨?_, ?_, ⟨?_, ?_, ?_, ?_, ?_⟩, ?_, ?_⟩, ?_, ?_, ?_⟩, ?_⟩
            · simpa using hR
            · show H2 O = rowK (((f :: g :: r).map fun f => SV.p f.id 0).reverse)
              rw [hCC, o2 _ hOn d1 d2 d3]
              exact hO
            · dsimp only [frC]
              rw [p7]
              simp only [List.length_append, List.length_cons, List.length_nil]
              rfl
            · exact p8
            · exact p9
            · dsimp only
              rw [o2 _ hn3 (fun e => d7 e.symm) (fun e => d9 e.symm) (fun e => d10 e.symm)]
              exact h4
            · exact stOk_of (fun y hy => by
                have := hlt y hy
                obtain ⟨y1, y2, y3, y4, y5⟩ := hfar y hy
                dsimp only
                rw [o2 _ this y2 y3 y4]) h5
            · refine nd5.2 ⟨⟨d1, ?_, ?_, d4, ?_, ?_, d7, p3, ?_, ?_⟩, fun y hy => ?_, hndt⟩ <;> (try dsimp only)
              · omega
              · omega
              · omega
              · omega
              · omega
              · omega
              · have := hlt y hy
                obtain ⟨y1, y2, y3, y4, y5⟩ := hfar y hy
                refine ⟨y1, y2, ?_, ?_, y5⟩ <;> omega
            · intro y hy
              rcases List.mem_cons.1 hy with rfl | hy
              · dsimp only; omega
              · rcases mem_ids.1 hy with rfl | rfl | rfl | rfl | hy <;> (try dsimp only)
                · omega
                · omega
                · omega
                · omega
                · have := hlt y hy
                  omega
            · intro x hx
              rcases List.mem_cons.1 hx with rfl | hx
              · refine ⟨?_, ?_, Nat.le_succ_of_le b3⟩
                · simp only [List.length_append, List.length_cons, List.length_nil]; omega
                · simp only [List.length_append, List.length_cons, List.length_nil]; omega
              · exact (hbnd x (List.mem_cons_of_mem _ hx)).mono (Nat.le_succ i)
            · exact hfs
            · exact hrun
            · dsimp only; omega
    · -- an error
      rw [hk] at hc
      simp only [rowV] at hc
      have ht := takeR4 (os := (f :: fs').map Fr.o) (i := i) hk
      rw [ht, if_neg (show (6 : Int) ≠ 0 by decide)] at hrun
      have e : blocksM l = (6, i + 1, (f :: fs').map Fr.o) := by rw [e0, hrun, if_pos (show (6 : Int) ≠ 0 by decide)]
      refine SC.seq ?_ nofun; refine SC.seq ?_ nofun; refine SC.regK ?_; refine k_mv ?_; refine k_mv ?_; refine k_bll ?_; refine k_it ?_; refine k_nil ?_; refine okS ?_ rfl; refine SC.cond_t rfl ?_; refine SC.skip ?_; refine SC.seq ?_ nofun; refine SC.blk ?_; refine SC.seq ?_ nofun; refine SC.regK ?_; refine k_mv ?_; refine k_mv ?_; refine k_ial ?_; refine k_fal ?_; refine k_ldl ?_; refine k_call (hc _) ?_; refine k_alc ?_; refine k_sts ?_ (c' := [SV.i IntKind.i64 4, SV.s ka, SV.s kb]); refine k_nil ?_; refine okS ?_ rfl; refine SC.seq ?_ nofun; refine SC.regK ?_; refine k_mv ?_; refine k_mv ?_; refine k_bll ?_; refine k_sub ?_; refine k_ia ?_; refine k_ldp ?_; refine k_mv ?_; refine k_nil ?_; refine okS ?_ rfl; refine SC.blk ?_; refine SC.seq ?_ nofun; refine SC.regK ?_; refine k_fa ?_; refine k_ldp ?_; refine k_it ?_; refine k_mv ?_; refine k_nil ?_; refine okS ?_ rfl; refine SC.cond_t rfl ?_; refine SC.seq ?_ nofun; refine SC.regK ?_; refine k_mv ?_; refine k_add ?_; refine k_mv ?_; refine k_mv ?_; refine k_mv ?_; refine k_nil ?_; refine okS ?_ rfl; refine SC.ret ?_
      refine ⟨_, rfl, ?_⟩
      dsimp only
      rw [e, if_neg (show (6 : Int) ≠ 0 by decide)]
      rfl
  · obtain rfl : i = l.length := by omega
    rw [List.drop_length, runR] at hrun
    rw [hrun, if_neg (by simp)] at e0
    dsimp only at e0
    rw [List.length_map] at e0
    by_cases h1 : 1 < fs.length
    · rw [if_pos h1] at e0
      refine SC.seq ?_ nofun; refine SC.seq ?_ nofun; refine SC.regK ?_; refine k_mv ?_; refine k_mv ?_; refine k_bll ?_; refine k_if ?_; refine k_nil ?_; refine okS ?_ rfl; refine SC.cond_f rfl ?_; refine SC.exit ?_; refine SC.seq ?_ nofun; refine SC.seq ?_ nofun; refine SC.regK ?_; refine k_mv ?_; refine k_bll ?_; refine k_it ?_; refine k_nil ?_; refine okS ?_ rfl; refine SC.cond_t rfl ?_; refine SC.seq ?_ nofun; refine SC.regK ?_; refine k_mv ?_; refine k_bll ?_; refine k_mv ?_; refine k_mv ?_; refine k_mv ?_; refine k_nil ?_; refine okS ?_ rfl; refine SC.ret ?_
      refine ⟨_, rfl, ?_⟩
      dsimp only
      rw [e0, if_neg (show (6 : Int) ≠ 0 by decide)]
    · rw [if_neg h1] at e0
      match fs, hR, hI, h1, e0 with
      | [], hR, _, _, _ => simp at hR
      | [f], hR, hI, h1, e0 =>
        obtain rfl : f.id = R := by simpa using hR
        simp only [List.length_cons, List.length_nil, Nat.zero_add] at h1 ⊢
        refine SC.seq ?_ nofun; refine SC.seq ?_ nofun; refine SC.regK ?_; refine k_mv ?_; refine k_mv ?_; refine k_bll ?_; refine k_if ?_; refine k_nil ?_; refine okS ?_ rfl; refine SC.cond_f rfl ?_; refine SC.exit ?_; refine SC.seq ?_ nofun; refine SC.seq ?_ nofun; refine SC.regK ?_; refine k_mv ?_; refine k_bll ?_; refine k_if ?_; refine k_nil ?_; refine okS ?_ rfl; refine SC.cond_f rfl ?_; refine SC.skip ?_; refine SC.seq ?_ nofun; refine SC.regK ?_; refine k_mv ?_; refine k_mv ?_; refine k_mv ?_; refine k_mv ?_; refine k_nil ?_; refine okS ?_ rfl; refine SC.ret ?_
        refine ⟨_, rfl, ?_⟩
        dsimp only
        rw [e0, if_pos rfl]
        exact ⟨f.id, O, f, rfl, hI, rfl⟩
      | _ :: _ :: _, _, _, h1, _ => exact absurd (by simp) h1
end Go.Proofs.YtpacfelhjjmmkaaDoor
end
section
set_option maxHeartbeats 20000000
namespace Go.Proofs.YtpacfelhjjmmkaaDoor
open Go Go.Sy Go.Tr
set_option linter.unusedVariables false
set_option linter.unusedSimpArgs false
theorem kid_sc (t : Tr) (nm : ByteArray) (s : St) (hz : t.len ≤ 1000000) : SCall Tryd.prog 35 [tv t, .s nm.data.toList] s (getV (t.get1 nm)) s := by
  obtain ⟨H, n⟩ := s
  have hlo : Lo n (getV (t.get1 nm)) := by
    have hc : ∀ t : Tr, Los n (tvc t) := fun t => by
      induction t with
      | nil => exact .nil
      | cons a k r ihk ihr => exact .cons .s (.cons (.lst ihk) ihr)
    cases t.get1 nm with
    | none => exact .tup (.cons .nils (.cons .b .nil))
    | some k => exact .tup (.cons (.lst (hc k)) (.cons .b .nil))
  refine SCallR.pure (SCallR.enter cc_cadenceref2_Kid ?_) hlo
  have hat := at_sc t nm
  dsimp only [c_cadenceref2_Kid, argT, tv] at hat ⊢
  cases hh : hasL t.names nm with
  | false =>
    rw [hh] at hat
    have hg : t.get1 nm = none := by unfold Tr.get1; rw [hh]; rfl
    refine SC.seq ?_ nofun; refine SC.regK ?_; refine k_mv ?_; refine k_mv ?_; refine k_nil ?_; refine okS ?_ rfl; refine SC.seq ?_ nofun; refine SC.regK ?_; refine k_mv ?_; refine k_mv ?_; refine k_call (hat _ hz) ?_; refine k_mv ?_; refine k_ext ?_; refine k_ext ?_; refine k_mv ?_; refine k_mv ?_; refine k_nil ?_; refine okS ?_ rfl; refine SC.seq ?_ nofun; refine SC.seq ?_ nofun; refine SC.regK ?_; refine k_mv ?_; refine k_not ?_; refine k_nil ?_; refine okS ?_ rfl; refine SC.cond_t rfl ?_; refine SC.seq ?_ nofun; refine SC.regK ?_; refine k_mv ?_; refine k_mv ?_; refine k_nil ?_; refine okS ?_ rfl; refine SC.ret ?_
    refine ⟨_, rfl, ?_, fun _ _ => rfl⟩
    rw [hg]; rfl
  | true =>
    rw [hh] at hat
    have hi : posL t.names nm < t.len := by
      have := hasL_iff.1 hh
      have := (List.getElem?_eq_some_iff.1 this).1
      rwa [Tr.names_length] at this
    obtain ⟨a, kd, ht⟩ := t.at_some hi
    obtain ⟨h1, h2⟩ := tvc_at ht
    have hg : t.get1 nm = some kd := by unfold Tr.get1; rw [hh, ht]; rfl
    generalize posL t.names nm = p at *
    refine SC.seq ?_ nofun; refine SC.regK ?_; refine k_mv ?_; refine k_mv ?_; refine k_nil ?_; refine okS ?_ rfl; refine SC.seq ?_ nofun; refine SC.regK ?_; refine k_mv ?_; refine k_mv ?_; refine k_call (hat _ hz) ?_; refine k_mv ?_; refine k_ext ?_; refine k_ext ?_; refine k_mv ?_; refine k_mv ?_; refine k_nil ?_; refine okS ?_ rfl; refine SC.seq ?_ nofun; refine SC.seq ?_ nofun; refine SC.regK ?_; refine k_mv ?_; refine k_not ?_; refine k_nil ?_; refine okS ?_ rfl; refine SC.cond_f rfl ?_; refine SC.skip ?_; refine SC.seq ?_ nofun; refine SC.regK ?_; refine k_mv ?_; refine k_mv ?_; refine k_ial ?_; refine k_fal ?_; refine k_ldl ?_; refine k_mv ?_; refine k_mv ?_; refine k_nil ?_; refine okS ?_ rfl; refine SC.ret ?_
    refine ⟨_, rfl, ?_, fun _ _ => rfl⟩
    rw [hg]; rfl
end Go.Proofs.YtpacfelhjjmmkaaDoor
end
section
namespace Go.Proofs.YtpacfelhjjmmkaaDoor
open Go Go.Sy Go.Tr Go.Kb Go.RowKit Go.Cd
set_option linter.unusedVariables false
set_option linter.unusedSimpArgs false
def rbV (w d : List UInt8) (fr tl at_ : Nat) (ps : List (List UInt8 × List UInt8)) (ls : List Nat) (kids : RL) : SV := .pl [.s w, .s d, .i .i64 fr, .i .i64 tl, .i .i64 at_, .lst ps.length (psC ps), .lst ls.length (lnsC ls), .lst kids.len (rlC kids)]
def rootV : List OR → SV
  | [o] => rbV o.w o.d o.fr 0 o.at_ o.ps o.ls o.kids
  | _ => .nilp
def blocksV (r : Int × Nat × List OR) : SV := .tup [if r.1 = 0 then rootV r.2.2 else .nilp, .i .i64 r.2.1, .i .i64 r.1]
theorem los_ps (n : Nat) : ∀ ps, Los n (psC ps)
  | [] => .nil
  | p :: ps => .cons .i (.cons .s (.cons .s (los_ps n ps)))
theorem los_lns (n : Nat) : ∀ ls, Los n (lnsC ls)
  | [] => .nil
  | p :: ps => .cons .i (los_lns n ps)
theorem los_rl (n : Nat) : ∀ r, Los n (rlC r)
  | .nil => .nil
  | .cons _ _ _ _ _ ps ls k r => .cons (.pl (.cons .s (.cons .s (.cons .i (.cons .i (.cons .i (.cons (.lst (los_ps n ps)) (.cons (.lst (los_lns n ls)) (.cons (.lst (los_rl n k)) .nil))))))))) (los_rl n r)
theorem lo_rb (n : Nat) {w d : List UInt8} {fr tl at_ : Nat} {ps : List (List UInt8 × List UInt8)} {ls : List Nat} {kids : RL} : Lo n (rbV w d fr tl at_ ps ls kids) := .pl (.cons .s (.cons .s (.cons .i (.cons .i (.cons .i (.cons (.lst (los_ps n ps)) (.cons (.lst (los_lns n ls)) (.cons (.lst (los_rl n kids)) .nil))))))))
theorem lo_blocksV (n : Nat) (r : Int × Nat × List OR) : Lo n (blocksV r) := by
  unfold blocksV
  refine .tup (.cons ?_ (.cons .i (.cons .i .nil)))
  split
  · unfold rootV
    split
    · exact lo_rb n
    · exact .nilp
  · exact .nilp
theorem blocks_n {l : List (List UInt8 × List UInt8)} (h : (blocksM l).1 = 0) : (blocksM l).2.1 = 0 := by
  revert h
  unfold blocksM
  repeat' split
  · rename_i h1; exact fun h => absurd h h1
  · exact fun h => absurd h (show (6 : Int) ≠ 0 by decide)
  · intro _; rfl
set_option maxHeartbeats 1000000 in
theorem blocks_sc (l : List (List UInt8 × List UInt8)) (n : Nat) (hl : l.length ≤ 4000) (htx : ∀ x ∈ l, x.1.length ≤ 1000000) : SCall Tryd.prog 20 [.lst l.length (lineC l)] ⟨A0, n⟩ (blocksV (blocksM l)) ⟨A0, n⟩ := by
  refine SCallR.pure ?_ (lo_blocksV n _)
  by_cases h0 : (blocksM l).1 = 0
  · refine SCallR.fz2 (SCallR.mv ((blocks_raw l n hl htx).mono ?_))
    intro r s' h
    rw [if_pos h0] at h
    obtain ⟨R, O, f, rfl, hI, ho⟩ := h
    obtain rfl : f.id = R := by simpa using hI.hR
    obtain ⟨H, n'⟩ := s'
    have hst := hI.st
    dsimp only at hst
    obtain ⟨h1, h2, h3, h4, _⟩ := hst
    obtain ⟨⟨d1, d2, d3, d4, d5, d6, d7, d8, d9, d10⟩, _, _⟩ := nd5.1 hI.nd
    have h1' : H f.id = rowR [.s f.o.w, .s f.o.d, .i .i64 f.o.fr, .i .i64 (0 : Nat), .i .i64 f.o.at_, .sl f.P 0 f.o.ps.length, .sl f.L 0 f.o.ls.length, .sl f.K 0 f.o.kids.len] := h1
    have h4' : H f.K = rowK (rlC f.o.kids) := by rw [h4, List.append_nil]
    refine ⟨_, Mv.trans (Mv.fz1 (q := f.P) (b := f.id) (cs := psC f.o.ps) (by ((try dsimp only) <;> (repeat first | assumption | with_reducible rfl | exact h_same rfl | refine h_ne (by first | assumption | omega) ?_))) (by ((try dsimp only) <;> (repeat first | assumption | with_reducible rfl | exact h_same rfl | refine h_ne (by first | assumption | omega) ?_))) d5 (.cons (.refl _) (.cons (.refl _) (.cons (.refl _) (.cons (.refl _) (.cons (.refl _) (.cons (.sl _) (Fzs.refl _)))))))) (Mv.trans (Mv.fz1 (q := f.L) (b := f.id) (cs := lnsC f.o.ls) (by ((try dsimp only) <;> (repeat first | assumption | with_reducible rfl | exact h_same rfl | refine h_ne (by first | assumption | omega) ?_))) (by ((try dsimp only) <;> (repeat first | assumption | with_reducible rfl | exact h_same rfl | refine h_ne (by first | assumption | omega) ?_))) d6 (.cons (.refl _) (.cons (.refl _) (.cons (.refl _) (.cons (.refl _) (.cons (.refl _) (.cons (.refl _) (.cons (.sl _) (Fzs.refl _))))))))) (Mv.fz1 (q := f.K) (b := f.id) (cs := rlC f.o.kids) (by ((try dsimp only) <;> (repeat first | assumption | with_reducible rfl | exact h_same rfl | refine h_ne (by first | assumption | omega) ?_))) (by ((try dsimp only) <;> (repeat first | assumption | with_reducible rfl | exact h_same rfl | refine h_ne (by first | assumption | omega) ?_))) d7 (.cons (.refl _) (.cons (.refl _) (.cons (.refl _) (.cons (.refl _) (.cons (.refl _) (.cons (.refl _) (.cons (.refl _) (.cons (.sl _) (Fzs.refl _))))))))))), ?_⟩
    refine ⟨f.id, _, _, _, _, ⟨A0, n'⟩, by ((try dsimp only) <;> (repeat first | assumption | with_reducible rfl | exact h_same rfl | refine h_ne (by first | assumption | omega) ?_)), .tup (.cons (.p 0) (Fzs.refl _)), ⟨Nat.le_refl _, fun b k' e => by cases e⟩, ?_, fun b hb => rfl⟩
    unfold blocksV
    rw [if_pos h0, h0, blocks_n h0, ho]
    rfl
  · refine SCallR.fewer ((blocks_raw l n hl htx).mono ?_)
    intro r s' h
    rw [if_neg h0] at h
    subst h
    refine ⟨⟨A0, s'.nxt⟩, (fun b k e => by cases e), Nat.le_refl _, ?_, fun b hb => rfl⟩
    unfold blocksV
    rw [if_neg h0]
def propsA : Tr → List (List UInt8 × List UInt8) → Tr
  | t, [] => t
  | t, p :: ps => propsA (t.putp (pth [p.1, p.2]) .nil) ps
def cT (k p : Tr) : Tr := .cons (bA nBlocks) k (.cons (bA nProps) p .nil)
def kidsA : Tr → RL → Tr
  | t, .nil => t
  | t, .cons w d _ _ _ ps _ k r => kidsA (t.putp (pth [w, d]) (cT (kidsA .nil k) (propsA .nil ps))) r
def _root_.Go.Cd.RL.wt : RL → Nat
  | .nil => 0
  | .cons _ _ _ _ _ ps _ k r => 4 + 2 * ps.length + k.wt + r.wt
theorem propsA_size : ∀ (ps : List (List UInt8 × List UInt8)) (t : Tr), (propsA t ps).size ≤ t.size + 2 * ps.length
  | [], t => Nat.le_refl _
  | p :: ps, t => by
    have h1 := propsA_size ps (t.putp (pth [p.1, p.2]) .nil)
    have h2 := Tr.putp_size2 (x := .nil) (pth [p.1, p.2]) t
    simp only [propsA, pth, List.map_cons, List.map_nil, List.length_cons, List.length_nil, Tr.size] at h1 h2 ⊢
    omega
theorem kidsA_size : ∀ (r : RL) (t : Tr), (kidsA t r).size ≤ t.size + r.wt
  | .nil, t => Nat.le_refl _
  | .cons w d _ _ _ ps _ k r, t => by
    have h0 := kidsA_size k .nil
    have h3 := propsA_size ps .nil
    have h1 := kidsA_size r (t.putp (pth [w, d]) (cT (kidsA .nil k) (propsA .nil ps)))
    have h2 := Tr.putp_size2 (x := cT (kidsA .nil k) (propsA .nil ps)) (pth [w, d]) t
    simp only [kidsA, RL.wt, cT, pth, List.map_cons, List.map_nil, List.length_cons, List.length_nil, Tr.size] at h0 h1 h2 h3 ⊢
    omega
theorem get1_size {t k : Tr} {nm : ByteArray} (h : t.get1 nm = some k) : k.size ≤ t.size := by
  have := Tr.getD_size t nm
  rw [h] at this
  exact this
theorem with0_sc (x : Tr) (nm : ByteArray) (s : St) : SCall Tryd.prog 36 [.nils, .s nm.data.toList, tv x] s (tv (Tr.nil.set1 nm x)) s := (with_sc .nil x nm s (by simp [Tr.len])).args (.cons .nil (.cons (.refl _) (.cons (.refl _) .nil)))
theorem withN_sc (t : Tr) (nm : ByteArray) (s : St) (hz : t.len ≤ 1000000) : SCall Tryd.prog 36 [tv t, .s nm.data.toList, .nils] s (tv (t.set1 nm .nil)) s := (with_sc t .nil nm s hz).args (.cons (.refl _) (.cons (.refl _) (.cons .nil .nil)))
theorem with0N_sc (nm : ByteArray) (s : St) : SCall Tryd.prog 36 [.nils, .s nm.data.toList, .nils] s (tv (Tr.nil.set1 nm .nil)) s := (with_sc .nil .nil nm s (by simp [Tr.len])).args (.cons .nil (.cons (.refl _) (.cons .nil .nil)))
end Go.Proofs.YtpacfelhjjmmkaaDoor
end
section
set_option maxHeartbeats 20000000
namespace Go.Proofs.YtpacfelhjjmmkaaDoor
open Go Go.Sy Go.Tr Go.Kb Go.RowKit Go.Cd
set_option linter.unusedVariables false
set_option linter.unusedSimpArgs false
theorem len_wt : ∀ r : RL, r.len ≤ r.wt
  | .nil => Nat.le_refl _
  | .cons _ _ _ _ _ ps _ k r => by
    have := len_wt r
    simp only [RL.len, RL.wt]
    omega
section
variable {w d : List UInt8} {fr tl at_ : Nat} {ps : List (List UInt8 × List UInt8)} {ls : List Nat} {kids : RL}
theorem content_of (hps : ps.length ≤ 100000) (hk : ∀ s, SCall Tryd.prog 22 [rbV w d fr tl at_ ps ls kids] s (tv (kidsA .nil kids)) s) (s : St) :
    SCall Tryd.prog 37 [rbV w d fr tl at_ ps ls kids] s (tv (cT (kidsA .nil kids) (propsA .nil ps))) s := by
  obtain ⟨H, n⟩ := s
  refine SCallR.pure (SCallR.frz (SCallR.enter cc_cadenceref8_Block_content ?_)) (lo_tv _ _)
  unfold rbV at hk ⊢
  dsimp only [c_cadenceref8_Block_content, argT]
  have hpl := psC_len ps
  have hpa := psC_at ps
  refine SC.seq ?_ nofun; refine SC.regK ?_; refine k_mv ?_; refine k_nil ?_; refine okS ?_ rfl; refine SC.seq ?_ nofun; refine SC.regK ?_; refine k_mv ?_; refine k_nil ?_; refine okS ?_ rfl; refine SC.seq ?_ nofun; refine SC.seq ?_ nofun; refine SC.regK ?_; refine k_mv ?_; refine k_nil ?_; refine okS ?_ rfl; refine SC.blk ?_
  refine SC.wkT (t := 3) (v' := tv .nil) rfl .nil ?_
  refine SC.loop [0, 3, 4] (fun vs s' => ∃ (i : Nat) (t : Tr), i ≤ ps.length ∧ vs = [.pl [.s w, .s d, .i .i64 fr, .i .i64 tl, .i .i64 at_, .lst ps.length (psC ps), .lst ls.length (lnsC ls), .lst kids.len (rlC kids)], tv t, .i .i64 i] ∧ t.size ≤ 2 * i ∧ propsA .nil ps = propsA t (ps.drop i) ∧ s' = ⟨H, n⟩) (fun vs _ => match vs with
      | [_, _, .i _ i] => ps.length - i.toNat
      | _ => 0) rfl ⟨0, .nil, Nat.zero_le _, rfl, Nat.le_refl _, rfl, rfl⟩ nofun ?_
  rintro _ _ ⟨i, t, hi, rfl, hts, hrun, rfl⟩
  have htl := t.len_le
  by_cases h : i < ps.length
  · have hx : ps[i]? = some ps[i] := List.getElem?_eq_getElem h
    rw [List.drop_eq_getElem_cons h, propsA] at hrun
    obtain ⟨p1, p2⟩ := hpa _ _ hx
    generalize ps[i] = p at hx p1 p2 hrun
    obtain ⟨pw, pv⟩ := p
    dsimp only at p1 p2 hrun
    have hkd := fun s => kid_sc t (bA pw) s (by omega)
    have hz2 := Tr.putp_size2 (x := .nil) (pth [pw, pv]) t
    simp only [pth, List.map_cons, List.map_nil, List.length_cons, List.length_nil, Tr.size] at hz2
    simp only [pth, List.map_cons, List.map_nil] at hrun
    cases hg : t.get1 (bA pw) with
    | none =>
      rw [hg] at hkd
      simp only [getV] at hkd
      have hw1 := fun s => with0N_sc (bA pv) s
      have hw2 := fun s => with_sc t (Tr.nil.set1 (bA pv) .nil) (bA pw) s (by omega)
      have e : t.putp [bA pw, bA pv] .nil = t.set1 (bA pw) (Tr.nil.set1 (bA pv) .nil) := by simp [Tr.putp, hg]
      refine SC.seq ?_ nofun; refine SC.seq ?_ nofun; refine SC.regK ?_; refine k_mv ?_; refine k_mv ?_; refine k_nilcl ?_; refine k_fal ?_; refine k_ldl ?_; refine k_bll ?_; refine k_it ?_; refine k_nil ?_; refine okS ?_ rfl; refine SC.cond_t rfl ?_; refine SC.skip ?_; refine SC.seq ?_ nofun; refine SC.blk ?_; refine SC.seq ?_ nofun; refine SC.regK ?_; refine k_mv ?_; refine k_mv ?_; refine k_nilcl ?_; refine k_fal ?_; refine k_ldl ?_; refine k_mv ?_; refine k_ial ?_; refine k_fal ?_; refine k_ldl ?_; refine k_call (hkd _) ?_; refine k_mv ?_; refine k_ext ?_; refine k_ext ?_; refine k_mv ?_; refine k_mv ?_; refine k_nil ?_; refine okS ?_ rfl; refine SC.dregK ?_; refine k_mv ?_; refine k_mv ?_; refine k_nilcl ?_; refine k_fal ?_; refine k_ldl ?_; refine k_mv ?_; refine k_ial ?_; refine k_fal ?_; refine k_ldl ?_; refine k_mv ?_; refine k_mv ?_; refine k_nilcl ?_; refine k_fal ?_; refine k_ldl ?_; refine k_mv ?_; refine k_ial ?_; refine k_fal ?_; refine k_ldl ?_; refine k_call (hw1 _) ?_; refine k_call (hw2 _) ?_; refine k_mv ?_; refine k_nil ?_; refine okD (ne := []) ?_ (by kernel_rfl) trivial; refine SC.regK ?_; refine k_mv ?_; refine k_add ?_; refine k_mv ?_; refine k_nil ?_; refine okS ?_ rfl
      skip
      refine ⟨_, rfl, ⟨i + 1, t.putp [bA pw, bA pv] .nil, h, by rw [e]; rfl, by omega, hrun, rfl⟩, ?_⟩
      dsimp only; omega
    | some x =>
      have hxs := get1_size hg
      have hxl := x.len_le
      rw [hg] at hkd
      simp only [getV] at hkd
      have hw1 := fun s => withN_sc x (bA pv) s (by omega)
      have hw2 := fun s => with_sc t (x.set1 (bA pv) .nil) (bA pw) s (by omega)
      have e : t.putp [bA pw, bA pv] .nil = t.set1 (bA pw) (x.set1 (bA pv) .nil) := by simp [Tr.putp, hg]
      refine SC.seq ?_ nofun; refine SC.seq ?_ nofun; refine SC.regK ?_; refine k_mv ?_; refine k_mv ?_; refine k_nilcl ?_; refine k_fal ?_; refine k_ldl ?_; refine k_bll ?_; refine k_it ?_; refine k_nil ?_; refine okS ?_ rfl; refine SC.cond_t rfl ?_; refine SC.skip ?_; refine SC.seq ?_ nofun; refine SC.blk ?_; refine SC.seq ?_ nofun; refine SC.regK ?_; refine k_mv ?_; refine k_mv ?_; refine k_nilcl ?_; refine k_fal ?_; refine k_ldl ?_; refine k_mv ?_; refine k_ial ?_; refine k_fal ?_; refine k_ldl ?_; refine k_call (hkd _) ?_; refine k_mv ?_; refine k_ext ?_; refine k_ext ?_; refine k_mv ?_; refine k_mv ?_; refine k_nil ?_; refine okS ?_ rfl; refine SC.dregK ?_; refine k_mv ?_; refine k_mv ?_; refine k_nilcl ?_; refine k_fal ?_; refine k_ldl ?_; refine k_mv ?_; refine k_ial ?_; refine k_fal ?_; refine k_ldl ?_; refine k_mv ?_; refine k_mv ?_; refine k_nilcl ?_; refine k_fal ?_; refine k_ldl ?_; refine k_mv ?_; refine k_ial ?_; refine k_fal ?_; refine k_ldl ?_; refine k_call (hw1 _) ?_; refine k_call (hw2 _) ?_; refine k_mv ?_; refine k_nil ?_; refine okD (ne := []) ?_ (by kernel_rfl) trivial; refine SC.regK ?_; refine k_mv ?_; refine k_add ?_; refine k_mv ?_; refine k_nil ?_; refine okS ?_ rfl
      skip
      refine ⟨_, rfl, ⟨i + 1, t.putp [bA pw, bA pv] .nil, h, by rw [e]; rfl, by omega, hrun, rfl⟩, ?_⟩
      dsimp only; omega
  · obtain rfl : i = ps.length := by omega
    rw [List.drop_length, propsA] at hrun
    refine SC.seq ?_ nofun; refine SC.seq ?_ nofun; refine SC.regK ?_; refine k_mv ?_; refine k_mv ?_; refine k_nilcl ?_; refine k_fal ?_; refine k_ldl ?_; refine k_bll ?_; refine k_if ?_; refine k_nil ?_; refine okS ?_ rfl; refine SC.cond_f rfl ?_; refine SC.exit ?_; refine SC.seq ?_ nofun; refine SC.regK ?_; refine k_mv ?_; refine k_call (hk _) ?_; refine k_bld ?_; refine k_mv ?_; refine k_bld ?_; refine k_bsl ?_ (c' := [SV.s [98, 108, 111, 99, 107, 115], tv (kidsA Tr.nil kids), SV.s [112, 114, 111, 112, 115], tv t]); refine k_mv ?_; refine k_nil ?_; refine okS ?_ rfl; refine SC.ret ?_
    refine ⟨_, rfl, _, _, _, _, _, rfl, by ((try dsimp only) <;> (repeat first | assumption | with_reducible rfl | exact h_same rfl | refine h_ne (by first | assumption | omega) ?_)), ?_, fun y hy => by ((try dsimp only) <;> (repeat first | assumption | with_reducible rfl | exact h_same rfl | refine h_ne (by first | assumption | omega) ?_))⟩
    rw [hrun]
    rfl
end
theorem kids_sc : ∀ (m : Nat) (r : RL), r.wt < m → r.wt ≤ 100000 → ∀ (w d : List UInt8) (fr tl at_ : Nat) (ps : List (List UInt8 × List UInt8)) (ls : List Nat) (s : St), SCall Tryd.prog 22 [rbV w d fr tl at_ ps ls r] s (tv (kidsA .nil r)) s := by
  intro m
  induction m with
  | zero => intro r h; omega
  | succ m ih =>
  intro kids hm hwt w d fr tl at_ ps ls s
  obtain ⟨H, n⟩ := s
  refine SCallR.pure (SCallR.enter cc_cadenceref8_Block_kids ?_) (lo_tv _ _)
  unfold rbV at ih ⊢
  dsimp only [c_cadenceref8_Block_kids, argT]
  have hkl := rlC_len kids
  have hlw := len_wt kids
  refine SC.seq ?_ nofun; refine SC.regK ?_; refine k_mv ?_; refine k_nil ?_; refine okS ?_ rfl; refine SC.seq ?_ nofun; refine SC.regK ?_; refine k_mv ?_; refine k_nil ?_; refine okS ?_ rfl; refine SC.seq ?_ nofun; refine SC.seq ?_ nofun; refine SC.regK ?_; refine k_mv ?_; refine k_nil ?_; refine okS ?_ rfl; refine SC.blk ?_
  refine SC.wkT (t := 3) (v' := tv .nil) rfl .nil ?_
  refine SC.loop [0, 3, 4] (fun vs s' => ∃ (done : List SV) (r : RL) (t : Tr), vs = [.pl [.s w, .s d, .i .i64 fr, .i .i64 tl, .i .i64 at_, .lst ps.length (psC ps), .lst ls.length (lnsC ls), .lst kids.len (rlC kids)], tv t, .i .i64 done.length] ∧ rlC kids = done ++ rlC r ∧ t.size + r.wt ≤ kids.wt ∧ kidsA .nil kids = kidsA t r ∧ s' = ⟨H, n⟩) (fun vs _ => match vs with
      | [_, _, .i _ i] => kids.len - i.toNat
      | _ => 0) rfl ⟨[], kids, .nil, rfl, rfl, by simp [Tr.size], rfl, rfl⟩ nofun ?_
  rintro _ _ ⟨done, r, t, rfl, hr, hts, hrun, rfl⟩
  have htl := t.len_le
  have hl2 := congrArg List.length hr
  rw [List.length_append, rlC_len, rlC_len] at hl2
  cases r with
  | nil =>
    simp only [RL.len] at hl2
    rw [kidsA] at hrun
    refine SC.seq ?_ nofun; refine SC.seq ?_ nofun; refine SC.regK ?_; refine k_mv ?_; refine k_mv ?_; refine k_nilcl ?_; refine k_fal ?_; refine k_ldl ?_; refine k_bll ?_; refine k_if ?_; refine k_nil ?_; refine okS ?_ rfl; refine SC.cond_f rfl ?_; refine SC.exit ?_; refine SC.seq ?_ nofun; refine SC.regK ?_; refine k_mv ?_; refine k_mv ?_; refine k_nil ?_; refine okS ?_ rfl; refine SC.ret ?_
    refine ⟨_, rfl, ?_, fun y hy => rfl⟩
    rw [hrun]
  | cons w' d' fr' tl' at' ps' ls' kk r =>
    simp only [RL.len] at hl2
    have hat : (rlC kids)[done.length]? = some (.pl [.s w', .s d', .i .i64 fr', .i .i64 tl', .i .i64 at', .lst ps'.length (psC ps'), .lst ls'.length (lnsC ls'), .lst kk.len (rlC kk)]) := by rw [hr]; simp [rlC]
    have hr2 : rlC kids = (done ++ [.pl [.s w', .s d', .i .i64 fr', .i .i64 tl', .i .i64 at', .lst ps'.length (psC ps'), .lst ls'.length (lnsC ls'), .lst kk.len (rlC kk)]]) ++ rlC r := by rw [hr]; simp [rlC]
    simp only [RL.wt] at hts
    rw [kidsA] at hrun
    have hct := fun s => content_of (w := w') (d := d') (fr := fr') (tl := tl') (at_ := at') (ps := ps') (ls := ls') (kids := kk) (by omega) (fun s => ih kk (by omega) (by omega) w' d' fr' tl' at' ps' ls' s) s
    unfold rbV at hct
    have hk0 := kidsA_size kk .nil
    have hp0 := propsA_size ps' .nil
    have hz2 := Tr.putp_size2 (x := cT (kidsA .nil kk) (propsA .nil ps')) (pth [w', d']) t
    simp only [cT, pth, List.map_cons, List.map_nil, List.length_cons, List.length_nil, Tr.size] at hz2 hk0 hp0
    simp only [pth, List.map_cons, List.map_nil] at hrun
    generalize hC : cT (kidsA .nil kk) (propsA .nil ps') = C at *
    have hkd := fun s => kid_sc t (bA w') s (by omega)
    have hCz : (t.putp [bA w', bA d'] C).size + r.wt ≤ kids.wt := by
      subst hC
      simp only [cT]
      omega
    have hlt : done.length < kids.len := by omega
    cases hg : t.get1 (bA w') with
    | none =>
      rw [hg] at hkd
      simp only [getV] at hkd
      have hw1 := fun s => with0_sc C (bA d') s
      have hw2 := fun s => with_sc t (Tr.nil.set1 (bA d') C) (bA w') s (by omega)
      have e : t.putp [bA w', bA d'] C = t.set1 (bA w') (Tr.nil.set1 (bA d') C) := by simp [Tr.putp, hg]
      refine SC.seq ?_ nofun; refine SC.seq ?_ nofun; refine SC.regK ?_; refine k_mv ?_; refine k_mv ?_; refine k_nilcl ?_; refine k_fal ?_; refine k_ldl ?_; refine k_bll ?_; refine k_it ?_; refine k_nil ?_; refine okS ?_ rfl; refine SC.cond_t rfl ?_; refine SC.skip ?_; refine SC.seq ?_ nofun; refine SC.blk ?_; refine SC.seq ?_ nofun; refine SC.regK ?_; refine k_mv ?_; refine k_mv ?_; refine k_nilcl ?_; refine k_fal ?_; refine k_ldl ?_; refine k_mv ?_; refine k_ial ?_; refine k_ldl ?_; refine k_nilcl ?_; refine k_fal ?_; refine k_ldl ?_; refine k_call (hkd _) ?_; refine k_mv ?_; refine k_ext ?_; refine k_ext ?_; refine k_mv ?_; refine k_mv ?_; refine k_nil ?_; refine okS ?_ rfl; refine SC.dregK ?_; refine k_mv ?_; refine k_mv ?_; refine k_nilcl ?_; refine k_fal ?_; refine k_ldl ?_; refine k_mv ?_; refine k_ial ?_; refine k_ldl ?_; refine k_nilcl ?_; refine k_fal ?_; refine k_ldl ?_; refine k_mv ?_; refine k_mv ?_; refine k_nilcl ?_; refine k_fal ?_; refine k_ldl ?_; refine k_mv ?_; refine k_ial ?_; refine k_ldl ?_; refine k_nilcl ?_; refine k_fal ?_; refine k_ldl ?_; refine k_mv ?_; refine k_nilcl ?_; refine k_fal ?_; refine k_ldl ?_; refine k_mv ?_; refine k_ial ?_; refine k_ldl ?_; refine k_call (hct _) ?_; refine k_call (hw1 _) ?_; refine k_call (hw2 _) ?_; refine k_mv ?_; refine k_nil ?_; refine okD (ne := []) ?_ (by kernel_rfl) trivial
      refine SC.regK ?_; refine k_mv ?_; refine k_add ?_; refine k_mv ?_; refine k_nil ?_; refine okS ?_ rfl
      refine ⟨_, rfl, ⟨_, r, t.putp [bA w', bA d'] C, by rw [e]; simp, hr2, hCz, hrun, rfl⟩, ?_⟩
      dsimp only; omega
    | some x =>
      have hxs := get1_size hg
      have hxl := x.len_le
      rw [hg] at hkd
      simp only [getV] at hkd
      have hw1 := fun s => with_sc x C (bA d') s (by omega)
      have hw2 := fun s => with_sc t (x.set1 (bA d') C) (bA w') s (by omega)
      have e : t.putp [bA w', bA d'] C = t.set1 (bA w') (x.set1 (bA d') C) := by simp [Tr.putp, hg]
      refine SC.seq ?_ nofun; refine SC.seq ?_ nofun; refine SC.regK ?_; refine k_mv ?_; refine k_mv ?_; refine k_nilcl ?_; refine k_fal ?_; refine k_ldl ?_; refine k_bll ?_; refine k_it ?_; refine k_nil ?_; refine okS ?_ rfl; refine SC.cond_t rfl ?_; refine SC.skip ?_; refine SC.seq ?_ nofun; refine SC.blk ?_; refine SC.seq ?_ nofun; refine SC.regK ?_; refine k_mv ?_; refine k_mv ?_; refine k_nilcl ?_; refine k_fal ?_; refine k_ldl ?_; refine k_mv ?_; refine k_ial ?_; refine k_ldl ?_; refine k_nilcl ?_; refine k_fal ?_; refine k_ldl ?_; refine k_call (hkd _) ?_; refine k_mv ?_; refine k_ext ?_; refine k_ext ?_; refine k_mv ?_; refine k_mv ?_; refine k_nil ?_; refine okS ?_ rfl; refine SC.dregK ?_; refine k_mv ?_; refine k_mv ?_; refine k_nilcl ?_; refine k_fal ?_; refine k_ldl ?_; refine k_mv ?_; refine k_ial ?_; refine k_ldl ?_; refine k_nilcl ?_; refine k_fal ?_; refine k_ldl ?_; refine k_mv ?_; refine k_mv ?_; refine k_nilcl ?_; refine k_fal ?_; refine k_ldl ?_; refine k_mv ?_; refine k_ial ?_; refine k_ldl ?_; refine k_nilcl ?_; refine k_fal ?_; refine k_ldl ?_; refine k_mv ?_; refine k_nilcl ?_; refine k_fal ?_; refine k_ldl ?_; refine k_mv ?_; refine k_ial ?_; refine k_ldl ?_; refine k_call (hct _) ?_; refine k_call (hw1 _) ?_; refine k_call (hw2 _) ?_; refine k_mv ?_; refine k_nil ?_; refine okD (ne := []) ?_ (by kernel_rfl) trivial
      refine SC.regK ?_; refine k_mv ?_; refine k_add ?_; refine k_mv ?_; refine k_nil ?_; refine okS ?_ rfl
      refine ⟨_, rfl, ⟨_, r, t.putp [bA w', bA d'] C, by rw [e]; simp, hr2, hCz, hrun, rfl⟩, ?_⟩
      dsimp only; omega
end Go.Proofs.YtpacfelhjjmmkaaDoor
end
section
set_option maxHeartbeats 20000000
namespace Go.Proofs.YtpacfelhjjmmkaaDoor
open Go Go.Sy Go.Tr Go.Kb Go.RowKit Go.Cd
set_option linter.unusedVariables false
set_option linter.unusedSimpArgs false
theorem chk_400 : ∀ (t : Tr) (d c : Nat) (p : Option ByteArray), c ≤ 400 → (chk t d c p).1 = 0 → (chk t d c p).2 ≤ 400
  | .nil, d, c, p, h, _ => h
  | .cons nm k r, d, c, p, h, h0 => by
    rw [chk] at h0 ⊢
    by_cases h1 : fitsE (c + 1) d nm p ≠ 0
    · rw [if_pos h1] at h0; exact absurd h0 h1
    · rw [if_neg h1] at h0 ⊢
      have hc : c + 1 ≤ 400 := by
        apply Classical.byContradiction
        intro h'
        apply h1
        unfold fitsE
        rw [if_pos (by omega)]
        decide
      by_cases h2 : (chk k (d + 1) (c + 1) none).1 ≠ 0
      · rw [if_pos h2] at h0; exact absurd h0 h2
      · rw [if_neg h2] at h0 ⊢
        exact chk_400 r _ _ _ (chk_400 k _ _ _ hc (Decidable.not_not.1 h2)) h0
abbrev rowC (a b : Int) : Option Blk := some (.row 88 2 [.i .i64 a, .i .i64 b])
def prevM (t : Tr) : Nat → Option ByteArray
  | 0 => none
  | i + 1 => (t.at? i).map Prod.fst
section
variable {c d : Nat} {nm pn : ByteArray} {p : Option ByteArray}
theorem fits4 (h : 400 < c) : fitsE c d nm p = 4 := by unfold fitsE; rw [if_pos h]
theorem fits11 (h : ¬ 400 < c) (h2 : 12 < d) : fitsE c d nm p = 11 := by unfold fitsE; rw [if_neg h, if_pos h2]
theorem fits5 (h : ¬ 400 < c) (h2 : ¬ 12 < d) (h3 : 80 < nm.size) : fitsE c d nm p = 5 := by unfold fitsE; rw [if_neg h, if_neg h2, if_pos h3]
theorem fits0 (h : ¬ 400 < c) (h2 : ¬ 12 < d) (h3 : ¬ 80 < nm.size) : fitsE c d nm none = 0 := by unfold fitsE; rw [if_neg h, if_neg h2, if_neg h3]
theorem fits12 (h : ¬ 400 < c) (h2 : ¬ 12 < d) (h3 : ¬ 80 < nm.size) : fitsE c d nm (some pn) = if ltB pn nm then 0 else 12 := by unfold fitsE; rw [if_neg h, if_neg h2, if_neg h3]
end
theorem walk_sc : ∀ (m : Nat) (t : Tr), t.size < m → t.size ≤ 500000 → ∀ (d c q n : Nat) (H : Nat → Option Blk), d ≤ 13 → c ≤ 400 → q < n → H q = rowC c 0 → SCallR Tryd.prog 38 [.p q 0, tv t, .i .i64 d] ⟨H, n⟩ (fun _ s' => n ≤ s'.nxt ∧ s'.H q = rowC (chk t d c none).2 (chk t d c none).1 ∧ ∀ y, y < n → y ≠ q → s'.H y = H y) := by
  intro m
  induction m with
  | zero => intro t h; omega
  | succ m ih =>
  intro t hm hz d c q n H hd hc hqn hq
  refine SCallR.enter cc_cadenceref2_checker_walk ?_
  have htl := t.len_le
  dsimp only [c_cadenceref2_checker_walk, argT, tv]
  refine SC.seq ?_ nofun; refine SC.regK ?_; refine k_mv ?_; refine k_nil ?_; refine okS ?_ rfl; refine SC.blk ?_
  refine SC.loop [0, 1, 2, 6] (fun vs s' => ∃ i : Nat, vs = [.p q 0, .lst t.len (tvc t), .i .i64 d, .i .i64 i] ∧ n ≤ s'.nxt ∧ (∀ y, y < n → y ≠ q → s'.H y = H y) ∧ ((i ≤ t.len ∧ ∃ c' : Nat, c' ≤ 400 ∧ s'.H q = rowC c' 0 ∧ chk t d c none = chk (t.drop i) d c' (prevM t i)) ∨ ((chk t d c none).1 ≠ 0 ∧ s'.H q = rowC (chk t d c none).2 (chk t d c none).1))) (fun vs _ => match vs with
      | [_, _, _, .i _ i] => t.len - i.toNat
      | _ => 0) rfl ⟨0, rfl, Nat.le_refl _, fun _ _ _ => rfl, .inl ⟨Nat.zero_le _, c, hc, hq, by rw [Tr.drop_zero]; rfl⟩⟩ nofun ?_
  rintro _ ⟨H', n'⟩ ⟨i, rfl, hn, hH, hor⟩
  dsimp only at hn hH hor
  rcases hor with ⟨hi, c', hc', hq', hrun⟩ | ⟨he, hq'⟩
  · by_cases h : i < t.len
    · obtain ⟨nm, k, hx⟩ := t.at_some h
      obtain ⟨x1, x2⟩ := tvc_at hx
      have hkx := Tr.at_lt hx
      rw [Tr.drop_at hx, chk] at hrun
      have done : ∀ e : Int, e ≠ 0 → fitsE (c' + 1) d nm (prevM t i) = e → chk t d c none = (e, c' + 1) := fun e h0 h1 => by rw [hrun, h1, if_pos h0]
      by_cases h4 : 400 < c' + 1
      · have e := done 4 (by decide) (fits4 h4)
        refine SC.seq ?_ nofun; refine SC.seq ?_ nofun; refine SC.regK ?_; refine k_mv ?_; refine k_mv ?_; refine k_bll ?_; refine k_it ?_; refine k_mv ?_; refine k_mv ?_; refine k_nilc ?_; refine k_fa ?_; refine k_ldp ?_; refine k_it ?_; refine k_pt ?_; refine k_nil ?_; refine okS ?_ rfl; refine SC.cond_t rfl ?_; refine SC.skip ?_; refine SC.seq ?_ nofun; refine SC.blk ?_; refine SC.seq ?_ nofun; refine SC.regK ?_; refine k_mv ?_; refine k_nilc ?_; refine k_fa ?_; refine k_ldp ?_; refine k_add ?_; refine k_nilc ?_; refine k_fa ?_; refine k_sto ?_ (c' := [SV.i IntKind.i64 ((↑c' : Int) + 1), SV.i IntKind.i64 0]); refine k_nil ?_; refine okS ?_ rfl; refine SC.blk ?_; refine SC.seq ?_ nofun; refine SC.regK ?_; refine k_mv ?_; refine k_nilc ?_; refine k_fa ?_; refine k_ldp ?_; refine k_it ?_; refine k_mv ?_; refine k_nil ?_; refine okS ?_ rfl; refine SC.cond_t rfl ?_; refine SC.regK ?_; refine k_mv ?_; refine k_nilc ?_; refine k_fa ?_; refine k_sts ?_ (c' := [SV.i IntKind.i64 ((↑c' : Int) + 1), SV.i IntKind.i64 4]); refine k_nil ?_; refine okS ?_ rfl; refine SC.regK ?_; refine k_mv ?_; refine k_add ?_; refine k_mv ?_; refine k_nil ?_; refine okS ?_ rfl
        refine ⟨_, rfl, ⟨i + 1, rfl, hn, fun y h1 h2 => by ((try dsimp only) <;> (repeat first | assumption | with_reducible rfl | exact h_same rfl | refine h_ne (by first | assumption | omega) ?_)); exact hH y h1 h2, .inr ⟨by rw [e]; exact (show (4 : Int) ≠ 0 by decide), by rw [e]; ((try dsimp only) <;> (repeat first | assumption | with_reducible rfl | exact h_same rfl | refine h_ne (by first | assumption | omega) ?_))⟩⟩, ?_⟩
        dsimp only; omega
      · by_cases h12 : 12 < d
        · have e := done 11 (by decide) (fits11 h4 h12)
          refine SC.seq ?_ nofun; refine SC.seq ?_ nofun; refine SC.regK ?_; refine k_mv ?_; refine k_mv ?_; refine k_bll ?_; refine k_it ?_; refine k_mv ?_; refine k_mv ?_; refine k_nilc ?_; refine k_fa ?_; refine k_ldp ?_; refine k_it ?_; refine k_pt ?_; refine k_nil ?_; refine okS ?_ rfl; refine SC.cond_t rfl ?_; refine SC.skip ?_; refine SC.seq ?_ nofun; refine SC.blk ?_; refine SC.seq ?_ nofun; refine SC.regK ?_; refine k_mv ?_; refine k_nilc ?_; refine k_fa ?_; refine k_ldp ?_; refine k_add ?_; refine k_nilc ?_; refine k_fa ?_; refine k_sto ?_ (c' := [SV.i IntKind.i64 ((↑c' : Int) + 1), SV.i IntKind.i64 0]); refine k_nil ?_; refine okS ?_ rfl; refine SC.blk ?_; refine SC.seq ?_ nofun; refine SC.regK ?_; refine k_mv ?_; refine k_nilc ?_; refine k_fa ?_; refine k_ldp ?_; refine k_if ?_; refine k_mv ?_; refine k_nil ?_; refine okS ?_ rfl; refine SC.cond_f rfl ?_; refine SC.seq ?_ nofun; refine SC.regK ?_; refine k_mv ?_; refine k_it ?_; refine k_mv ?_; refine k_nil ?_; refine okS ?_ rfl; refine SC.cond_t rfl ?_; refine SC.regK ?_; refine k_mv ?_; refine k_nilc ?_; refine k_fa ?_; refine k_sts ?_ (c' := [SV.i IntKind.i64 ((↑c' : Int) + 1), SV.i IntKind.i64 11]); refine k_nil ?_; refine okS ?_ rfl; refine SC.regK ?_; refine k_mv ?_; refine k_add ?_; refine k_mv ?_; refine k_nil ?_; refine okS ?_ rfl
          refine ⟨_, rfl, ⟨i + 1, rfl, hn, fun y h1 h2 => by ((try dsimp only) <;> (repeat first | assumption | with_reducible rfl | exact h_same rfl | refine h_ne (by first | assumption | omega) ?_)); exact hH y h1 h2, .inr ⟨by rw [e]; exact (show (11 : Int) ≠ 0 by decide), by rw [e]; ((try dsimp only) <;> (repeat first | assumption | with_reducible rfl | exact h_same rfl | refine h_ne (by first | assumption | omega) ?_))⟩⟩, ?_⟩
          dsimp only; omega
        · have hsz : nm.size = nm.data.toList.length := rfl
          by_cases h80 : 80 < nm.data.toList.length
          · have e := done 5 (by decide) (fits5 h4 h12 (by omega))
            refine SC.seq ?_ nofun; refine SC.seq ?_ nofun; refine SC.regK ?_; refine k_mv ?_; refine k_mv ?_; refine k_bll ?_; refine k_it ?_; refine k_mv ?_; refine k_mv ?_; refine k_nilc ?_; refine k_fa ?_; refine k_ldp ?_; refine k_it ?_; refine k_pt ?_; refine k_nil ?_; refine okS ?_ rfl; refine SC.cond_t rfl ?_; refine SC.skip ?_; refine SC.seq ?_ nofun; refine SC.blk ?_; refine SC.seq ?_ nofun; refine SC.regK ?_; refine k_mv ?_; refine k_nilc ?_; refine k_fa ?_; refine k_ldp ?_; refine k_add ?_; refine k_nilc ?_; refine k_fa ?_; refine k_sto ?_ (c' := [SV.i IntKind.i64 ((↑c' : Int) + 1), SV.i IntKind.i64 0]); refine k_nil ?_; refine okS ?_ rfl; refine SC.blk ?_; refine SC.seq ?_ nofun; refine SC.regK ?_; refine k_mv ?_; refine k_nilc ?_; refine k_fa ?_; refine k_ldp ?_; refine k_if ?_; refine k_mv ?_; refine k_nil ?_; refine okS ?_ rfl; refine SC.cond_f rfl ?_; refine SC.seq ?_ nofun; refine SC.regK ?_; refine k_mv ?_; refine k_if ?_; refine k_mv ?_; refine k_nil ?_; refine okS ?_ rfl; refine SC.cond_f rfl ?_; refine SC.seq ?_ nofun; refine SC.regK ?_; refine k_mv ?_; refine k_mv ?_; refine k_ial ?_; refine k_fal ?_; refine k_ldl ?_; refine k_bls ?_; refine k_it ?_; refine k_mv ?_; refine k_nil ?_; refine okS ?_ rfl; refine SC.cond_t rfl ?_; refine SC.regK ?_; refine k_mv ?_; refine k_nilc ?_; refine k_fa ?_; refine k_sts ?_ (c' := [SV.i IntKind.i64 ((↑c' : Int) + 1), SV.i IntKind.i64 5]); refine k_nil ?_; refine okS ?_ rfl; refine SC.regK ?_; refine k_mv ?_; refine k_add ?_; refine k_mv ?_; refine k_nil ?_; refine okS ?_ rfl
            refine ⟨_, rfl, ⟨i + 1, rfl, hn, fun y h1 h2 => by ((try dsimp only) <;> (repeat first | assumption | with_reducible rfl | exact h_same rfl | refine h_ne (by first | assumption | omega) ?_)); exact hH y h1 h2, .inr ⟨by rw [e]; exact (show (5 : Int) ≠ 0 by decide), by rw [e]; ((try dsimp only) <;> (repeat first | assumption | with_reducible rfl | exact h_same rfl | refine h_ne (by first | assumption | omega) ?_))⟩⟩, ?_⟩
            dsimp only; omega
          · have hrec := ih k (by omega) (by omega) (d + 1) (c' + 1) q n' (upd H' q (rowC (c' + 1 : Nat) 0)) (by omega) (by omega) (by omega) (upd_same _ _ _)
            have hpn : prevM t (i + 1) = some nm := by rw [prevM, hx]; rfl
            have after : fitsE (c' + 1) d nm (prevM t i) = 0 → chk t d c none = if (chk k (d + 1) (c' + 1) none).1 ≠ 0 then chk k (d + 1) (c' + 1) none else chk (t.drop (i + 1)) d (chk k (d + 1) (c' + 1) none).2 (prevM t (i + 1)) := fun h0 => by
              rw [hrun, h0, if_neg (by simp), hpn]
            have h400 := chk_400 k (d + 1) (c' + 1) none (by omega)
            generalize chk k (d + 1) (c' + 1) none = kr at hrec after h400
            have fin : ∀ (H2 : Nat → Option Blk) (n2 : Nat), fitsE (c' + 1) d nm (prevM t i) = 0 → n' ≤ n2 → H2 q = rowC kr.2 kr.1 → (∀ y, y < n' → y ≠ q → H2 y = upd H' q (rowC (c' + 1 : Nat) 0) y) → n ≤ n2 ∧ (∀ y, y < n → y ≠ q → H2 y = H y) ∧ ((i + 1 ≤ t.len ∧ ∃ c' : Nat, c' ≤ 400 ∧ H2 q = rowC c' 0 ∧ chk t d c none = chk (t.drop (i + 1)) d c' (prevM t (i + 1))) ∨ ((chk t d c none).1 ≠ 0 ∧ H2 q = rowC (chk t d c none).2 (chk t d c none).1)) := by
              intro H2 n2 h0 g1 g2 g3
              refine ⟨by omega, fun y h1 h2 => by rw [g3 y (by omega) h2, upd_ne _ _ h2]; exact hH y h1 h2, ?_⟩
              have af := after h0
              by_cases hk0 : kr.1 = 0
              · rw [if_neg (by simp [hk0])] at af
                exact .inl ⟨h, kr.2, h400 hk0, by rw [g2, hk0], af⟩
              · rw [if_pos hk0] at af
                exact .inr ⟨by rw [af]; exact hk0, by rw [af]; exact g2⟩
            cases i with
            | zero =>
              have h0 : fitsE (c' + 1) d nm (prevM t 0) = 0 := fits0 h4 h12 (by omega)
              refine SC.seq ?_ nofun; refine SC.seq ?_ nofun; refine SC.regK ?_; refine k_mv ?_; refine k_mv ?_; refine k_bll ?_; refine k_it ?_; refine k_mv ?_; refine k_mv ?_; refine k_nilc ?_; refine k_fa ?_; refine k_ldp ?_; refine k_it ?_; refine k_pt ?_; refine k_nil ?_; refine okS ?_ rfl; refine SC.cond_t rfl ?_; refine SC.skip ?_; refine SC.seq ?_ nofun; refine SC.blk ?_; refine SC.seq ?_ nofun; refine SC.regK ?_; refine k_mv ?_; refine k_nilc ?_; refine k_fa ?_; refine k_ldp ?_; refine k_add ?_; refine k_nilc ?_; refine k_fa ?_; refine k_sto ?_ (c' := [SV.i IntKind.i64 ((↑c' : Int) + 1), SV.i IntKind.i64 0]); refine k_nil ?_; refine okS ?_ rfl; refine SC.blk ?_; refine SC.seq ?_ nofun; refine SC.regK ?_; refine k_mv ?_; refine k_nilc ?_; refine k_fa ?_; refine k_ldp ?_; refine k_if ?_; refine k_mv ?_; refine k_nil ?_; refine okS ?_ rfl; refine SC.cond_f rfl ?_; refine SC.seq ?_ nofun; refine SC.regK ?_; refine k_mv ?_; refine k_if ?_; refine k_mv ?_; refine k_nil ?_; refine okS ?_ rfl; refine SC.cond_f rfl ?_; refine SC.seq ?_ nofun; refine SC.regK ?_; refine k_mv ?_; refine k_mv ?_; refine k_ial ?_; refine k_fal ?_; refine k_ldl ?_; refine k_bls ?_; refine k_if ?_; refine k_mv ?_; refine k_nil ?_; refine okS ?_ rfl; refine SC.cond_f rfl ?_; refine SC.seq ?_ nofun; refine SC.dregK ?_; refine k_mv ?_; refine k_if ?_; refine k_mv ?_; refine k_no ?_; refine k_no ?_; refine k_no ?_; refine k_no ?_; refine k_no ?_; refine k_no ?_; refine k_no ?_; refine k_no ?_; refine k_no ?_; refine k_no ?_; refine k_no ?_; refine k_no ?_; refine k_pf ?_; refine k_mv ?_; refine k_nil ?_; refine okD (ne := []) ?_ (by kernel_rfl) trivial; refine SC.cond_f rfl ?_; refine SC.regK ?_; refine k_mv ?_; refine k_mv ?_; refine k_mv ?_; refine k_ial ?_; refine k_fal ?_; refine k_ldl ?_; refine k_mv ?_; refine k_add ?_; refine k_callR (hrec) ?_ (hok := okCS rfl)
              rintro _ ⟨H2, n2⟩ ⟨p1, p2, p3⟩
              obtain ⟨f1, f2, f3⟩ := fin H2 n2 h0 p1 p2 p3
              clear fin after hrec
              refine k_nil ?_; refine okS ?_ rfl; refine SC.regK ?_; refine k_mv ?_; refine k_add ?_; refine k_mv ?_; refine k_nil ?_; refine okS ?_ rfl
              refine ⟨_, rfl, ⟨0 + 1, rfl, f1, f2, f3⟩, ?_⟩
              dsimp only; omega
            | succ j =>
              obtain ⟨pn, pk, hj⟩ := t.at_some (by omega : j < t.len)
              obtain ⟨y1, y2⟩ := tvc_at hj
              have hpm : prevM t (j + 1) = some pn := by rw [prevM, hj]; rfl
              have hb := ltB_toList pn nm
              have f12 := fits12 (c := c' + 1) (d := d) (nm := nm) (pn := pn) h4 h12 (by omega)
              rw [← hpm] at f12
              cases hlt : ltB pn nm with
              | false =>
                rw [hlt] at f12 hb
                have e := done 12 (by decide) f12
                have hb2 : (!(Op.bytesLess pn.data.toList nm.data.toList)) = true := by rw [hb]; rfl
                clear fin after hrec
                refine SC.seq ?_ nofun; refine SC.seq ?_ nofun; refine SC.regK ?_; refine k_mv ?_; refine k_mv ?_; refine k_bll ?_; refine k_it ?_; refine k_mv ?_; refine k_mv ?_; refine k_nilc ?_; refine k_fa ?_; refine k_ldp ?_; refine k_it ?_; refine k_pt ?_; refine k_nil ?_; refine okS ?_ rfl; refine SC.cond_t rfl ?_; refine SC.skip ?_; refine SC.seq ?_ nofun; refine SC.blk ?_; refine SC.seq ?_ nofun; refine SC.regK ?_; refine k_mv ?_; refine k_nilc ?_; refine k_fa ?_; refine k_ldp ?_; refine k_add ?_; refine k_nilc ?_; refine k_fa ?_; refine k_sto ?_ (c' := [SV.i IntKind.i64 ((↑c' : Int) + 1), SV.i IntKind.i64 0]); refine k_nil ?_; refine okS ?_ rfl; refine SC.blk ?_; refine SC.seq ?_ nofun; refine SC.regK ?_; refine k_mv ?_; refine k_nilc ?_; refine k_fa ?_; refine k_ldp ?_; refine k_if ?_; refine k_mv ?_; refine k_nil ?_; refine okS ?_ rfl; refine SC.cond_f rfl ?_; refine SC.seq ?_ nofun; refine SC.regK ?_; refine k_mv ?_; refine k_if ?_; refine k_mv ?_; refine k_nil ?_; refine okS ?_ rfl; refine SC.cond_f rfl ?_; refine SC.seq ?_ nofun; refine SC.regK ?_; refine k_mv ?_; refine k_mv ?_; refine k_ial ?_; refine k_fal ?_; refine k_ldl ?_; refine k_bls ?_; refine k_if ?_; refine k_mv ?_; refine k_nil ?_; refine okS ?_ rfl; refine SC.cond_f rfl ?_; refine SC.seq ?_ nofun; refine SC.dregK ?_; refine k_mv ?_; refine k_it ?_; refine k_mv ?_; refine k_mv ?_; refine k_mv ?_; refine k_ial ?_; refine k_fal ?_; refine k_ldl ?_; refine k_mv ?_; refine k_mv ?_; refine k_sub ?_; refine k_ial ?_; refine k_fal ?_; refine k_ldl ?_; refine k_st ?_; refine k_pt ?_; refine k_mv ?_; refine k_nil ?_; refine okD (ne := []) ?_ (by kernel_rfl) trivial; refine SC.cond_t rfl ?_; refine SC.regK ?_; refine k_mv ?_; refine k_nilc ?_; refine k_fa ?_; refine k_sts ?_ (c' := [SV.i IntKind.i64 ((↑c' : Int) + 1), SV.i IntKind.i64 12]); refine k_nil ?_; refine okS ?_ rfl; refine SC.regK ?_; refine k_mv ?_; refine k_add ?_; refine k_mv ?_; refine k_nil ?_; refine okS ?_ rfl
                skip
                refine ⟨_, rfl, ⟨j + 1 + 1, rfl, hn, fun y h1 h2 => by ((try dsimp only) <;> (repeat first | assumption | with_reducible rfl | exact h_same rfl | refine h_ne (by first | assumption | omega) ?_)); exact hH y h1 h2, .inr ⟨by rw [e]; exact (show (12 : Int) ≠ 0 by decide), by rw [e]; ((try dsimp only) <;> (repeat first | assumption | with_reducible rfl | exact h_same rfl | refine h_ne (by first | assumption | omega) ?_))⟩⟩, ?_⟩
                dsimp only; omega
              | true =>
                rw [hlt] at f12 hb
                have hb2 : (!(Op.bytesLess pn.data.toList nm.data.toList)) = false := by rw [hb]; rfl
                refine SC.seq ?_ nofun; refine SC.seq ?_ nofun; refine SC.regK ?_; refine k_mv ?_; refine k_mv ?_; refine k_bll ?_; refine k_it ?_; refine k_mv ?_; refine k_mv ?_; refine k_nilc ?_; refine k_fa ?_; refine k_ldp ?_; refine k_it ?_; refine k_pt ?_; refine k_nil ?_; refine okS ?_ rfl; refine SC.cond_t rfl ?_; refine SC.skip ?_; refine SC.seq ?_ nofun; refine SC.blk ?_; refine SC.seq ?_ nofun; refine SC.regK ?_; refine k_mv ?_; refine k_nilc ?_; refine k_fa ?_; refine k_ldp ?_; refine k_add ?_; refine k_nilc ?_; refine k_fa ?_; refine k_sto ?_ (c' := [SV.i IntKind.i64 ((↑c' : Int) + 1), SV.i IntKind.i64 0]); refine k_nil ?_; refine okS ?_ rfl; refine SC.blk ?_; refine SC.seq ?_ nofun; refine SC.regK ?_; refine k_mv ?_; refine k_nilc ?_; refine k_fa ?_; refine k_ldp ?_; refine k_if ?_; refine k_mv ?_; refine k_nil ?_; refine okS ?_ rfl; refine SC.cond_f rfl ?_; refine SC.seq ?_ nofun; refine SC.regK ?_; refine k_mv ?_; refine k_if ?_; refine k_mv ?_; refine k_nil ?_; refine okS ?_ rfl; refine SC.cond_f rfl ?_; refine SC.seq ?_ nofun; refine SC.regK ?_; refine k_mv ?_; refine k_mv ?_; refine k_ial ?_; refine k_fal ?_; refine k_ldl ?_; refine k_bls ?_; refine k_if ?_; refine k_mv ?_; refine k_nil ?_; refine okS ?_ rfl; refine SC.cond_f rfl ?_; refine SC.seq ?_ nofun; refine SC.dregK ?_; refine k_mv ?_; refine k_it ?_; refine k_mv ?_; refine k_mv ?_; refine k_mv ?_; refine k_ial ?_; refine k_fal ?_; refine k_ldl ?_; refine k_mv ?_; refine k_mv ?_; refine k_sub ?_; refine k_ial ?_; refine k_fal ?_; refine k_ldl ?_; refine k_sf ?_; refine k_pt ?_; refine k_mv ?_; refine k_nil ?_; refine okD (ne := []) ?_ (by kernel_rfl) trivial; refine SC.cond_f rfl ?_; refine SC.regK ?_; refine k_mv ?_; refine k_mv ?_; refine k_mv ?_; refine k_ial ?_; refine k_fal ?_; refine k_ldl ?_; refine k_mv ?_; refine k_add ?_; refine k_callR (hrec) ?_ (hok := okCS rfl)
                skip
                rintro _ ⟨H2, n2⟩ ⟨p1, p2, p3⟩
                obtain ⟨f1, f2, f3⟩ := fin H2 n2 f12 p1 p2 p3
                clear fin after hrec
                refine k_nil ?_; refine okS ?_ rfl; refine SC.regK ?_; refine k_mv ?_; refine k_add ?_; refine k_mv ?_; refine k_nil ?_; refine okS ?_ rfl
                refine ⟨_, rfl, ⟨j + 1 + 1, rfl, f1, f2, f3⟩, ?_⟩
                dsimp only; omega
    · obtain rfl : i = t.len := by omega
      rw [Tr.drop_len, chk] at hrun
      refine SC.seq ?_ nofun; refine SC.seq ?_ nofun; refine SC.regK ?_; refine k_mv ?_; refine k_mv ?_; refine k_bll ?_; refine k_if ?_; refine k_mv ?_; refine k_no ?_; refine k_no ?_; refine k_no ?_; refine k_no ?_; refine k_no ?_; refine k_pf ?_; refine k_nil ?_; refine okS ?_ rfl; refine SC.cond_f rfl ?_; refine SC.exit ?_
      refine ⟨_, rfl, hn, ?_, hH⟩
      rw [hrun]
      exact hq'
  · have hd : decide ((chk t d c none).1 = 0) = false := decide_eq_false he
    by_cases h : i < t.len
    · refine SC.seq ?_ nofun; refine SC.seq ?_ nofun; refine SC.regK ?_; refine k_mv ?_; refine k_mv ?_; refine k_bll ?_; refine k_it ?_; refine k_mv ?_; refine k_mv ?_; refine k_nilc ?_; refine k_fa ?_; refine k_ldp ?_; refine k_if ?_; refine k_pt ?_; refine k_nil ?_; refine okS ?_ rfl; refine SC.cond_f rfl ?_; refine SC.exit ?_
      exact ⟨_, rfl, hn, hq', hH⟩
    · have hlt : decide ((i : Int) < (t.len : Int)) = false := decide_eq_false (by omega)
      refine SC.seq ?_ nofun; refine SC.seq ?_ nofun; refine SC.regK ?_; refine k_mv ?_; refine k_mv ?_; refine k_bll ?_; refine k_if ?_; refine k_mv ?_; refine k_no ?_; refine k_no ?_; refine k_no ?_; refine k_no ?_; refine k_no ?_; refine k_pf ?_; refine k_nil ?_; refine okS ?_ rfl; refine SC.cond_f rfl ?_; refine SC.exit ?_
      exact ⟨_, rfl, hn, hq', hH⟩
theorem rcheck_sc (t : Tr) (s : St) (hz : t.size ≤ 400000) : SCall Tryd.prog 23 [tv t] s (.i .i64 (chk t 1 0 none).1) s := by
  obtain ⟨H, n⟩ := s
  refine SCallR.pure (SCallR.enter cc_cadenceref2_Check ?_) .i
  dsimp only [c_cadenceref2_Check, argT]
  have hw := fun (H' : Nat → Option Blk) (h : H' n = rowC 0 0) => walk_sc (t.size + 1) t (Nat.lt_succ_self _) (by omega) 1 0 n (n + 1) H' (by omega) (by omega) (by omega) h
  refine SC.seq ?_ nofun; refine SC.regK ?_; refine k_mv ?_; refine k_nil ?_; refine okS ?_ rfl; refine SC.seq ?_ nofun; refine SC.regK ?_; refine k_bld ?_; refine k_box ?_ (c := [SV.i IntKind.i64 0, SV.i IntKind.i64 0]); refine k_mv ?_; refine k_nil ?_; refine okS ?_ rfl; refine SC.seq ?_ nofun; refine SC.regK ?_; refine k_mv ?_; refine k_mv ?_; refine k_callR (hw _ (by ((try dsimp only) <;> (repeat first | assumption | with_reducible rfl | exact h_same rfl | refine h_ne (by first | assumption | omega) ?_)))) ?_ (hok := okCS rfl)
  rintro _ ⟨H2, n2⟩ ⟨p1, p2, p3⟩
  dsimp only at p1 p2 p3
  refine k_nil ?_; refine okS ?_ rfl; refine SC.seq ?_ nofun; refine SC.regK ?_; refine k_mv ?_; refine k_nilc ?_; refine k_fa ?_; refine k_ldp ?_; refine k_mv ?_; refine k_nil ?_; refine okS ?_ rfl; refine SC.ret ?_
  refine ⟨_, rfl, rfl, fun y hy => ?_⟩
  dsimp only at hy ⊢
  rw [p3 y (by omega) (by omega)]
  ((try dsimp only) <;> (repeat first | assumption | with_reducible rfl | exact h_same rfl | refine h_ne (by first | assumption | omega) ?_))
end Go.Proofs.YtpacfelhjjmmkaaDoor
end
section
set_option maxHeartbeats 20000000
namespace Go.Proofs.YtpacfelhjjmmkaaDoor
open Go Go.Sy
set_option linter.unusedVariables false
theorem splitR_sc (l : List UInt8) (s : St) (hl : l.length ≤ 1000000) : SCall Tryd.prog 21 [.s l] s (.lst (splitL l).length (lineC (splitL l))) s := by
  obtain ⟨H, n⟩ := s
  refine SCallR.pure (SCallR.frz (SCallR.enter cc_cadenceref5_Split ?_)) (.lst (los_lineC _ _))
  dsimp only [c_cadenceref5_Split, argT]
  refine SC.seq ?_ nofun; refine SC.regK ?_; refine k_mv ?_; refine k_nil ?_; refine okS ?_ rfl; refine SC.seq ?_ nofun; refine SC.regK ?_; refine k_mv ?_; refine k_nil ?_; refine okS ?_ rfl; refine SC.seq ?_ nofun; refine SC.regK ?_; refine k_mv ?_; refine k_nil ?_; refine okS ?_ rfl; refine SC.seq ?_ nofun; refine SC.seq ?_ nofun; refine SC.regK ?_; refine k_mv ?_; refine k_nil ?_; refine okS ?_ rfl; refine SC.blk ?_
  refine SC.own (t := 3) 67 2 rfl ?_
  dsimp only
  skip
  refine SC.loop [0, 3, 4, 5] (fun vs s' => ∃ (i at_ : Nat) (b m : Nat) (done : List (List UInt8 × List UInt8)), at_ ≤ i ∧ i ≤ l.length ∧ vs = [.s l, .sl b 0 done.length, .i .i64 at_, .i .i64 i] ∧ splitL l = done ++ splitL (l.drop at_) ∧ (∀ j, at_ ≤ j → j < i → l[j]? ≠ some 10) ∧ done.length ≤ at_ ∧ s'.H b = some (.row 67 2 (lineC done)) ∧ n ≤ b ∧ b < s'.nxt ∧ (∀ y, y < n → s'.H y = H y)) (fun vs _ => match vs with
    | [_, _, _, .i _ i] => l.length - i.toNat
    | _ => 0) rfl ⟨0, 0, n, 0, [], Nat.le_refl _, Nat.zero_le _, rfl, rfl, fun j h1 h2 => by omega, Nat.le_refl _, upd_same _ _ _, Nat.le_refl _, Nat.lt_succ_self _, fun y hy => upd_ne _ _ (by omega)⟩ nofun ?_
  rintro _ ⟨H', n'⟩ ⟨i, at_, b, m, done, ha, hi, rfl, hd, hno, hdl, hb, hnb, hbn, hH⟩
  dsimp only at hb hbn hH
  have hll := lineC_len done
  by_cases h : i < l.length
  · obtain ⟨c, hc⟩ : ∃ c, l[i]? = some c := ⟨l[i], List.getElem?_eq_getElem h⟩
    by_cases h13 : c = 10
    · subst h13
      have hst := split_step ha hno hc
      by_cases hk : at_ < i ∧ l[i - 1]? = some 13
      · obtain ⟨i, rfl⟩ : ∃ k, i = k + 1 := ⟨i - 1, by omega⟩
        obtain ⟨hk1, hk2⟩ := hk
        rw [Nat.add_sub_cancel] at hk2
        refine SC.seq ?_ nofun; refine SC.seq ?_ nofun; refine SC.regK ?_; refine k_mv ?_; refine k_mv ?_; refine k_bls ?_; refine k_it ?_; refine k_nil ?_; refine okS ?_ rfl; refine SC.cond_t rfl ?_; refine SC.skip ?_; refine SC.seq ?_ nofun; refine SC.blk ?_; refine SC.seq ?_ nofun; refine SC.seq ?_ nofun; refine SC.regK ?_; refine k_mv ?_; refine k_mv ?_; refine k_ixs ?_; refine k_if ?_; refine k_nil ?_; refine okS ?_ rfl; refine SC.cond_f rfl ?_; refine SC.skip ?_; refine SC.seq ?_ nofun; refine SC.regK ?_; refine k_mv ?_; refine k_mv ?_; refine k_nil ?_; refine okS ?_ rfl; refine SC.seq ?_ nofun; refine SC.seq ?_ nofun; refine SC.regK ?_; refine k_mv ?_; refine k_mv ?_; refine k_it ?_; refine k_mv ?_; refine k_mv ?_; refine k_mv ?_; refine k_sub ?_; refine k_ixs ?_; refine k_it ?_; refine k_pt ?_; refine k_nil ?_; refine okS ?_ rfl; refine SC.cond_t rfl ?_; refine SC.regK ?_; refine k_mv ?_; refine k_sub ?_; refine k_mv ?_; refine k_nil ?_; refine okS ?_ rfl; refine SC.seq ?_ nofun; refine SC.dregK ?_; refine k_mv ?_; refine k_mv ?_; refine k_mv ?_; refine k_mv ?_; refine k_slh ?_; refine k_mv ?_; refine k_mv ?_; refine k_mv ?_; refine k_add ?_; refine k_slh ?_; refine k_bld ?_; refine k_bsl ?_ (c' := [SV.s (List.drop at_ (List.take i l)), SV.s (List.drop i (List.take (i + 1 + 1) l))]); refine k_appo ?_ (c' := lineC done ++ [SV.s (List.drop at_ (List.take i l)), SV.s (List.drop i (List.take (i + 1 + 1) l))]) (new := [SV.s (List.drop at_ (List.take i l)), SV.s (List.drop i (List.take (i + 1 + 1) l))]); refine k_mv ?_; refine k_nil ?_; refine okD (ne := []) ?_ (by kernel_rfl) trivial; refine SC.regK ?_; refine k_mv ?_; refine k_add ?_; refine k_mv ?_; refine k_nil ?_; refine okS ?_ rfl; refine SC.regK ?_; refine k_mv ?_; refine k_add ?_; refine k_mv ?_; refine k_nil ?_; refine okS ?_ rfl
        refine ⟨_, rfl, ⟨i + 1 + 1, i + 1 + 1, n' + 1, 0, done ++ [_], by omega, by omega, by rw [List.length_append]; rfl, by rw [hd, hst, List.append_assoc]; rfl, fun j h1 h3 => by omega, by simp; omega, h_same (by rw [lineC_app, endL_cr (by omega) hk2 hc]; rfl), by omega, by dsimp only; omega, fun y hy => by ((try dsimp only) <;> (repeat first | assumption | with_reducible rfl | exact h_same rfl | refine h_ne (by first | assumption | omega) ?_)); exact hH y hy⟩, by simp; omega⟩
      · by_cases hk1 : at_ < i
        · obtain ⟨i, rfl⟩ : ∃ k, i = k + 1 := ⟨i - 1, by omega⟩
          obtain ⟨c0, hc0⟩ : ∃ c0, l[i]? = some c0 := ⟨l[i], List.getElem?_eq_getElem (by omega)⟩
          have hn13 : ¬ c0.toNat = 13 := fun e => hk ⟨hk1, by rw [Nat.add_sub_cancel, hc0]; congr 1; exact UInt8.toNat_inj.1 e⟩
          refine SC.seq ?_ nofun; refine SC.seq ?_ nofun; refine SC.regK ?_; refine k_mv ?_; refine k_mv ?_; refine k_bls ?_; refine k_it ?_; refine k_nil ?_; refine okS ?_ rfl; refine SC.cond_t rfl ?_; refine SC.skip ?_; refine SC.seq ?_ nofun; refine SC.blk ?_; refine SC.seq ?_ nofun; refine SC.seq ?_ nofun; refine SC.regK ?_; refine k_mv ?_; refine k_mv ?_; refine k_ixs ?_; refine k_if ?_; refine k_nil ?_; refine okS ?_ rfl; refine SC.cond_f rfl ?_; refine SC.skip ?_; refine SC.seq ?_ nofun; refine SC.regK ?_; refine k_mv ?_; refine k_mv ?_; refine k_nil ?_; refine okS ?_ rfl; refine SC.seq ?_ nofun; refine SC.seq ?_ nofun; refine SC.regK ?_; refine k_mv ?_; refine k_mv ?_; refine k_it ?_; refine k_mv ?_; refine k_mv ?_; refine k_mv ?_; refine k_sub ?_; refine k_ixs ?_; refine k_if ?_; refine k_pt ?_; refine k_nil ?_; refine okS ?_ rfl; refine SC.cond_f rfl ?_; refine SC.skip ?_; refine SC.seq ?_ nofun; refine SC.dregK ?_; refine k_mv ?_; refine k_mv ?_; refine k_mv ?_; refine k_mv ?_; refine k_slh ?_; refine k_mv ?_; refine k_mv ?_; refine k_mv ?_; refine k_add ?_; refine k_slh ?_; refine k_bld ?_; refine k_bsl ?_ (c' := [SV.s (List.drop at_ (List.take (i + 1) l)), SV.s (List.drop (i + 1) (List.take (i + 1 + 1) l))]); refine k_appo ?_ (c' := lineC done ++ [SV.s (List.drop at_ (List.take (i + 1) l)), SV.s (List.drop (i + 1) (List.take (i + 1 + 1) l))]) (new := [SV.s (List.drop at_ (List.take (i + 1) l)), SV.s (List.drop (i + 1) (List.take (i + 1 + 1) l))]); refine k_mv ?_; refine k_nil ?_; refine okD (ne := []) ?_ (by kernel_rfl) trivial; refine SC.regK ?_; refine k_mv ?_; refine k_add ?_; refine k_mv ?_; refine k_nil ?_; refine okS ?_ rfl; refine SC.regK ?_; refine k_mv ?_; refine k_add ?_; refine k_mv ?_; refine k_nil ?_; refine okS ?_ rfl
          refine ⟨_, rfl, ⟨i + 1 + 1, i + 1 + 1, n' + 1, 0, done ++ [_], by omega, by omega, by rw [List.length_append]; rfl, by rw [hd, hst, List.append_assoc]; rfl, fun j h1 h3 => by omega, by simp; omega, h_same (by rw [lineC_app, endL_lf ha (fun h3 h4 => hk ⟨h3, h4⟩) hc]; rfl), by omega, by dsimp only; omega, fun y hy => by ((try dsimp only) <;> (repeat first | assumption | with_reducible rfl | exact h_same rfl | refine h_ne (by first | assumption | omega) ?_)); exact hH y hy⟩, by simp; omega⟩
        · refine SC.seq ?_ nofun; refine SC.seq ?_ nofun; refine SC.regK ?_; refine k_mv ?_; refine k_mv ?_; refine k_bls ?_; refine k_it ?_; refine k_nil ?_; refine okS ?_ rfl; refine SC.cond_t rfl ?_; refine SC.skip ?_; refine SC.seq ?_ nofun; refine SC.blk ?_; refine SC.seq ?_ nofun; refine SC.seq ?_ nofun; refine SC.regK ?_; refine k_mv ?_; refine k_mv ?_; refine k_ixs ?_; refine k_if ?_; refine k_nil ?_; refine okS ?_ rfl; refine SC.cond_f rfl ?_; refine SC.skip ?_; refine SC.seq ?_ nofun; refine SC.regK ?_; refine k_mv ?_; refine k_mv ?_; refine k_nil ?_; refine okS ?_ rfl; refine SC.seq ?_ nofun; refine SC.seq ?_ nofun; refine SC.regK ?_; refine k_mv ?_; refine k_mv ?_; refine k_if ?_; refine k_mv ?_; refine k_no ?_; refine k_no ?_; refine k_no ?_; refine k_no ?_; refine k_no ?_; refine k_pf ?_; refine k_nil ?_; refine okS ?_ rfl; refine SC.cond_f rfl ?_; refine SC.skip ?_; refine SC.seq ?_ nofun; refine SC.dregK ?_; refine k_mv ?_; refine k_mv ?_; refine k_mv ?_; refine k_mv ?_; refine k_slh ?_; refine k_mv ?_; refine k_mv ?_; refine k_mv ?_; refine k_add ?_; refine k_slh ?_; refine k_bld ?_; refine k_bsl ?_ (c' := [SV.s (List.drop at_ (List.take i l)), SV.s (List.drop i (List.take (i + 1) l))]); refine k_appo ?_ (c' := lineC done ++ [SV.s (List.drop at_ (List.take i l)), SV.s (List.drop i (List.take (i + 1) l))]) (new := [SV.s (List.drop at_ (List.take i l)), SV.s (List.drop i (List.take (i + 1) l))]); refine k_mv ?_; refine k_nil ?_; refine okD (ne := []) ?_ (by kernel_rfl) trivial; refine SC.regK ?_; refine k_mv ?_; refine k_add ?_; refine k_mv ?_; refine k_nil ?_; refine okS ?_ rfl; refine SC.regK ?_; refine k_mv ?_; refine k_add ?_; refine k_mv ?_; refine k_nil ?_; refine okS ?_ rfl
          refine ⟨_, rfl, ⟨i + 1, i + 1, n' + 1, 0, done ++ [_], by omega, by omega, by rw [List.length_append]; rfl, by rw [hd, hst, List.append_assoc]; rfl, fun j h1 h3 => by omega, by simp; omega, h_same (by rw [lineC_app, endL_lf ha (fun h3 h4 => hk ⟨h3, h4⟩) hc]; rfl), by omega, by dsimp only; omega, fun y hy => by ((try dsimp only) <;> (repeat first | assumption | with_reducible rfl | exact h_same rfl | refine h_ne (by first | assumption | omega) ?_)); exact hH y hy⟩, by simp; omega⟩
    · have h2 : ¬ c.toNat = 10 := fun e => h13 (UInt8.toNat_inj.1 e)
      refine SC.seq ?_ nofun; refine SC.seq ?_ nofun; refine SC.regK ?_; refine k_mv ?_; refine k_mv ?_; refine k_bls ?_; refine k_it ?_; refine k_nil ?_; refine okS ?_ rfl; refine SC.cond_t rfl ?_; refine SC.skip ?_; refine SC.seq ?_ nofun; refine SC.blk ?_; refine SC.seq ?_ nofun; refine SC.seq ?_ nofun; refine SC.regK ?_; refine k_mv ?_; refine k_mv ?_; refine k_ixs ?_; refine k_it ?_; refine k_nil ?_; refine okS ?_ rfl; refine SC.cond_t rfl ?_; refine SC.exit ?_; refine SC.regK ?_; refine k_mv ?_; refine k_add ?_; refine k_mv ?_; refine k_nil ?_; refine okS ?_ rfl
      refine ⟨_, rfl, ⟨i + 1, at_, b, 0, done, by omega, by omega, rfl, hd, fun j h1 h3 => ?_, hdl, hb, hnb, hbn, hH⟩, by simp; omega⟩
      rcases Nat.lt_or_ge j i with h4 | h4
      · exact hno j h1 h4
      · obtain rfl : j = i := by omega
        rw [hc]; simpa using h13
  · obtain rfl : i = l.length := by omega
    have he := split_end hno
    by_cases hal : at_ < l.length
    · rw [if_pos hal] at he
      rw [he] at hd
      refine SC.seq ?_ nofun; refine SC.seq ?_ nofun; refine SC.regK ?_; refine k_mv ?_; refine k_mv ?_; refine k_bls ?_; refine k_if ?_; refine k_nil ?_; refine okS ?_ rfl; refine SC.cond_f rfl ?_; refine SC.exit ?_; refine SC.seq ?_ nofun; refine SC.seq ?_ nofun; refine SC.regK ?_; refine k_mv ?_; refine k_mv ?_; refine k_bls ?_; refine k_it ?_; refine k_nil ?_; refine okS ?_ rfl; refine SC.cond_t rfl ?_; refine SC.regK ?_; refine k_mv ?_; refine k_mv ?_; refine k_mv ?_; refine k_sh ?_; refine k_bld ?_; refine k_bsl ?_ (c' := [SV.s (List.drop at_ l), SV.s []]); refine k_appo ?_ (c' := lineC done ++ [SV.s (List.drop at_ l), SV.s []]) (new := [SV.s (List.drop at_ l), SV.s []]); refine k_mv ?_; refine k_nil ?_; refine okS ?_ rfl; refine SC.seq ?_ nofun; refine SC.regK ?_; refine k_mv ?_; refine k_mv ?_; refine k_nil ?_; refine okS ?_ rfl; refine SC.ret ?_
      refine ⟨_, rfl, _, _, _, _, _, rfl, by ((try dsimp only) <;> (repeat first | assumption | with_reducible rfl | exact h_same rfl | refine h_ne (by first | assumption | omega) ?_)), ?_, fun y hy => ?_⟩
      · rw [hd, lineC_app, List.length_append]; rfl
      · ((try dsimp only) <;> (repeat first | assumption | with_reducible rfl | exact h_same rfl | refine h_ne (by first | assumption | omega) ?_)); exact hH y hy
    · rw [if_neg hal] at he
      rw [he, List.append_nil] at hd
      refine SC.seq ?_ nofun; refine SC.seq ?_ nofun; refine SC.regK ?_; refine k_mv ?_; refine k_mv ?_; refine k_bls ?_; refine k_if ?_; refine k_nil ?_; refine okS ?_ rfl; refine SC.cond_f rfl ?_; refine SC.exit ?_; refine SC.seq ?_ nofun; refine SC.seq ?_ nofun; refine SC.regK ?_; refine k_mv ?_; refine k_mv ?_; refine k_bls ?_; refine k_if ?_; refine k_nil ?_; refine okS ?_ rfl; refine SC.cond_f rfl ?_; refine SC.skip ?_; refine SC.seq ?_ nofun; refine SC.regK ?_; refine k_mv ?_; refine k_mv ?_; refine k_nil ?_; refine okS ?_ rfl; refine SC.ret ?_
      refine ⟨_, rfl, _, _, _, _, _, rfl, by ((try dsimp only) <;> (repeat first | assumption | with_reducible rfl | exact h_same rfl | refine h_ne (by first | assumption | omega) ?_)), ?_, fun y hy => ?_⟩
      · rw [hd]
      · ((try dsimp only) <;> (repeat first | assumption | with_reducible rfl | exact h_same rfl | refine h_ne (by first | assumption | omega) ?_)); exact hH y hy
end Go.Proofs.YtpacfelhjjmmkaaDoor
end
section
set_option maxHeartbeats 20000000
namespace Go.Proofs.YtpacfelhjjmmkaaDoor
open Go Go.Sy Go.Tr Go.Kb Go.RowKit Go.Cd
set_option linter.unusedVariables false
set_option linter.unusedSimpArgs false
theorem snoc_wt : ∀ (r : RL) (w d : List UInt8) (fr tl at_ : Nat) (ps : List (List UInt8 × List UInt8)) (ls : List Nat) (k : RL), (r.snoc w d fr tl at_ ps ls k).wt = r.wt + (4 + 2 * ps.length + k.wt)
  | .nil, _, _, _, _, _, _, _, _ => by simp only [RL.snoc, RL.wt]; omega
  | .cons _ _ _ _ _ _ _ _ r, w, d, fr, tl, at_, ps, ls, k => by simp only [RL.snoc, RL.wt, snoc_wt r]; omega
def wtS : List OR → Nat
  | [] => 0
  | o :: os => 4 + 2 * o.ps.length + o.kids.wt + wtS os
theorem take_wt (os : List OR) (i : Nat) (text : List UInt8) : wtS (takeR os i text).2 ≤ wtS os + 4 := by
  obtain ⟨a, b, h | h | h | h | h⟩ := readL_kinds text
  · rw [takeR0 h]; exact Nat.le_add_right _ _
  · rw [takeR1 h]
    split
    · exact Nat.le_add_right _ _
    · simp only [wtS, RL.wt, List.length_nil]; omega
  · match os with
    | [] => unfold takeR; rw [h]; exact Nat.le_add_right _ _
    | [o] => rw [takeR2a h]; exact Nat.le_add_right _ _
    | o :: g :: r =>
      rw [takeR2 h]
      repeat' split
      · exact Nat.le_add_right _ _
      · exact Nat.le_add_right _ _
      · simp only [wtS, snoc_wt]; omega
  · match os with
    | [] => unfold takeR; rw [h]; exact Nat.le_add_right _ _
    | [o] => rw [takeR3a h]; exact Nat.le_add_right _ _
    | o :: g :: r =>
      rw [takeR3 h]
      repeat' split
      · exact Nat.le_add_right _ _
      · simp only [wtS]; omega
      · exact Nat.le_add_right _ _
      · simp only [wtS, List.length_append, List.length_cons, List.length_nil]; omega
  · rw [takeR4 h]; exact Nat.le_add_right _ _
theorem run_wt : ∀ (l : List (List UInt8 × List UInt8)) (os : List OR) (i : Nat), wtS (runR os i l).2.2 ≤ wtS os + 4 * l.length
  | [], os, i => Nat.le_refl _
  | p :: l, os, i => by
    rw [runR]
    split
    · have h1 := run_wt l (takeR os i p.1).2 (i + 1)
      have h2 := take_wt os i p.1
      simp only [List.length_cons]; omega
    · simp only [List.length_cons]; omega
theorem blocks_wt (l : List (List UInt8 × List UInt8)) : wtS (blocksM l).2.2 ≤ 4 + 4 * l.length := by
  have := run_wt l [root0] 0
  have h0 : wtS [root0] = 4 := rfl
  unfold blocksM
  repeat' split
  all_goals ((try dsimp only); omega)
theorem blocks_one {l : List (List UInt8 × List UInt8)} (h : (blocksM l).1 = 0) : ∃ o, (blocksM l).2.2 = [o] ∨ (blocksM l).2.2 = [] := by
  revert h
  unfold blocksM
  repeat' split
  · rename_i h1; exact fun h => absurd h h1
  · exact fun h => absurd h (show (6 : Int) ≠ 0 by decide)
  · rename_i h1 h2
    intro _
    dsimp only
    match hh : (runR [root0] 0 l).2.2 with
    | [] => exact ⟨root0, .inr rfl⟩
    | [o] => exact ⟨o, .inl rfl⟩
    | _ :: _ :: _ => rw [hh] at h2; exact absurd (by simp) h2
theorem takeR_ne {os : List OR} {i : Nat} {text : List UInt8} (h : os ≠ []) : (takeR os i text).2 ≠ [] := by
  obtain ⟨a, b, h1 | h1 | h1 | h1 | h1⟩ := readL_kinds text
  · rw [takeR0 h1]; exact h
  · rw [takeR1 h1]; split <;> simp [h]
  · match os, h with
    | [o], _ => rw [takeR2a h1]; simp
    | o :: g :: r, _ => rw [takeR2 h1]; repeat' split <;> simp
  · match os, h with
    | [o], _ => rw [takeR3a h1]; simp
    | o :: g :: r, _ => rw [takeR3 h1]; repeat' split <;> simp
  · rw [takeR4 h1]; exact h
theorem runR_ne : ∀ (l : List (List UInt8 × List UInt8)) (os : List OR) (i : Nat), os ≠ [] → (runR os i l).2.2 ≠ []
  | [], os, i, h => h
  | p :: l, os, i, h => by
    rw [runR]
    split
    · exact runR_ne l _ _ (takeR_ne h)
    · exact h
theorem blocks_ne (l : List (List UInt8 × List UInt8)) : (blocksM l).2.2 ≠ [] := by
  have := runR_ne l [root0] 0 (by simp)
  unfold blocksM
  repeat' split
  all_goals exact this
def rootT : List OR → Tr
  | [o] => kidsA .nil o.kids
  | _ => .nil
def refM (l : List UInt8) : Int × Nat × Tr :=
  if 4000 < l.length then (5, 0, .nil) else
  if (blocksM (splitL l)).1 ≠ 0 then ((blocksM (splitL l)).1, (blocksM (splitL l)).2.1, .nil) else
  if (chk (rootT (blocksM (splitL l)).2.2) 1 0 none).1 ≠ 0 then ((chk (rootT (blocksM (splitL l)).2.2) 1 0 none).1, 0, .nil) else (0, 0, rootT (blocksM (splitL l)).2.2)
def refV (r : Int × Nat × Tr) : SV := .tup [if r.1 = 0 then tv r.2.2 else .nils, .i .i64 r.2.1, .i .i64 r.1]
theorem lo_refV (n : Nat) (r : Int × Nat × Tr) : Lo n (refV r) := by
  unfold refV
  refine .tup (.cons ?_ (.cons .i (.cons .i .nil)))
  split
  · exact lo_tv _ _
  · exact .nils
theorem rLoad_sc (l : List UInt8) (s : St) (hl : l.length ≤ 1000000) : SCall Tryd.prog 11 [.s l] s (refV (refM l)) s := by
  obtain ⟨H, n⟩ := s
  refine SCallR.pure (SCallR.enter cc_cadenceref8_Load ?_) (lo_refV n _)
  dsimp only [c_cadenceref8_Load, argT]
  by_cases h4 : 4000 < l.length
  · have e : refM l = (5, 0, .nil) := if_pos h4
    refine SC.seq ?_ nofun; refine SC.regK ?_; refine k_mv ?_; refine k_mv ?_; refine k_mv ?_; refine k_nil ?_; refine okS ?_ rfl; refine SC.seq ?_ nofun; refine SC.seq ?_ nofun; refine SC.regK ?_; refine k_mv ?_; refine k_bls ?_; refine k_it ?_; refine k_nil ?_; refine okS ?_ rfl; refine SC.cond_t rfl ?_; refine SC.seq ?_ nofun; refine SC.regK ?_; refine k_mv ?_; refine k_mv ?_; refine k_mv ?_; refine k_nil ?_; refine okS ?_ rfl; refine SC.ret ?_
    refine ⟨_, rfl, ?_, fun y hy => rfl⟩
    rw [e]
    rfl
  · have hs := fun s => splitR_sc l s hl
    have hN := splitL_len l.length l (Nat.le_refl _)
    have hb := blocks_sc (splitL l) n (by omega) (fun x hx => by have := splitL_text l x hx; omega)
    have hw := blocks_wt (splitL l)
    have h1 := fun h => blocks_one (l := splitL l) h
    have hne := blocks_ne (splitL l)
    have e0 : refM l = if (blocksM (splitL l)).1 ≠ 0 then ((blocksM (splitL l)).1, (blocksM (splitL l)).2.1, .nil) else
      if (chk (rootT (blocksM (splitL l)).2.2) 1 0 none).1 ≠ 0 then ((chk (rootT (blocksM (splitL l)).2.2) 1 0 none).1, 0, .nil) else (0, 0, rootT (blocksM (splitL l)).2.2) := if_neg h4
    generalize blocksM (splitL l) = r at *
    obtain ⟨e, i, os⟩ := r
    dsimp only at hw h1 hne e0
    unfold blocksV at hb
    dsimp only at hb
    by_cases he : e = 0
    · subst he
      obtain ⟨o, rfl | rfl⟩ := h1 rfl
      · rw [if_pos rfl] at hb
        rw [if_neg (by simp)] at e0
        replace e0 : refM l = if (chk (kidsA .nil o.kids) 1 0 none).1 ≠ 0 then ((chk (kidsA .nil o.kids) 1 0 none).1, 0, .nil) else (0, 0, kidsA .nil o.kids) := e0
        simp only [rootV] at hb
        simp only [wtS] at hw
        have hks := kidsA_size o.kids .nil
        simp only [Tr.size] at hks
        have hk := fun s => kids_sc (o.kids.wt + 1) o.kids (Nat.lt_succ_self _) (by omega) o.w o.d o.fr 0 o.at_ o.ps o.ls s
        have hc := fun s => rcheck_sc (kidsA .nil o.kids) s (by omega)
        unfold rbV at hb hk
        by_cases hc0 : (chk (kidsA .nil o.kids) 1 0 none).1 = 0
        · have hd : decide ((chk (kidsA .nil o.kids) 1 0 none).1 = 0) = true := decide_eq_true hc0
          rw [if_neg (by simp [hc0])] at e0
          refine SC.seq ?_ nofun; refine SC.regK ?_; refine k_mv ?_; refine k_mv ?_; refine k_mv ?_; refine k_nil ?_; refine okS ?_ rfl; refine SC.seq ?_ nofun; refine SC.seq ?_ nofun; refine SC.regK ?_; refine k_mv ?_; refine k_bls ?_; refine k_if ?_; refine k_nil ?_; refine okS ?_ rfl; refine SC.cond_f rfl ?_; refine SC.skip ?_; refine SC.seq ?_ nofun; refine SC.regK ?_; refine k_mv ?_; refine k_call (hs _) ?_; refine k_call (hb) ?_; refine k_mv ?_; refine k_ext ?_; refine k_ext ?_; refine k_ext ?_; refine k_mv ?_; refine k_mv ?_; refine k_mv ?_; refine k_nil ?_; refine okS ?_ rfl; refine SC.seq ?_ nofun; refine SC.seq ?_ nofun; refine SC.regK ?_; refine k_mv ?_; refine k_if ?_; refine k_nil ?_; refine okS ?_ rfl; refine SC.cond_f rfl ?_; refine SC.skip ?_; refine SC.seq ?_ nofun; refine SC.regK ?_; refine k_mv ?_; refine k_call (hk _) ?_; refine k_mv ?_; refine k_nil ?_; refine okS ?_ rfl; refine SC.seq ?_ nofun; refine SC.regK ?_; refine k_mv ?_; refine k_call (hc _) ?_; refine k_mv ?_; refine k_nil ?_; refine okS ?_ rfl; refine SC.seq ?_ nofun; refine SC.seq ?_ nofun; refine SC.regK ?_; refine k_mv ?_; refine k_if ?_; refine k_nil ?_; refine okS ?_ rfl; refine SC.cond_f rfl ?_; refine SC.skip ?_; refine SC.seq ?_ nofun; refine SC.regK ?_; refine k_mv ?_; refine k_mv ?_; refine k_mv ?_; refine k_mv ?_; refine k_nil ?_; refine okS ?_ rfl; refine SC.ret ?_
          refine ⟨_, rfl, ?_, fun y hy => rfl⟩
          rw [e0]
          rfl
        · have hd : decide ((chk (kidsA .nil o.kids) 1 0 none).1 = 0) = false := decide_eq_false hc0
          rw [if_pos hc0] at e0
          refine SC.seq ?_ nofun; refine SC.regK ?_; refine k_mv ?_; refine k_mv ?_; refine k_mv ?_; refine k_nil ?_; refine okS ?_ rfl; refine SC.seq ?_ nofun; refine SC.seq ?_ nofun; refine SC.regK ?_; refine k_mv ?_; refine k_bls ?_; refine k_if ?_; refine k_nil ?_; refine okS ?_ rfl; refine SC.cond_f rfl ?_; refine SC.skip ?_; refine SC.seq ?_ nofun; refine SC.regK ?_; refine k_mv ?_; refine k_call (hs _) ?_; refine k_call (hb) ?_; refine k_mv ?_; refine k_ext ?_; refine k_ext ?_; refine k_ext ?_; refine k_mv ?_; refine k_mv ?_; refine k_mv ?_; refine k_nil ?_; refine okS ?_ rfl; refine SC.seq ?_ nofun; refine SC.seq ?_ nofun; refine SC.regK ?_; refine k_mv ?_; refine k_if ?_; refine k_nil ?_; refine okS ?_ rfl; refine SC.cond_f rfl ?_; refine SC.skip ?_; refine SC.seq ?_ nofun; refine SC.regK ?_; refine k_mv ?_; refine k_call (hk _) ?_; refine k_mv ?_; refine k_nil ?_; refine okS ?_ rfl; refine SC.seq ?_ nofun; refine SC.regK ?_; refine k_mv ?_; refine k_call (hc _) ?_; refine k_mv ?_; refine k_nil ?_; refine okS ?_ rfl; refine SC.seq ?_ nofun; refine SC.seq ?_ nofun; refine SC.regK ?_; refine k_mv ?_; refine k_it ?_; refine k_nil ?_; refine okS ?_ rfl; refine SC.cond_t rfl ?_; refine SC.seq ?_ nofun; refine SC.regK ?_; refine k_mv ?_; refine k_mv ?_; refine k_mv ?_; refine k_mv ?_; refine k_nil ?_; refine okS ?_ rfl; refine SC.ret ?_
          refine ⟨_, rfl, ?_, fun y hy => rfl⟩
          rw [e0, refV, if_neg hc0]
          rfl
      · exact absurd rfl hne
    · have hd : decide (e = 0) = false := decide_eq_false he
      rw [if_neg he] at hb
      rw [if_pos he] at e0
      refine SC.seq ?_ nofun; refine SC.regK ?_; refine k_mv ?_; refine k_mv ?_; refine k_mv ?_; refine k_nil ?_; refine okS ?_ rfl; refine SC.seq ?_ nofun; refine SC.seq ?_ nofun; refine SC.regK ?_; refine k_mv ?_; refine k_bls ?_; refine k_if ?_; refine k_nil ?_; refine okS ?_ rfl; refine SC.cond_f rfl ?_; refine SC.skip ?_; refine SC.seq ?_ nofun; refine SC.regK ?_; refine k_mv ?_; refine k_call (hs _) ?_; refine k_call (hb) ?_; refine k_mv ?_; refine k_ext ?_; refine k_ext ?_; refine k_ext ?_; refine k_mv ?_; refine k_mv ?_; refine k_mv ?_; refine k_nil ?_; refine okS ?_ rfl; refine SC.seq ?_ nofun; refine SC.seq ?_ nofun; refine SC.regK ?_; refine k_mv ?_; refine k_it ?_; refine k_nil ?_; refine okS ?_ rfl; refine SC.cond_t rfl ?_; refine SC.seq ?_ nofun; refine SC.regK ?_; refine k_mv ?_; refine k_mv ?_; refine k_mv ?_; refine k_mv ?_; refine k_mv ?_; refine k_nil ?_; refine okS ?_ rfl; refine SC.ret ?_
      refine ⟨_, rfl, ?_, fun y hy => rfl⟩
      rw [e0, refV, if_neg he]
end Go.Proofs.YtpacfelhjjmmkaaDoor
end
section
namespace Go.Proofs.YtpacfelhjjmmkaaDoor
open Go Go.Sy Go.Tr Go.Kb Go.RowKit Go.Cd
set_option linter.unusedVariables false
set_option linter.unusedSimpArgs false
theorem kidsA_snoc : ∀ (r : RL) (t : Tr) (w d : List UInt8) (fr tl at_ : Nat) (ps : List (List UInt8 × List UInt8)) (ls : List Nat) (k : RL), kidsA t (r.snoc w d fr tl at_ ps ls k) = (kidsA t r).putp (pth [w, d]) (cT (kidsA .nil k) (propsA .nil ps))
  | .nil, t, _, _, _, _, _, _, _, _ => rfl
  | .cons _ _ _ _ _ _ _ _ r, t, w, d, fr, tl, at_, ps, ls, k => by simp only [RL.snoc, kidsA, kidsA_snoc r]
theorem propsA_snoc : ∀ (ps : List (List UInt8 × List UInt8)) (t : Tr) (w v : List UInt8), propsA t (ps ++ [(w, v)]) = (propsA t ps).putp (pth [w, v]) .nil
  | [], t, w, v => rfl
  | p :: ps, t, w, v => by simp only [List.cons_append, propsA, propsA_snoc ps]
theorem cT_ok {k p : Tr} (hk : k.ok) (hp : p.ok) : (cT k p).ok := ⟨fun b hb => by
  simp only [Tr.names, List.mem_cons, List.not_mem_nil, or_false] at hb
  subst hb
  decide +kernel, hk, fun b hb => by simp [Tr.names] at hb, hp, trivial⟩
theorem propsA_ok : ∀ (ps : List (List UInt8 × List UInt8)) (t : Tr), t.ok → (propsA t ps).ok
  | [], t, h => h
  | p :: ps, t, h => propsA_ok ps _ (Tr.putp_ok (show Tr.nil.ok from trivial) h)
theorem kidsA_ok : ∀ (r : RL) (t : Tr), t.ok → (kidsA t r).ok
  | .nil, t, h => h
  | .cons _ _ _ _ _ ps _ k r, t, h => kidsA_ok r _ (Tr.putp_ok (cT_ok (kidsA_ok k .nil trivial) (propsA_ok ps .nil trivial)) h)
theorem bA_inj {a b : List UInt8} (h : bA a = bA b) : a = b := by
  have := congrArg (fun x : ByteArray => x.data.toList) h
  exact this
theorem getp2 (t : Tr) (a b : ByteArray) : t.getp [a, b] = (t.get1 a).bind (fun k => k.get1 b) := by
  simp only [Tr.getp]
  cases t.get1 a with
  | none => rfl
  | some k => simp only [Option.bind_some]; cases k.get1 b <;> rfl
theorem getp_putp2 {t x : Tr} (ht : t.ok) (hx : x.ok) (a b c d : List UInt8) : (t.putp (pth [a, b]) x).getp (pth [c, d]) = if c = a ∧ d = b then some x else t.getp (pth [c, d]) := by
  simp only [pth, List.map_cons, List.map_nil, getp2, Tr.putp]
  have hD := Tr.getD_ok (nm := bA a) ht
  rw [Tr.get1_set1 ht]
  by_cases h : c = a
  · subst h
    rw [if_pos rfl, Option.bind_some, Tr.get1_set1 hD]
    by_cases h2 : d = b
    · subst h2
      rw [if_pos rfl, if_pos ⟨rfl, rfl⟩]
    · rw [if_neg (fun e => h2 (bA_inj e)), if_neg (fun e => h2 e.2)]
      cases t.get1 (bA c) with
      | none => rfl
      | some k => rfl
  · rw [if_neg (fun e => h (bA_inj e)), if_neg (fun e => h e.1)]
theorem getp_nil (a b : List UInt8) : Tr.nil.getp (pth [a, b]) = none := by
  simp only [pth, List.map_cons, List.map_nil, getp2]
  rfl
theorem twin_get : ∀ (r : RL) (t : Tr) (w d : List UInt8), t.ok → ((kidsA t r).getp (pth [w, d])).isSome = (twinL r w d || (t.getp (pth [w, d])).isSome)
  | .nil, t, w, d, h => by simp only [kidsA, twinL, Bool.false_or]
  | .cons w' d' fr tl at_ ps ls k r, t, w, d, h => by
    have hc := cT_ok (kidsA_ok k .nil trivial) (propsA_ok ps .nil trivial)
    rw [kidsA, twin_get r _ w d (Tr.putp_ok hc h), getp_putp2 h hc, twinL]
    by_cases h1 : w' = w
    · by_cases h2 : d' = d
      · rw [if_pos ⟨h1.symm, h2.symm⟩]; simp [h1, h2]
      · rw [if_neg (fun e => h2 e.2.symm)]; simp [h2]
    · rw [if_neg (fun e => h1 e.1.symm)]; simp [h1]
theorem props_get : ∀ (ps : List (List UInt8 × List UInt8)) (t : Tr) (w d : List UInt8), t.ok → ((propsA t ps).getp (pth [w, d])).isSome = (hasP w d ps || (t.getp (pth [w, d])).isSome)
  | [], t, w, d, h => by simp only [propsA, hasP, List.any_nil, Bool.false_or]
  | p :: ps, t, w, d, h => by
    have ih := props_get ps (t.putp (pth [p.1, p.2]) .nil) w d (Tr.putp_ok (show Tr.nil.ok from trivial) h)
    rw [propsA, ih, getp_putp2 h (show Tr.nil.ok from trivial)]
    simp only [hasP, List.any_cons]
    by_cases h1 : p.1 = w
    · by_cases h2 : p.2 = d
      · rw [if_pos ⟨h1.symm, h2.symm⟩]; simp [h1, h2]
      · rw [if_neg (fun e => h2 e.2.symm)]; simp [h2]
    · rw [if_neg (fun e => h1 e.1.symm)]; simp [h1]
theorem lt_bp : ltB (bA nBlocks) (bA nProps) = true := by decide +kernel
theorem lt_bb : ltB (bA nBlocks) (bA nBlocks) = false := by decide +kernel
theorem lt_pp : ltB (bA nProps) (bA nProps) = false := by decide +kernel
theorem cT_get1b (k p : Tr) : (cT k p).get1 (bA nBlocks) = some k := by
  rw [cT, Tr.get1_cons, lt_bb]
  simp
theorem cT_get1p (k p : Tr) : (cT k p).get1 (bA nProps) = some p := by
  rw [cT, Tr.get1_cons, lt_bp, if_pos rfl, Tr.get1_cons, lt_pp]
  simp
theorem cT_set1b (k p x : Tr) : (cT k p).set1 (bA nBlocks) x = cT x p := by
  rw [cT, Tr.set1, lt_bb]
  simp [cT]
theorem cT_set1p (k p x : Tr) : (cT k p).set1 (bA nProps) x = cT k x := by
  rw [cT, Tr.set1, lt_bp, if_pos rfl, Tr.set1, lt_pp]
  simp [cT]
theorem cT_getb (k p : Tr) (a b : List UInt8) : (cT k p).getp (pth [nBlocks, a, b]) = k.getp (pth [a, b]) := by
  simp only [pth, List.map_cons, List.map_nil, Tr.getp, cT_get1b, Option.bind_some]
theorem cT_getp (k p : Tr) (a b : List UInt8) : (cT k p).getp (pth [nProps, a, b]) = p.getp (pth [a, b]) := by
  simp only [pth, List.map_cons, List.map_nil, Tr.getp, cT_get1p, Option.bind_some]
theorem cT_putb (k p x : Tr) (a b : List UInt8) : (cT k p).putp (pth [nBlocks, a, b]) x = cT (k.putp (pth [a, b]) x) p := by
  simp only [pth, List.map_cons, List.map_nil, Tr.putp, cT_get1b, cT_set1b, Option.getD_some]
theorem cT_putp (k p x : Tr) (a b : List UInt8) : (cT k p).putp (pth [nProps, a, b]) x = cT k (p.putp (pth [a, b]) x) := by
  simp only [pth, List.map_cons, List.map_nil, Tr.putp, cT_get1p, cT_set1p, Option.getD_some]
end Go.Proofs.YtpacfelhjjmmkaaDoor
end
section
namespace Go.Proofs.YtpacfelhjjmmkaaDoor
open Go Go.Sy Go.Tr Go.Kb Go.RowKit Go.Cd
set_option linter.unusedVariables false
set_option linter.unusedSimpArgs false
structure relO (b : OB) (o : OR) : Prop where
  w : b.w = o.w
  d : b.d = o.d
  nm : b.nm = decide (0 < o.at_)
  c : b.c = cT (kidsA .nil o.kids) (propsA .nil o.ps)
def relS (B : Nat → OB) (t : Tr) : Nat → List OR → Prop
  | 0, [root] => t = kidsA .nil root.kids
  | k + 1, o :: os => relO (B k) o ∧ relS B t k os
  | _, _ => False
theorem relS_len {B : Nat → OB} {t : Tr} : ∀ {k : Nat} {os : List OR}, relS B t k os → os.length = k + 1
  | 0, [_], _ => rfl
  | k + 1, o :: os, h => by rw [List.length_cons, relS_len h.2]
theorem relS_agree {B B' : Nat → OB} {t : Tr} : ∀ {k : Nat} {os : List OR}, (∀ i, i < k → B' i = B i) → relS B t k os → relS B' t k os
  | 0, [_], _, h => h
  | k + 1, o :: os, hB, h => ⟨by rw [hB k (Nat.lt_succ_self k)]; exact h.1, relS_agree (fun i hi => hB i (by omega)) h.2⟩
def rel (m : M) (os : List OR) : Prop := relS m.B m.t m.k os
theorem kids_isSome (o : OR) (w d : List UInt8) : ((kidsA .nil o.kids).getp (pth [w, d])).isSome = twinL o.kids w d := by
  rw [twin_get o.kids .nil w d trivial, getp_nil]
  simp
theorem props_isSome (o : OR) (w d : List UInt8) : ((propsA .nil o.ps).getp (pth [w, d])).isSome = hasP w d o.ps := by
  rw [props_get o.ps .nil w d trivial, getp_nil]
  simp
theorem take_rel {m : M} {os : List OR} (h : rel m os) (i : Nat) (text ed : List UInt8) : (takeM m text ed).1 = (takeR os i text).1 ∧ ((takeM m text ed).1 = 0 → rel (takeM m text ed).2 (takeR os i text).2) := by
  have hlen := relS_len h
  obtain ⟨ls, k, B, t⟩ := m
  unfold rel at h
  dsimp only at h hlen
  obtain ⟨ka, kb, hk | hk | hk | hk | hk⟩ := readL_kinds text
  · rw [takeM0 hk, takeR0 hk]
    exact ⟨rfl, fun _ => h⟩
  · rw [takeM1 hk, takeR1 hk, hlen]
    dsimp only
    by_cases h3 : 3 < k + 1
    · rw [if_pos h3, if_pos h3]
      exact ⟨rfl, fun e => absurd e (show (11 : Int) ≠ 0 by decide)⟩
    · rw [if_neg h3, if_neg h3]
      refine ⟨rfl, fun _ => ⟨?_, relS_agree (fun j hj => setB_ne _ _ (by omega)) h⟩⟩
      dsimp only
      rw [setB_same]
      exact ⟨rfl, rfl, rfl, rfl⟩
  · rw [takeM2 hk]
    dsimp only
    match k, os, h with
    | 0, [root], h =>
      rw [takeR2a hk]
      exact ⟨rfl, fun e => absurd e (show (6 : Int) ≠ 0 by decide)⟩
    | 1, [b, root], h =>
      obtain ⟨hb, ht⟩ := h
      have ht : t = kidsA .nil root.kids := ht
      rw [takeR2 hk]
      simp only [closeM]
      have hnm : (B 0).nm = false ↔ b.at_ = 0 := by rw [hb.nm]; simp
      have hor : ((B 0).w ≠ kb ∨ (B 0).nm = false) ↔ (b.w ≠ kb ∨ b.at_ = 0) := by rw [hb.w, hnm]
      by_cases h6 : b.w ≠ kb ∨ b.at_ = 0
      · rw [if_pos h6, if_pos (hor.2 h6)]
        exact ⟨rfl, fun e => absurd e (show (6 : Int) ≠ 0 by decide)⟩
      · rw [if_neg h6, if_neg (fun e => h6 (hor.1 e))]
        have hs := kids_isSome root b.w b.d
        rw [← ht, ← hb.w, ← hb.d] at hs
        rw [← hb.w, ← hb.d]
        cases hg : t.getp (pth [(B 0).w, (B 0).d]) with
        | some x =>
          rw [hg] at hs
          rw [← hs, if_pos (show (some x).isSome = true from rfl)]
          exact ⟨rfl, fun e => absurd e (show (7 : Int) ≠ 0 by decide)⟩
        | none =>
          rw [hg] at hs
          rw [← hs, if_neg (by decide)]
          refine ⟨rfl, fun _ => ?_⟩
          show t.putp (pth [(B 0).w, (B 0).d]) (B 0).c = kidsA .nil (root.kids.snoc (B 0).w (B 0).d b.fr i b.at_ b.ps b.ls b.kids)
          rw [kidsA_snoc, ← ht, hb.c]
    | k + 2, b :: g :: r, h =>
      obtain ⟨hb, hg', hr⟩ := h
      rw [takeR2 hk]
      simp only [closeM]
      have hnm : (B (k + 1)).nm = false ↔ b.at_ = 0 := by rw [hb.nm]; simp
      have hor : ((B (k + 1)).w ≠ kb ∨ (B (k + 1)).nm = false) ↔ (b.w ≠ kb ∨ b.at_ = 0) := by rw [hb.w, hnm]
      by_cases h6 : b.w ≠ kb ∨ b.at_ = 0
      · rw [if_pos h6, if_pos (hor.2 h6)]
        exact ⟨rfl, fun e => absurd e (show (6 : Int) ≠ 0 by decide)⟩
      · rw [if_neg h6, if_neg (fun e => h6 (hor.1 e))]
        have hs := kids_isSome g b.w b.d
        have hgc : (B k).c = cT (kidsA .nil g.kids) (propsA .nil g.ps) := hg'.c
        have hget : (B k).c.getp (pth [nBlocks, (B (k + 1)).w, (B (k + 1)).d]) = (kidsA .nil g.kids).getp (pth [b.w, b.d]) := by rw [hgc, cT_getb, hb.w, hb.d]
        rw [hget]
        cases hg : (kidsA .nil g.kids).getp (pth [b.w, b.d]) with
        | some x =>
          rw [hg] at hs
          rw [← hs, if_pos (show (some x).isSome = true from rfl)]
          exact ⟨rfl, fun e => absurd e (show (7 : Int) ≠ 0 by decide)⟩
        | none =>
          rw [hg] at hs
          rw [← hs, if_neg (by decide)]
          refine ⟨rfl, fun _ => ⟨?_, relS_agree (fun j hj => setB_ne _ _ (by omega)) hr⟩⟩
          dsimp only
          rw [setB_same]
          refine ⟨hg'.w, hg'.d, hg'.nm, ?_⟩
          dsimp only
          rw [kidsA_snoc, hgc, cT_putb, hb.w, hb.d, hb.c]
  · rw [takeM3 hk]
    dsimp only
    match k, os, h with
    | 0, [root], h =>
      rw [takeR3a hk]
      exact ⟨rfl, fun e => absurd e (show (6 : Int) ≠ 0 by decide)⟩
    | k + 1, b :: g :: r, h =>
      obtain ⟨hb, hr⟩ := h
      rw [takeR3 hk]
      simp only [propM]
      by_cases hI : ka = bID
      · rw [if_pos hI, decide_eq_true hI]
        simp only [if_true, reduceCtorEq, if_false, Bool.true_eq_false]
        by_cases h0 : 0 < b.at_
        · rw [if_pos h0, if_pos (by rw [hb.nm]; simpa using h0)]
          exact ⟨rfl, fun e => absurd e (show (7 : Int) ≠ 0 by decide)⟩
        · rw [if_neg h0, if_neg (by rw [hb.nm]; simpa using h0)]
          refine ⟨rfl, fun _ => ⟨?_, relS_agree (fun j hj => setB_ne _ _ (by omega)) hr⟩⟩
          dsimp only
          rw [setB_same]
          exact ⟨hb.w, rfl, by simp, hb.c⟩
      · rw [if_neg hI, decide_eq_false hI]
        simp only [Bool.false_eq_true, if_false]
        have hs := props_isSome b ka kb
        have hget : (B k).c.getp (pth [nProps, ka, kb]) = (propsA .nil b.ps).getp (pth [ka, kb]) := by rw [hb.c, cT_getp]
        rw [hget]
        cases hg : (propsA .nil b.ps).getp (pth [ka, kb]) with
        | some x =>
          rw [hg] at hs
          rw [← hs, if_pos (show (some x).isSome = true from rfl)]
          exact ⟨rfl, fun e => absurd e (show (7 : Int) ≠ 0 by decide)⟩
        | none =>
          rw [hg] at hs
          rw [← hs, if_neg (by decide)]
          refine ⟨rfl, fun _ => ⟨?_, relS_agree (fun j hj => setB_ne _ _ (by omega)) hr⟩⟩
          dsimp only
          rw [setB_same]
          refine ⟨hb.w, hb.d, hb.nm, ?_⟩
          dsimp only
          rw [propsA_snoc, hb.c, cT_putp]
  · rw [takeM4 hk, takeR4 hk]
    exact ⟨rfl, fun e => absurd e (show (6 : Int) ≠ 0 by decide)⟩
theorem run_rel : ∀ (l : List (List UInt8 × List UInt8)) (m : M) (os : List OR) (i : Nat), rel m os → (runM m i l).1 = (runR os i l).1 ∧ (runM m i l).2.1 = (runR os i l).2.1 ∧ ((runM m i l).1 = 0 → rel (runM m i l).2.2 (runR os i l).2.2)
  | [], m, os, i, h => ⟨rfl, rfl, fun _ => h⟩
  | p :: l, m, os, i, h => by
    rw [runM, runR]
    obtain ⟨h1, h2⟩ := take_rel h i p.1 p.2
    by_cases h13 : p.1.any (fun b => b == 13) = true
    · have hr4 : readL p.1 = (4, [], []) := by unfold readL; rw [if_pos h13]
      rw [if_pos h13, takeR4 hr4, if_neg (show (6 : Int) ≠ 0 by decide)]
      exact ⟨rfl, rfl, fun e => absurd e (show (6 : Int) ≠ 0 by decide)⟩
    · rw [if_neg h13]
      by_cases h0 : (takeM m p.1 p.2).1 = 0
      · rw [if_pos h0, if_pos (by rw [← h1]; exact h0)]
        exact run_rel l _ _ (i + 1) (h2 h0)
      · rw [if_neg h0, if_neg (by rw [← h1]; exact h0), ← h1]
        exact ⟨rfl, rfl, fun e => absurd e h0⟩
theorem load_rel (l : List UInt8) : cLoadV (loadM l) = refV (refM l) := by
  unfold loadM refM
  by_cases h4 : 4000 < l.length
  · rw [if_pos h4, if_pos h4]; rfl
  · rw [if_neg h4, if_neg h4]
    have h0 : rel M0 [root0] := rfl
    obtain ⟨h1, h2, h3⟩ := run_rel (splitL l) M0 [root0] 0 h0
    unfold blocksM
    by_cases he : (runM M0 0 (splitL l)).1 ≠ 0
    · have he' : (runR [root0] 0 (splitL l)).1 ≠ 0 := by rw [← h1]; exact he
      rw [if_pos he, if_pos he', if_pos he']
      unfold cLoadV refV
      dsimp only
      rw [if_neg he, if_neg he', h1, h2]
    · have he' : ¬ (runR [root0] 0 (splitL l)).1 ≠ 0 := by rw [← h1]; exact he
      have hr := h3 (Decidable.not_not.1 he)
      rw [if_neg he, if_neg he']
      generalize (runM M0 0 (splitL l)).2.2 = m at *
      generalize (runR [root0] 0 (splitL l)).2.2 = os at *
      have hlen := relS_len hr
      by_cases hk : m.k ≠ 0
      · rw [if_pos hk, if_pos (show 1 < os.length by omega), if_pos (show (6 : Int) ≠ 0 by decide)]
        rfl
      · rw [if_neg hk, if_neg (show ¬ 1 < os.length by omega), if_neg (show ¬ (0 : Int) ≠ 0 by decide)]
        obtain ⟨ls, k, B, t⟩ := m
        dsimp only at hk hlen ⊢
        obtain rfl : k = 0 := by omega
        match os, hr with
        | [root], hr =>
          have ht : t = kidsA .nil root.kids := hr
          rw [show rootT [root] = kidsA .nil root.kids from rfl, ← ht]
          by_cases hc : (chk t 1 0 none).1 ≠ 0
          · rw [if_pos hc, if_pos hc]
            unfold cLoadV refV
            dsimp only
            rw [if_neg hc, if_neg hc]
          · rw [if_neg hc, if_neg hc]
            rfl
end Go.Proofs.YtpacfelhjjmmkaaDoor
end
section
namespace Go.Sy
open Go
set_option linter.unusedVariables false
section
variable {P : Program} {T : Tm} {s s1 : St} {K : Kn} {l : List AOp} {d : Option Nat} {g : Option (Nat × Bool)} {x y : SO} {A B : Int} {k : IntKind} {ek : EK}
theorem k_rem (h : SRegK P l (putT T d (.i k (A.tmod B))) s (cK ⟨d, .i k (A.tmod B), false, [], [], s.nxt, s.nxt⟩ K)) (hx : evO T x = some (.i k A) := by rfl) (hy : evO T y = some (.i k B) := by rfl) (hB : B ≠ 0 := by first | assumption | decide | omega) (hw : wants T g = some true := by rfl) : SRegK P (⟨d, g, .bin .rem ek x y⟩ :: l) T s K := kp hw rfl (op_rem hx hy hB) h
theorem k_quo (h : SRegK P l (putT T d (.i k (k.wrap (A.tdiv B)))) s (cK ⟨d, .i k (k.wrap (A.tdiv B)), false, [], [], s.nxt, s.nxt⟩ K)) (hx : evO T x = some (.i k A) := by rfl) (hy : evO T y = some (.i k B) := by rfl) (hB : B ≠ 0 := by first | assumption | decide | omega) (hw : wants T g = some true := by rfl) : SRegK P (⟨d, g, .bin .quo ek x y⟩ :: l) T s K := kp hw rfl (op_quo hx hy hB) h
theorem op_remn {P : Program} {T : Tm} {ek : EK} {k : IntKind} {x y : SO} {A B : Int} {a b : Nat} (hx : evO T x = some (.i k A)) (hy : evO T y = some (.i k B)) (hA : A = (a : Int)) (hB : B = (b : Int)) (h0 : b ≠ 0) : SOpP P (.bin .rem ek x y) T (.i k ((a % b : Nat) : Int)) := by
  subst hA
  subst hB
  have h := op_rem (P := P) (ek := ek) hx hy (show (b : Int) ≠ 0 by omega)
  rwa [Int.tmod_eq_emod_of_nonneg (Int.natCast_nonneg a), ← Int.natCast_emod] at h
theorem k_remn {a b : Nat} (h : SRegK P l (putT T d (.i k ((a % b : Nat) : Int))) s (cK ⟨d, .i k ((a % b : Nat) : Int), false, [], [], s.nxt, s.nxt⟩ K)) (hx : evO T x = some (.i k A) := by rfl) (hy : evO T y = some (.i k B) := by rfl) (hA : A = (a : Int) := by first | rfl | assumption | omega) (hB : B = (b : Int) := by first | rfl | assumption | omega) (h0 : b ≠ 0 := by first | assumption | decide | omega) (hw : wants T g = some true := by rfl) : SRegK P (⟨d, g, .bin .rem ek x y⟩ :: l) T s K := kp hw rfl (op_remn hx hy hA hB h0) h
end
theorem tmod_emod {a n : Int} (hn : 0 < n) : (a.tmod n < 0 ∧ -n < a.tmod n ∧ a % n = a.tmod n + n) ∨ (0 ≤ a.tmod n ∧ a.tmod n < n ∧ a % n = a.tmod n) := by
  have h1 := Int.emod_nonneg a (show n ≠ 0 by omega)
  have h2 := Int.emod_lt_of_pos a hn
  have h := Int.tmod_eq_emod (a := a) (b := n)
  by_cases hc : 0 ≤ a ∨ n ∣ a
  · rw [if_pos hc] at h
    right
    omega
  · rw [if_neg hc] at h
    have h0 : a % n ≠ 0 := fun e => hc (.inr (Int.dvd_of_emod_eq_zero e))
    left
    omega
end Go.Sy
end
section
set_option maxHeartbeats 20000000
namespace Go.Proofs.YtpacfelhjjmmkaaDoor
open Go Go.Sy Go.Tr Go.Kb Go.RowKit Go.Cd
set_option linter.unusedVariables false
set_option linter.unusedSimpArgs false
theorem within_sc (a n : Int) (s : St) (hn : 0 < n) (hn2 : n ≤ 1000000) : SCall Tryd.prog 8 [.i .i64 a, .i .i64 n] s (.i .i64 (a % n)) s := by
  obtain ⟨H, k⟩ := s
  refine SCallR.pure (SCallR.enter cc_cadencelaw8_within ?_) .i
  dsimp only [c_cadencelaw8_within, argT]
  rcases tmod_emod (a := a) hn with ⟨h1, h2, h3⟩ | ⟨h1, h2, h3⟩
  · refine SC.seq ?_ nofun; refine SC.regK ?_; refine k_mv ?_; refine k_nil ?_; refine okS ?_ rfl; refine SC.seq ?_ nofun; refine SC.regK ?_; refine k_mv ?_; refine k_mv ?_; refine k_rem ?_; refine k_mv ?_; refine k_nil ?_; refine okS ?_ rfl; refine SC.seq ?_ nofun; refine SC.seq ?_ nofun; refine SC.regK ?_; refine k_mv ?_; refine k_it ?_; refine k_nil ?_; refine okS ?_ rfl; refine SC.cond_t rfl ?_; refine SC.regK ?_; refine k_mv ?_; refine k_mv ?_; refine k_add ?_; refine k_mv ?_; refine k_nil ?_; refine okS ?_ rfl; refine SC.seq ?_ nofun; refine SC.regK ?_; refine k_mv ?_; refine k_mv ?_; refine k_nil ?_; refine okS ?_ rfl; refine SC.ret ?_
    refine ⟨_, rfl, ?_, fun y hy => rfl⟩
    rw [h3]
  · refine SC.seq ?_ nofun; refine SC.regK ?_; refine k_mv ?_; refine k_nil ?_; refine okS ?_ rfl; refine SC.seq ?_ nofun; refine SC.regK ?_; refine k_mv ?_; refine k_mv ?_; refine k_rem ?_; refine k_mv ?_; refine k_nil ?_; refine okS ?_ rfl; refine SC.seq ?_ nofun; refine SC.seq ?_ nofun; refine SC.regK ?_; refine k_mv ?_; refine k_if ?_; refine k_nil ?_; refine okS ?_ rfl; refine SC.cond_f rfl ?_; refine SC.skip ?_; refine SC.seq ?_ nofun; refine SC.regK ?_; refine k_mv ?_; refine k_mv ?_; refine k_nil ?_; refine okS ?_ rfl; refine SC.ret ?_
    refine ⟨_, rfl, ?_, fun y hy => rfl⟩
    rw [h3]
theorem str_at (L : List (List UInt8)) (m : Nat) (hL : ∀ x ∈ L, x.length ≤ m) (j : Nat) (hj : j < L.length) : ∃ x, (L.map SV.s)[j]? = some (.s x) ∧ x.length ≤ m := ⟨L[j], by simp [hj], hL _ (List.getElem_mem hj)⟩
theorem odd_sc (a : Int) : ∃ x : List UInt8, x.length ≤ 20 ∧ ∀ s : St, SCall Tryd.prog 9 [.i .i64 a] s (.s x) s := by
  have h1 := Int.emod_nonneg a (show (14 : Int) ≠ 0 by decide)
  have h2 := Int.emod_lt_of_pos a (show (0 : Int) < 14 by decide)
  obtain ⟨j, hj⟩ : ∃ j : Nat, a % 14 = (j : Int) := ⟨(a % 14).toNat, by omega⟩
  have hj2 : j < 14 := by omega
  obtain ⟨x, hx, hxl⟩ := str_at [[66, 69, 71, 73, 78, 58, 67, 65, 82, 68, 10], [69, 78, 68, 58, 67, 65, 82, 68, 10], [73, 68, 58, 120, 10], [73, 68, 58, 10], [78, 58, 97, 10], [110, 58, 97, 10], [13], [88, 10], [58, 97, 10], [78, 58, 92, 113, 10], [78, 58, 92], [66, 69, 71, 73, 78, 58, 97, 10], [10], [32, 66, 69, 71, 73, 78, 58, 67, 65, 82, 68, 10]] 20 (by decide) j hj2
  refine ⟨x, hxl, fun s => ?_⟩
  obtain ⟨H, k⟩ := s
  refine SCallR.pure (SCallR.enter cc_cadencelaw8_Odd ?_) .s
  dsimp only [c_cadencelaw8_Odd, argT]
  have hw := fun s => within_sc a 14 s (by decide) (by decide)
  rw [hj] at hw
  simp only [List.map_cons, List.map_nil] at hx
  refine SC.seq ?_ nofun; refine SC.regK ?_; refine k_mv ?_; refine k_nil ?_; refine okS ?_ rfl; refine SC.seq ?_ nofun; refine SC.regK ?_; refine k_bsl ?_ (c' := [SV.s [66, 69, 71, 73, 78, 58, 67, 65, 82, 68, 10], SV.s [69, 78, 68, 58, 67, 65, 82, 68, 10], SV.s [73, 68, 58, 120, 10], SV.s [73, 68, 58, 10], SV.s [78, 58, 97, 10], SV.s [110, 58, 97, 10], SV.s [13], SV.s [88, 10], SV.s [58, 97, 10], SV.s [78, 58, 92, 113, 10], SV.s [78, 58, 92], SV.s [66, 69, 71, 73, 78, 58, 97, 10], SV.s [10], SV.s [32, 66, 69, 71, 73, 78, 58, 67, 65, 82, 68, 10]]); refine k_mv ?_; refine k_call (hw _) ?_; refine k_ia ?_; refine k_ldp ?_; refine k_mv ?_; refine k_nil ?_; refine okS ?_ rfl; refine SC.ret ?_
  exact ⟨_, rfl, rfl, fun y hy => by ((try dsimp only) <;> (repeat first | assumption | with_reducible rfl | exact h_same rfl | refine h_ne (by first | assumption | omega) ?_))⟩
end Go.Proofs.YtpacfelhjjmmkaaDoor
end
section
set_option maxHeartbeats 20000000
namespace Go.Proofs.YtpacfelhjjmmkaaDoor
open Go Go.Sy Go.Tr Go.Kb Go.RowKit Go.Cd
set_option linter.unusedVariables false
set_option linter.unusedSimpArgs false
theorem u8_of (a : Int) : ∃ c : UInt8, IntKind.u8.wrap a = (c.toNat : Int) := by
  have h1 := Int.emod_nonneg a (show (256 : Int) ≠ 0 by decide)
  have h2 := Int.emod_lt_of_pos a (show (0 : Int) < 256 by decide)
  refine ⟨UInt8.ofNat (a % 256).toNat, ?_⟩
  have e : IntKind.u8.wrap a = a % 256 := rfl
  rw [e, UInt8.toNat_ofNat']
  omega
theorem emod_nat (a : Int) (n : Nat) (h : 0 < n) : ∃ j : Nat, a % (n : Int) = (j : Int) ∧ j < n := by
  have h1 := Int.emod_nonneg a (show (n : Int) ≠ 0 by omega)
  have h2 := Int.emod_lt_of_pos a (show (0 : Int) < n by omega)
  exact ⟨(a % n).toNat, by omega, by omega⟩
def intsV (l : List Int) : SV := .lst l.length (l.map (SV.i .i64))
theorem file_sc (ns : List Int) (n : Nat) : SCallR Tryd.prog 7 [intsV ns] ⟨A0, n⟩ (fun r s' => ∃ (x : List UInt8) (n' : Nat), x.length ≤ 5000 ∧ r = .s x ∧ n ≤ n' ∧ s' = ⟨A0, n'⟩) := by
  refine SCallR.fewer ?_
  refine SCallR.mono (Q := fun r s' => ∃ x : List UInt8, x.length ≤ 5000 ∧ r = .s x ∧ n ≤ s'.nxt) ?_ (fun r s' ⟨x, h1, h2, h3⟩ => ⟨⟨A0, s'.nxt⟩, (fun b k e => nomatch e), Nat.le_refl _, x, _, h1, h2, h3, rfl⟩)
  refine SCallR.enter cc_cadencelaw8_File ?_
  dsimp only [c_cadencelaw8_File, argT, intsV]
  refine SC.seq ?_ nofun; refine SC.regK ?_; refine k_mv ?_; refine k_nil ?_; refine okS ?_ rfl; refine SC.seq ?_ nofun; refine SC.regK ?_; refine k_mv ?_; refine k_nil ?_; refine okS ?_ rfl; refine SC.seq ?_ nofun; refine SC.regK ?_; refine k_mv ?_; refine k_nil ?_; refine okS ?_ rfl; refine SC.seq ?_ nofun; refine SC.regK ?_; refine k_alc ?_; refine k_nil ?_; refine okS ?_ rfl; refine SC.seq ?_ nofun; refine SC.seq ?_ nofun; refine SC.regK ?_; refine k_mv ?_; refine k_nil ?_; refine okS ?_ rfl; refine SC.blk ?_
  refine SC.loop [0, 3, 4, 5, 6] (fun vs s' => ∃ (i : Nat) (D : Int) (str a0 a1 a2 : List UInt8), i ≤ ns.length ∧ i ≤ 40 ∧ (D = 0 ∨ D = 1 ∨ D = 2 ∨ D = 3) ∧ a0.length ≤ 5 ∧ a1.length ≤ 5 ∧ a2.length ≤ 5 ∧ str.length ≤ 60 * i ∧ vs = [.lst ns.length (ns.map (SV.i .i64)), .s str, .i .i64 D, .p n 0, .i .i64 i] ∧ s'.H n = some (.row 47 8 [.s a0, .s a1, .s a2, .s [], .s [], .s [], .s [], .s []]) ∧ n < s'.nxt) (fun vs _ => match vs with
    | [_, _, _, _, .i _ i] => 40 - i.toNat
    | _ => 0) rfl ⟨0, 0, [], [], [], [], Nat.zero_le _, Nat.zero_le _, .inl rfl, by simp, by simp, by simp, by simp, rfl, by dsimp only; ((try dsimp only) <;> (repeat first | assumption | with_reducible rfl | exact h_same rfl | refine h_ne (by first | assumption | omega) ?_)), by dsimp only; omega⟩ nofun ?_
  rintro _ ⟨H', n'⟩ ⟨i, D, str, a0, a1, a2, hi, hi40, hD, h0, h1, h2, hs, rfl, hH, hn⟩
  dsimp only at hH hn
  by_cases h : i < ns.length
  · by_cases h40 : i < 40
    · obtain ⟨x, hx⟩ : ∃ x, (ns.map (SV.i .i64))[i]? = some (.i .i64 x) := ⟨ns[i], by simp [h]⟩
      obtain ⟨j1, hj1, hb1⟩ := emod_nat (IntKind.i64.wrap (x.tdiv 7)) 4 (by decide)
      obtain ⟨k, hk, hb2⟩ := emod_nat x 12 (by decide)
      obtain ⟨j3, hj3, hb3⟩ := emod_nat (IntKind.i64.wrap (x.tdiv 12)) 3 (by decide)
      obtain ⟨j4, hj4, hb4⟩ := emod_nat (IntKind.i64.wrap (x.tdiv 5)) 3 (by decide)
      obtain ⟨j5, hj5, hb5⟩ := emod_nat (IntKind.i64.wrap (x.tdiv 12)) 4 (by decide)
      obtain ⟨j6, hj6, hb6⟩ := emod_nat (IntKind.i64.wrap (x.tdiv 48)) 5 (by decide)
      have hw1 := fun s => within_sc (IntKind.i64.wrap (x.tdiv 7)) 4 s (by decide) (by decide)
      have hw2 := fun s => within_sc x 12 s (by decide) (by decide)
      have hw3 := fun s => within_sc (IntKind.i64.wrap (x.tdiv 12)) 3 s (by decide) (by decide)
      have hw4 := fun s => within_sc (IntKind.i64.wrap (x.tdiv 5)) 3 s (by decide) (by decide)
      have hw5 := fun s => within_sc (IntKind.i64.wrap (x.tdiv 12)) 4 s (by decide) (by decide)
      have hw6 := fun s => within_sc (IntKind.i64.wrap (x.tdiv 48)) 5 s (by decide) (by decide)
      rw [show ((4 : Nat) : Int) = 4 from rfl] at hj1 hj5
      rw [show ((12 : Nat) : Int) = 12 from rfl] at hk
      rw [show ((3 : Nat) : Int) = 3 from rfl] at hj3 hj4
      rw [show ((5 : Nat) : Int) = 5 from rfl] at hj6
      rw [hj1] at hw1
      rw [hk] at hw2
      rw [hj3] at hw3
      rw [hj4] at hw4
      rw [hj5] at hw5
      rw [hj6] at hw6
      obtain ⟨x1, hx1, hl1⟩ := str_at [[10], [10], [10], [13, 10]] 2 (by decide) j1 hb1
      obtain ⟨x3, hx3, hl3⟩ := str_at [[67, 65, 82, 68], [88, 45, 49], [69, 86, 69, 78, 84]] 5 (by decide) j3 hb3
      obtain ⟨x5, hx5, hl5⟩ := str_at [[78], [84, 69, 76], [78, 79, 84, 69], [88, 45, 89]] 4 (by decide) j5 hb5
      obtain ⟨x6, hx6, hl6⟩ := str_at [[], [97], [98, 32, 99, 32], [92, 110, 92, 114], [112, 58, 113]] 4 (by decide) j6 hb6
      obtain ⟨c, hc⟩ := u8_of (IntKind.i64.wrap (97 + ((i % 26 : Nat) : Int)))
      have hcc : ((([SV.i .u8 (IntKind.u8.wrap (IntKind.i64.wrap (97 + ((i % 26 : Nat) : Int))))] : List SV).drop 0).take 1) = [c].map bSV := by rw [hc]; rfl
      have h26 : i % 26 < 26 := Nat.mod_lt _ (by decide)
      simp only [List.map_cons, List.map_nil] at hx1 hx3 hx5 hx6
      clear hj1 hj3 hj4 hj5 hj6 hk
      obtain rfl | rfl | rfl | rfl := hD
      · focus
          refine SC.seq ?_ nofun; refine SC.seq ?_ nofun; refine SC.regK ?_; refine k_mv ?_; refine k_mv ?_; refine k_bll ?_; refine k_it ?_; refine k_mv ?_; refine k_mv ?_; refine k_it ?_; refine k_pt ?_; refine k_nil ?_; refine okS ?_ rfl; refine SC.cond_t rfl ?_; refine SC.skip ?_; refine SC.seq ?_ nofun; refine SC.blk ?_; refine SC.seq ?_ nofun; refine SC.regK ?_; refine k_mv ?_; refine k_mv ?_; refine k_ial ?_; refine k_ldl ?_; refine k_mv ?_; refine k_nil ?_; refine okS ?_ rfl; refine SC.seq ?_ nofun; refine SC.regK ?_; refine k_bsl ?_ (c' := [SV.s [10], SV.s [10], SV.s [10], SV.s [13, 10]]); refine k_mv ?_; refine k_quo ?_; refine k_call (hw1 _) ?_; refine k_ia ?_; refine k_ldp ?_; refine k_mv ?_; refine k_nil ?_; refine okS ?_ rfl; refine SC.seq ?_ nofun; refine SC.regK ?_; refine k_mv ?_; refine k_call (hw2 _) ?_; refine k_mv ?_; refine k_nil ?_; refine okS ?_ rfl; refine SC.blk ?_; refine SC.seq ?_ nofun; refine SC.regK ?_; refine k_mv ?_; refine k_i ?_; refine k_mv ?_; generalize hq : (decide ((↑k : Int) < 3)) = bq; cases bq; simp only [decide_eq_true_eq, decide_eq_false_iff_not, Int.not_lt, Int.not_le, Bool.not_eq_true', Bool.not_eq_false'] at hq; refine k_no ?_; refine k_no ?_; refine k_pf ?_; refine k_mv ?_; refine k_mv ?_; refine k_it ?_; refine k_mv ?_; refine k_mv ?_; refine k_i ?_; refine k_pt ?_; refine k_pf ?_; refine k_mv ?_; refine k_nil ?_; refine okS ?_ rfl; generalize hq : (decide (4 < (↑k : Int))) = bq; cases bq; simp only [decide_eq_true_eq, decide_eq_false_iff_not, Int.not_lt, Int.not_le, Bool.not_eq_true', Bool.not_eq_false'] at hq; refine SC.cond_f rfl ?_; refine SC.seq ?_ nofun; refine SC.regK ?_; refine k_mv ?_; refine k_it ?_; refine k_mv ?_; refine k_mv ?_; refine k_if ?_; refine k_pt ?_; refine k_mv ?_; refine k_nil ?_; refine okS ?_ rfl; refine SC.cond_f rfl ?_; refine SC.seq ?_ nofun; refine SC.regK ?_; refine k_mv ?_; refine k_it ?_; refine k_mv ?_; refine k_nil ?_; refine okS ?_ rfl; refine SC.cond_t rfl ?_; refine SC.regK ?_
          refine k_mv ?_; refine k_cat ?_; refine k_mv ?_; refine k_cat ?_; refine k_mv ?_; refine k_nil ?_; refine okS ?_ rfl; refine SC.regK ?_; refine k_mv ?_; refine k_add ?_; refine k_mv ?_; refine k_nil ?_; refine okS ?_ rfl; rotate_left; simp only [decide_eq_true_eq, decide_eq_false_iff_not, Int.not_lt, Int.not_le, Bool.not_eq_true', Bool.not_eq_false'] at hq; refine SC.cond_t rfl ?_; refine SC.seq ?_ nofun; refine SC.regK ?_; refine k_mv ?_; refine k_bsl ?_ (c' := [SV.s [67, 65, 82, 68], SV.s [88, 45, 49], SV.s [69, 86, 69, 78, 84]]); refine k_mv ?_; refine k_quo ?_; refine k_call (hw3 _) ?_; refine k_ia ?_; refine k_ldp ?_; refine k_iaa ?_; refine k_sto ?_ (c' := [SV.s x3, SV.s a1, SV.s a2, SV.s [], SV.s [], SV.s [], SV.s [], SV.s []]); refine k_nil ?_; refine okS ?_ rfl; refine SC.seq ?_ nofun; refine SC.regK ?_; refine k_mv ?_; refine k_remn ?_; refine k_i ?_; refine k_cvi ?_; refine k_bsl ?_ (c' := [SV.i IntKind.u8 (IntKind.wrap IntKind.u8 (IntKind.wrap IntKind.i64 (97 + (↑(i % 26) : Int))))]); refine k_csb ?_ (X := [c]); refine k_cat ?_; refine k_mv ?_; refine k_nil ?_; refine okS ?_ rfl; refine SC.seq ?_ nofun; refine SC.seq ?_ nofun; refine SC.regK ?_; refine k_mv ?_; refine k_quo ?_; refine k_call (hw4 _) ?_; refine k_i ?_; refine k_nil ?_; refine okS ?_ rfl; generalize hq : (decide ((↑j4 : Int) = 0)) = bq; cases bq; simp only [decide_eq_true_eq, decide_eq_false_iff_not, Int.not_lt, Int.not_le, Bool.not_eq_true', Bool.not_eq_false'] at hq; refine SC.cond_f rfl ?_; refine SC.regK ?_; refine k_mv ?_; refine k_cat ?_; refine k_mv ?_; refine k_iaa ?_; refine k_ldp ?_; refine k_cat ?_; refine k_mv ?_; refine k_cat ?_; refine k_cat ?_; refine k_mv ?_; refine k_cat ?_; refine k_mv ?_; refine k_cat ?_; refine k_mv ?_; refine k_nil ?_; refine okS ?_ rfl; refine SC.regK ?_; refine k_mv ?_; refine k_add ?_; refine k_mv ?_; refine k_nil ?_; refine okS ?_ rfl; refine SC.regK ?_; refine k_mv ?_; refine k_add ?_; refine k_mv ?_; refine k_nil ?_; refine okS ?_ rfl; rotate_left
          simp only [decide_eq_true_eq, decide_eq_false_iff_not, Int.not_lt, Int.not_le, Bool.not_eq_true', Bool.not_eq_false'] at hq; refine SC.cond_t rfl ?_; refine SC.regK ?_; refine k_mv ?_; refine k_cat ?_; refine k_mv ?_; refine k_iaa ?_; refine k_ldp ?_; refine k_cat ?_; refine k_mv ?_; refine k_cat ?_; refine k_cat ?_; refine k_mv ?_; refine k_cat ?_; refine k_cat ?_; refine k_mv ?_; refine k_cat ?_; refine k_cat ?_; refine k_mv ?_; refine k_cat ?_; refine k_mv ?_; refine k_nil ?_; refine okS ?_ rfl; refine SC.regK ?_; refine k_mv ?_; refine k_add ?_; refine k_mv ?_; refine k_nil ?_; refine okS ?_ rfl; refine SC.regK ?_; refine k_mv ?_; refine k_add ?_; refine k_mv ?_; refine k_nil ?_; refine okS ?_ rfl; rotate_left; simp only [decide_eq_true_eq, decide_eq_false_iff_not, Int.not_lt, Int.not_le, Bool.not_eq_true', Bool.not_eq_false'] at hq; refine k_mv ?_; refine k_it ?_; refine k_pt ?_; refine k_mv ?_; refine k_no ?_; refine k_no ?_; refine k_no ?_; refine k_no ?_; refine k_no ?_; refine k_no ?_; refine k_pt ?_; refine k_mv ?_; refine k_nil ?_; refine okS ?_ rfl; refine SC.cond_t rfl ?_; refine SC.seq ?_ nofun; refine SC.regK ?_; refine k_mv ?_; refine k_bsl ?_ (c' := [SV.s [67, 65, 82, 68], SV.s [88, 45, 49], SV.s [69, 86, 69, 78, 84]]); refine k_mv ?_; refine k_quo ?_; refine k_call (hw3 _) ?_; refine k_ia ?_; refine k_ldp ?_; refine k_iaa ?_; refine k_sto ?_ (c' := [SV.s x3, SV.s a1, SV.s a2, SV.s [], SV.s [], SV.s [], SV.s [], SV.s []]); refine k_nil ?_; refine okS ?_ rfl; refine SC.seq ?_ nofun; refine SC.regK ?_; refine k_mv ?_; refine k_remn ?_; refine k_i ?_; refine k_cvi ?_; refine k_bsl ?_ (c' := [SV.i IntKind.u8 (IntKind.wrap IntKind.u8 (IntKind.wrap IntKind.i64 (97 + (↑(i % 26) : Int))))]); refine k_csb ?_ (X := [c]); refine k_cat ?_; refine k_mv ?_; refine k_nil ?_; refine okS ?_ rfl; refine SC.seq ?_ nofun; refine SC.seq ?_ nofun; refine SC.regK ?_; refine k_mv ?_; refine k_quo ?_; refine k_call (hw4 _) ?_; refine k_i ?_; refine k_nil ?_; refine okS ?_ rfl
          generalize hq : (decide ((↑j4 : Int) = 0)) = bq; cases bq; simp only [decide_eq_true_eq, decide_eq_false_iff_not, Int.not_lt, Int.not_le, Bool.not_eq_true', Bool.not_eq_false'] at hq; refine SC.cond_f rfl ?_; refine SC.regK ?_; refine k_mv ?_; refine k_cat ?_; refine k_mv ?_; refine k_iaa ?_; refine k_ldp ?_; refine k_cat ?_; refine k_mv ?_; refine k_cat ?_; refine k_cat ?_; refine k_mv ?_; refine k_cat ?_; refine k_mv ?_; refine k_cat ?_; refine k_mv ?_; refine k_nil ?_; refine okS ?_ rfl; refine SC.regK ?_; refine k_mv ?_; refine k_add ?_; refine k_mv ?_; refine k_nil ?_; refine okS ?_ rfl; refine SC.regK ?_; refine k_mv ?_; refine k_add ?_; refine k_mv ?_; refine k_nil ?_; refine okS ?_ rfl; rotate_left; simp only [decide_eq_true_eq, decide_eq_false_iff_not, Int.not_lt, Int.not_le, Bool.not_eq_true', Bool.not_eq_false'] at hq; refine SC.cond_t rfl ?_; refine SC.regK ?_; refine k_mv ?_; refine k_cat ?_; refine k_mv ?_; refine k_iaa ?_; refine k_ldp ?_; refine k_cat ?_; refine k_mv ?_; refine k_cat ?_; refine k_cat ?_; refine k_mv ?_; refine k_cat ?_; refine k_cat ?_; refine k_mv ?_; refine k_cat ?_; refine k_cat ?_; refine k_mv ?_; refine k_cat ?_; refine k_mv ?_; refine k_nil ?_; refine okS ?_ rfl; refine SC.regK ?_; refine k_mv ?_; refine k_add ?_; refine k_mv ?_; refine k_nil ?_; refine okS ?_ rfl; refine SC.regK ?_; refine k_mv ?_; refine k_add ?_; refine k_mv ?_; refine k_nil ?_; refine okS ?_ rfl; rotate_left
        all_goals (refine ⟨_, rfl, ⟨i + 1, _, _, _, _, _, h, by omega, ?_, ?_, ?_, ?_, ?_, rfl, (by dsimp only; ((try dsimp only) <;> (repeat first | assumption | with_reducible rfl | exact h_same rfl | refine h_ne (by first | assumption | omega) ?_))), ?_⟩, ?_⟩)
        all_goals first | assumption | (dsimp only; omega) | (simp only [List.length_append, List.length_cons, List.length_nil] <;> omega) | omega | (simp; done) | (simp; omega)
      · focus
          refine SC.seq ?_ nofun; refine SC.seq ?_ nofun; refine SC.regK ?_; refine k_mv ?_; refine k_mv ?_; refine k_bll ?_; refine k_it ?_; refine k_mv ?_; refine k_mv ?_; refine k_it ?_; refine k_pt ?_; refine k_nil ?_; refine okS ?_ rfl; refine SC.cond_t rfl ?_; refine SC.skip ?_; refine SC.seq ?_ nofun; refine SC.blk ?_; refine SC.seq ?_ nofun; refine SC.regK ?_; refine k_mv ?_; refine k_mv ?_; refine k_ial ?_; refine k_ldl ?_; refine k_mv ?_; refine k_nil ?_; refine okS ?_ rfl; refine SC.seq ?_ nofun; refine SC.regK ?_; refine k_bsl ?_ (c' := [SV.s [10], SV.s [10], SV.s [10], SV.s [13, 10]]); refine k_mv ?_; refine k_quo ?_; refine k_call (hw1 _) ?_; refine k_ia ?_; refine k_ldp ?_; refine k_mv ?_; refine k_nil ?_; refine okS ?_ rfl; refine SC.seq ?_ nofun; refine SC.regK ?_; refine k_mv ?_; refine k_call (hw2 _) ?_; refine k_mv ?_; refine k_nil ?_; refine okS ?_ rfl; refine SC.blk ?_; refine SC.seq ?_ nofun; refine SC.regK ?_; refine k_mv ?_; refine k_i ?_; refine k_mv ?_; generalize hq : (decide ((↑k : Int) < 3)) = bq; cases bq; simp only [decide_eq_true_eq, decide_eq_false_iff_not, Int.not_lt, Int.not_le, Bool.not_eq_true', Bool.not_eq_false'] at hq; refine k_no ?_; refine k_no ?_; refine k_pf ?_; refine k_mv ?_; refine k_mv ?_; refine k_if ?_; refine k_mv ?_; refine k_no ?_; refine k_no ?_; refine k_pf ?_; refine k_pf ?_; refine k_mv ?_; refine k_nil ?_; refine okS ?_ rfl; refine SC.cond_f rfl ?_; refine SC.seq ?_ nofun; refine SC.regK ?_; refine k_mv ?_; refine k_i ?_; refine k_mv ?_; generalize hq : (decide ((↑k : Int) < 5)) = bq; cases bq; simp only [decide_eq_true_eq, decide_eq_false_iff_not, Int.not_lt, Int.not_le, Bool.not_eq_true', Bool.not_eq_false'] at hq; refine k_no ?_; refine k_no ?_; refine k_pf ?_; refine k_mv ?_; refine k_nil ?_; refine okS ?_ rfl; refine SC.cond_f rfl ?_; refine SC.seq ?_ nofun; refine SC.regK ?_; refine k_mv ?_; refine k_i ?_; refine k_mv ?_; refine k_nil ?_; refine okS ?_ rfl; generalize hq : (decide ((↑k : Int) < 6)) = bq; cases bq
          simp only [decide_eq_true_eq, decide_eq_false_iff_not, Int.not_lt, Int.not_le, Bool.not_eq_true', Bool.not_eq_false'] at hq; refine SC.cond_f rfl ?_; refine SC.seq ?_ nofun; refine SC.regK ?_; refine k_mv ?_; refine k_it ?_; refine k_mv ?_; refine k_nil ?_; refine okS ?_ rfl; refine SC.cond_t rfl ?_; refine SC.dregK ?_; refine k_mv ?_; refine k_bsl ?_ (c' := [SV.s [78], SV.s [84, 69, 76], SV.s [78, 79, 84, 69], SV.s [88, 45, 89]]); refine k_mv ?_; refine k_quo ?_; refine k_call (hw5 _) ?_; refine k_ia ?_; refine k_ldp ?_; refine k_cat ?_; refine k_cat ?_; refine k_bsl ?_ (c' := [SV.s [], SV.s [97], SV.s [98, 32, 99, 32], SV.s [92, 110, 92, 114], SV.s [112, 58, 113]]); refine k_mv ?_; refine k_quo ?_; refine k_call (hw6 _) ?_; refine k_ia ?_; refine k_ldp ?_; refine k_cat ?_; refine k_mv ?_; refine k_remn ?_; refine k_i ?_; refine k_cvi ?_; refine k_bsl ?_ (c' := [SV.i IntKind.u8 (IntKind.wrap IntKind.u8 (IntKind.wrap IntKind.i64 (97 + (↑(i % 26) : Int))))]); refine k_csb ?_ (X := [c]); refine k_cat ?_; refine k_mv ?_; refine k_cat ?_; refine k_mv ?_; refine k_nil ?_; refine okD (ne := [(n' + 1, n' + 2), (n' + 1, n' + 2), (n' + 1, n' + 3), (n' + 1, n' + 3), (n' + 2, n' + 1), (n' + 3, n' + 1), (n' + 2, n' + 3), (n' + 2, n' + 3), (n' + 3, n' + 2)]) ?_ (by kernel_rfl) (by first | (simp only [AllNe]; omega) | (simp only [AllNe]; and_intros <;> first | omega | trivial)); refine SC.regK ?_; refine k_mv ?_; refine k_add ?_; refine k_mv ?_; refine k_nil ?_; refine okS ?_ rfl; rotate_left; simp only [decide_eq_true_eq, decide_eq_false_iff_not, Int.not_lt, Int.not_le, Bool.not_eq_true', Bool.not_eq_false'] at hq; refine SC.cond_t rfl ?_; refine SC.regK ?_; refine k_mv ?_; refine k_cat ?_; refine k_mv ?_; refine k_cat ?_; refine k_mv ?_; refine k_nil ?_; refine okS ?_ rfl; refine SC.regK ?_; refine k_mv ?_; refine k_add ?_; refine k_mv ?_; refine k_nil ?_; refine okS ?_ rfl; rotate_left
          simp only [decide_eq_true_eq, decide_eq_false_iff_not, Int.not_lt, Int.not_le, Bool.not_eq_true', Bool.not_eq_false'] at hq; refine k_mv ?_; refine k_it ?_; refine k_pt ?_; refine k_mv ?_; refine k_nil ?_; refine okS ?_ rfl; refine SC.cond_t rfl ?_; refine SC.seq ?_ nofun; refine SC.regK ?_; refine k_mv ?_; refine k_sub ?_; refine k_mv ?_; refine k_nil ?_; refine okS ?_ rfl; refine SC.regK ?_; refine k_mv ?_; refine k_cat ?_; refine k_mv ?_; refine k_iaa ?_; refine k_ldp ?_; refine k_cat ?_; refine k_mv ?_; refine k_cat ?_; refine k_mv ?_; refine k_nil ?_; refine okS ?_ rfl; refine SC.regK ?_; refine k_mv ?_; refine k_add ?_; refine k_mv ?_; refine k_nil ?_; refine okS ?_ rfl; rotate_left; simp only [decide_eq_true_eq, decide_eq_false_iff_not, Int.not_lt, Int.not_le, Bool.not_eq_true', Bool.not_eq_false'] at hq; refine k_mv ?_; refine k_it ?_; refine k_pt ?_; refine k_mv ?_; refine k_no ?_; refine k_no ?_; refine k_no ?_; refine k_no ?_; refine k_no ?_; refine k_no ?_; refine k_pt ?_; refine k_mv ?_; refine k_nil ?_; refine okS ?_ rfl; refine SC.cond_t rfl ?_; refine SC.seq ?_ nofun; refine SC.regK ?_; refine k_mv ?_; refine k_bsl ?_ (c' := [SV.s [67, 65, 82, 68], SV.s [88, 45, 49], SV.s [69, 86, 69, 78, 84]]); refine k_mv ?_; refine k_quo ?_; refine k_call (hw3 _) ?_; refine k_ia ?_; refine k_ldp ?_; refine k_iaa ?_; refine k_sto ?_ (c' := [SV.s a0, SV.s x3, SV.s a2, SV.s [], SV.s [], SV.s [], SV.s [], SV.s []]); refine k_nil ?_; refine okS ?_ rfl; refine SC.seq ?_ nofun; refine SC.regK ?_; refine k_mv ?_; refine k_remn ?_; refine k_i ?_; refine k_cvi ?_; refine k_bsl ?_ (c' := [SV.i IntKind.u8 (IntKind.wrap IntKind.u8 (IntKind.wrap IntKind.i64 (97 + (↑(i % 26) : Int))))]); refine k_csb ?_ (X := [c]); refine k_cat ?_; refine k_mv ?_; refine k_nil ?_; refine okS ?_ rfl; refine SC.seq ?_ nofun; refine SC.seq ?_ nofun; refine SC.regK ?_; refine k_mv ?_; refine k_quo ?_; refine k_call (hw4 _) ?_; refine k_i ?_; refine k_nil ?_; refine okS ?_ rfl
          generalize hq : (decide ((↑j4 : Int) = 0)) = bq; cases bq; simp only [decide_eq_true_eq, decide_eq_false_iff_not, Int.not_lt, Int.not_le, Bool.not_eq_true', Bool.not_eq_false'] at hq; refine SC.cond_f rfl ?_; refine SC.regK ?_; refine k_mv ?_; refine k_cat ?_; refine k_mv ?_; refine k_iaa ?_; refine k_ldp ?_; refine k_cat ?_; refine k_mv ?_; refine k_cat ?_; refine k_cat ?_; refine k_mv ?_; refine k_cat ?_; refine k_mv ?_; refine k_cat ?_; refine k_mv ?_; refine k_nil ?_; refine okS ?_ rfl; refine SC.regK ?_; refine k_mv ?_; refine k_add ?_; refine k_mv ?_; refine k_nil ?_; refine okS ?_ rfl; refine SC.regK ?_; refine k_mv ?_; refine k_add ?_; refine k_mv ?_; refine k_nil ?_; refine okS ?_ rfl; rotate_left; simp only [decide_eq_true_eq, decide_eq_false_iff_not, Int.not_lt, Int.not_le, Bool.not_eq_true', Bool.not_eq_false'] at hq; refine SC.cond_t rfl ?_; refine SC.regK ?_; refine k_mv ?_; refine k_cat ?_; refine k_mv ?_; refine k_iaa ?_; refine k_ldp ?_; refine k_cat ?_; refine k_mv ?_; refine k_cat ?_; refine k_cat ?_; refine k_mv ?_; refine k_cat ?_; refine k_cat ?_; refine k_mv ?_; refine k_cat ?_; refine k_cat ?_; refine k_mv ?_; refine k_cat ?_; refine k_mv ?_; refine k_nil ?_; refine okS ?_ rfl; refine SC.regK ?_; refine k_mv ?_; refine k_add ?_; refine k_mv ?_; refine k_nil ?_; refine okS ?_ rfl; refine SC.regK ?_; refine k_mv ?_; refine k_add ?_; refine k_mv ?_; refine k_nil ?_; refine okS ?_ rfl; rotate_left
        all_goals (refine ⟨_, rfl, ⟨i + 1, _, _, _, _, _, h, by omega, ?_, ?_, ?_, ?_, ?_, rfl, (by dsimp only; ((try dsimp only) <;> (repeat first | assumption | with_reducible rfl | exact h_same rfl | refine h_ne (by first | assumption | omega) ?_))), ?_⟩, ?_⟩)
        all_goals first | assumption | (dsimp only; omega) | (simp only [List.length_append, List.length_cons, List.length_nil] <;> omega) | omega | (simp; done) | (simp; omega)
      · focus
          refine SC.seq ?_ nofun; refine SC.seq ?_ nofun; refine SC.regK ?_; refine k_mv ?_; refine k_mv ?_; refine k_bll ?_; refine k_it ?_; refine k_mv ?_; refine k_mv ?_; refine k_it ?_; refine k_pt ?_; refine k_nil ?_; refine okS ?_ rfl; refine SC.cond_t rfl ?_; refine SC.skip ?_; refine SC.seq ?_ nofun; refine SC.blk ?_; refine SC.seq ?_ nofun; refine SC.regK ?_; refine k_mv ?_; refine k_mv ?_; refine k_ial ?_; refine k_ldl ?_; refine k_mv ?_; refine k_nil ?_; refine okS ?_ rfl; refine SC.seq ?_ nofun; refine SC.regK ?_; refine k_bsl ?_ (c' := [SV.s [10], SV.s [10], SV.s [10], SV.s [13, 10]]); refine k_mv ?_; refine k_quo ?_; refine k_call (hw1 _) ?_; refine k_ia ?_; refine k_ldp ?_; refine k_mv ?_; refine k_nil ?_; refine okS ?_ rfl; refine SC.seq ?_ nofun; refine SC.regK ?_; refine k_mv ?_; refine k_call (hw2 _) ?_; refine k_mv ?_; refine k_nil ?_; refine okS ?_ rfl; refine SC.blk ?_; refine SC.seq ?_ nofun; refine SC.regK ?_; refine k_mv ?_; refine k_i ?_; refine k_mv ?_; generalize hq : (decide ((↑k : Int) < 3)) = bq; cases bq; simp only [decide_eq_true_eq, decide_eq_false_iff_not, Int.not_lt, Int.not_le, Bool.not_eq_true', Bool.not_eq_false'] at hq; refine k_no ?_; refine k_no ?_; refine k_pf ?_; refine k_mv ?_; refine k_mv ?_; refine k_if ?_; refine k_mv ?_; refine k_no ?_; refine k_no ?_; refine k_pf ?_; refine k_pf ?_; refine k_mv ?_; refine k_nil ?_; refine okS ?_ rfl; refine SC.cond_f rfl ?_; refine SC.seq ?_ nofun; refine SC.regK ?_; refine k_mv ?_; refine k_i ?_; refine k_mv ?_; generalize hq : (decide ((↑k : Int) < 5)) = bq; cases bq; simp only [decide_eq_true_eq, decide_eq_false_iff_not, Int.not_lt, Int.not_le, Bool.not_eq_true', Bool.not_eq_false'] at hq; refine k_no ?_; refine k_no ?_; refine k_pf ?_; refine k_mv ?_; refine k_nil ?_; refine okS ?_ rfl; refine SC.cond_f rfl ?_; refine SC.seq ?_ nofun; refine SC.regK ?_; refine k_mv ?_; refine k_i ?_; refine k_mv ?_; refine k_nil ?_; refine okS ?_ rfl; generalize hq : (decide ((↑k : Int) < 6)) = bq; cases bq
          simp only [decide_eq_true_eq, decide_eq_false_iff_not, Int.not_lt, Int.not_le, Bool.not_eq_true', Bool.not_eq_false'] at hq; refine SC.cond_f rfl ?_; refine SC.seq ?_ nofun; refine SC.regK ?_; refine k_mv ?_; refine k_it ?_; refine k_mv ?_; refine k_nil ?_; refine okS ?_ rfl; refine SC.cond_t rfl ?_; refine SC.dregK ?_; refine k_mv ?_; refine k_bsl ?_ (c' := [SV.s [78], SV.s [84, 69, 76], SV.s [78, 79, 84, 69], SV.s [88, 45, 89]]); refine k_mv ?_; refine k_quo ?_; refine k_call (hw5 _) ?_; refine k_ia ?_; refine k_ldp ?_; refine k_cat ?_; refine k_cat ?_; refine k_bsl ?_ (c' := [SV.s [], SV.s [97], SV.s [98, 32, 99, 32], SV.s [92, 110, 92, 114], SV.s [112, 58, 113]]); refine k_mv ?_; refine k_quo ?_; refine k_call (hw6 _) ?_; refine k_ia ?_; refine k_ldp ?_; refine k_cat ?_; refine k_mv ?_; refine k_remn ?_; refine k_i ?_; refine k_cvi ?_; refine k_bsl ?_ (c' := [SV.i IntKind.u8 (IntKind.wrap IntKind.u8 (IntKind.wrap IntKind.i64 (97 + (↑(i % 26) : Int))))]); refine k_csb ?_ (X := [c]); refine k_cat ?_; refine k_mv ?_; refine k_cat ?_; refine k_mv ?_; refine k_nil ?_; refine okD (ne := [(n' + 1, n' + 2), (n' + 1, n' + 2), (n' + 1, n' + 3), (n' + 1, n' + 3), (n' + 2, n' + 1), (n' + 3, n' + 1), (n' + 2, n' + 3), (n' + 2, n' + 3), (n' + 3, n' + 2)]) ?_ (by kernel_rfl) (by first | (simp only [AllNe]; omega) | (simp only [AllNe]; and_intros <;> first | omega | trivial)); refine SC.regK ?_; refine k_mv ?_; refine k_add ?_; refine k_mv ?_; refine k_nil ?_; refine okS ?_ rfl; rotate_left; simp only [decide_eq_true_eq, decide_eq_false_iff_not, Int.not_lt, Int.not_le, Bool.not_eq_true', Bool.not_eq_false'] at hq; refine SC.cond_t rfl ?_; refine SC.regK ?_; refine k_mv ?_; refine k_cat ?_; refine k_mv ?_; refine k_cat ?_; refine k_mv ?_; refine k_nil ?_; refine okS ?_ rfl; refine SC.regK ?_; refine k_mv ?_; refine k_add ?_; refine k_mv ?_; refine k_nil ?_; refine okS ?_ rfl; rotate_left
          simp only [decide_eq_true_eq, decide_eq_false_iff_not, Int.not_lt, Int.not_le, Bool.not_eq_true', Bool.not_eq_false'] at hq; refine k_mv ?_; refine k_it ?_; refine k_pt ?_; refine k_mv ?_; refine k_nil ?_; refine okS ?_ rfl; refine SC.cond_t rfl ?_; refine SC.seq ?_ nofun; refine SC.regK ?_; refine k_mv ?_; refine k_sub ?_; refine k_mv ?_; refine k_nil ?_; refine okS ?_ rfl; refine SC.regK ?_; refine k_mv ?_; refine k_cat ?_; refine k_mv ?_; refine k_iaa ?_; refine k_ldp ?_; refine k_cat ?_; refine k_mv ?_; refine k_cat ?_; refine k_mv ?_; refine k_nil ?_; refine okS ?_ rfl; refine SC.regK ?_; refine k_mv ?_; refine k_add ?_; refine k_mv ?_; refine k_nil ?_; refine okS ?_ rfl; rotate_left; simp only [decide_eq_true_eq, decide_eq_false_iff_not, Int.not_lt, Int.not_le, Bool.not_eq_true', Bool.not_eq_false'] at hq; refine k_mv ?_; refine k_it ?_; refine k_pt ?_; refine k_mv ?_; refine k_no ?_; refine k_no ?_; refine k_no ?_; refine k_no ?_; refine k_no ?_; refine k_no ?_; refine k_pt ?_; refine k_mv ?_; refine k_nil ?_; refine okS ?_ rfl; refine SC.cond_t rfl ?_; refine SC.seq ?_ nofun; refine SC.regK ?_; refine k_mv ?_; refine k_bsl ?_ (c' := [SV.s [67, 65, 82, 68], SV.s [88, 45, 49], SV.s [69, 86, 69, 78, 84]]); refine k_mv ?_; refine k_quo ?_; refine k_call (hw3 _) ?_; refine k_ia ?_; refine k_ldp ?_; refine k_iaa ?_; refine k_sto ?_ (c' := [SV.s a0, SV.s a1, SV.s x3, SV.s [], SV.s [], SV.s [], SV.s [], SV.s []]); refine k_nil ?_; refine okS ?_ rfl; refine SC.seq ?_ nofun; refine SC.regK ?_; refine k_mv ?_; refine k_remn ?_; refine k_i ?_; refine k_cvi ?_; refine k_bsl ?_ (c' := [SV.i IntKind.u8 (IntKind.wrap IntKind.u8 (IntKind.wrap IntKind.i64 (97 + (↑(i % 26) : Int))))]); refine k_csb ?_ (X := [c]); refine k_cat ?_; refine k_mv ?_; refine k_nil ?_; refine okS ?_ rfl; refine SC.seq ?_ nofun; refine SC.seq ?_ nofun; refine SC.regK ?_; refine k_mv ?_; refine k_quo ?_; refine k_call (hw4 _) ?_; refine k_i ?_; refine k_nil ?_; refine okS ?_ rfl
          generalize hq : (decide ((↑j4 : Int) = 0)) = bq; cases bq; simp only [decide_eq_true_eq, decide_eq_false_iff_not, Int.not_lt, Int.not_le, Bool.not_eq_true', Bool.not_eq_false'] at hq; refine SC.cond_f rfl ?_; refine SC.regK ?_; refine k_mv ?_; refine k_cat ?_; refine k_mv ?_; refine k_iaa ?_; refine k_ldp ?_; refine k_cat ?_; refine k_mv ?_; refine k_cat ?_; refine k_cat ?_; refine k_mv ?_; refine k_cat ?_; refine k_mv ?_; refine k_cat ?_; refine k_mv ?_; refine k_nil ?_; refine okS ?_ rfl; refine SC.regK ?_; refine k_mv ?_; refine k_add ?_; refine k_mv ?_; refine k_nil ?_; refine okS ?_ rfl; refine SC.regK ?_; refine k_mv ?_; refine k_add ?_; refine k_mv ?_; refine k_nil ?_; refine okS ?_ rfl; rotate_left; simp only [decide_eq_true_eq, decide_eq_false_iff_not, Int.not_lt, Int.not_le, Bool.not_eq_true', Bool.not_eq_false'] at hq; refine SC.cond_t rfl ?_; refine SC.regK ?_; refine k_mv ?_; refine k_cat ?_; refine k_mv ?_; refine k_iaa ?_; refine k_ldp ?_; refine k_cat ?_; refine k_mv ?_; refine k_cat ?_; refine k_cat ?_; refine k_mv ?_; refine k_cat ?_; refine k_cat ?_; refine k_mv ?_; refine k_cat ?_; refine k_cat ?_; refine k_mv ?_; refine k_cat ?_; refine k_mv ?_; refine k_nil ?_; refine okS ?_ rfl; refine SC.regK ?_; refine k_mv ?_; refine k_add ?_; refine k_mv ?_; refine k_nil ?_; refine okS ?_ rfl; refine SC.regK ?_; refine k_mv ?_; refine k_add ?_; refine k_mv ?_; refine k_nil ?_; refine okS ?_ rfl; rotate_left
        all_goals (refine ⟨_, rfl, ⟨i + 1, _, _, _, _, _, h, by omega, ?_, ?_, ?_, ?_, ?_, rfl, (by dsimp only; ((try dsimp only) <;> (repeat first | assumption | with_reducible rfl | exact h_same rfl | refine h_ne (by first | assumption | omega) ?_))), ?_⟩, ?_⟩)
        all_goals first | assumption | (dsimp only; omega) | (simp only [List.length_append, List.length_cons, List.length_nil] <;> omega) | omega | (simp; done) | (simp; omega)
      · focus
          refine SC.seq ?_ nofun; refine SC.seq ?_ nofun; refine SC.regK ?_; refine k_mv ?_; refine k_mv ?_; refine k_bll ?_; refine k_it ?_; refine k_mv ?_; refine k_mv ?_; refine k_it ?_; refine k_pt ?_; refine k_nil ?_; refine okS ?_ rfl; refine SC.cond_t rfl ?_; refine SC.skip ?_; refine SC.seq ?_ nofun; refine SC.blk ?_; refine SC.seq ?_ nofun; refine SC.regK ?_; refine k_mv ?_; refine k_mv ?_; refine k_ial ?_; refine k_ldl ?_; refine k_mv ?_; refine k_nil ?_; refine okS ?_ rfl; refine SC.seq ?_ nofun; refine SC.regK ?_; refine k_bsl ?_ (c' := [SV.s [10], SV.s [10], SV.s [10], SV.s [13, 10]]); refine k_mv ?_; refine k_quo ?_; refine k_call (hw1 _) ?_; refine k_ia ?_; refine k_ldp ?_; refine k_mv ?_; refine k_nil ?_; refine okS ?_ rfl; refine SC.seq ?_ nofun; refine SC.regK ?_; refine k_mv ?_; refine k_call (hw2 _) ?_; refine k_mv ?_; refine k_nil ?_; refine okS ?_ rfl; refine SC.blk ?_; refine SC.seq ?_ nofun; refine SC.regK ?_; refine k_mv ?_; refine k_i ?_; refine k_mv ?_; generalize hq : (decide ((↑k : Int) < 3)) = bq; cases bq; simp only [decide_eq_true_eq, decide_eq_false_iff_not, Int.not_lt, Int.not_le, Bool.not_eq_true', Bool.not_eq_false'] at hq; refine k_no ?_; refine k_no ?_; refine k_pf ?_; refine k_mv ?_; refine k_mv ?_; refine k_if ?_; refine k_mv ?_; refine k_no ?_; refine k_no ?_; refine k_pf ?_; refine k_pf ?_; refine k_mv ?_; refine k_nil ?_; refine okS ?_ rfl; refine SC.cond_f rfl ?_; refine SC.seq ?_ nofun; refine SC.regK ?_; refine k_mv ?_; refine k_i ?_; refine k_mv ?_; generalize hq : (decide ((↑k : Int) < 5)) = bq; cases bq; simp only [decide_eq_true_eq, decide_eq_false_iff_not, Int.not_lt, Int.not_le, Bool.not_eq_true', Bool.not_eq_false'] at hq; refine k_no ?_; refine k_no ?_; refine k_pf ?_; refine k_mv ?_; refine k_nil ?_; refine okS ?_ rfl; refine SC.cond_f rfl ?_; refine SC.seq ?_ nofun; refine SC.regK ?_; refine k_mv ?_; refine k_i ?_; refine k_mv ?_; refine k_nil ?_; refine okS ?_ rfl; generalize hq : (decide ((↑k : Int) < 6)) = bq; cases bq
          simp only [decide_eq_true_eq, decide_eq_false_iff_not, Int.not_lt, Int.not_le, Bool.not_eq_true', Bool.not_eq_false'] at hq; refine SC.cond_f rfl ?_; refine SC.seq ?_ nofun; refine SC.regK ?_; refine k_mv ?_; refine k_it ?_; refine k_mv ?_; refine k_nil ?_; refine okS ?_ rfl; refine SC.cond_t rfl ?_; refine SC.dregK ?_; refine k_mv ?_; refine k_bsl ?_ (c' := [SV.s [78], SV.s [84, 69, 76], SV.s [78, 79, 84, 69], SV.s [88, 45, 89]]); refine k_mv ?_; refine k_quo ?_; refine k_call (hw5 _) ?_; refine k_ia ?_; refine k_ldp ?_; refine k_cat ?_; refine k_cat ?_; refine k_bsl ?_ (c' := [SV.s [], SV.s [97], SV.s [98, 32, 99, 32], SV.s [92, 110, 92, 114], SV.s [112, 58, 113]]); refine k_mv ?_; refine k_quo ?_; refine k_call (hw6 _) ?_; refine k_ia ?_; refine k_ldp ?_; refine k_cat ?_; refine k_mv ?_; refine k_remn ?_; refine k_i ?_; refine k_cvi ?_; refine k_bsl ?_ (c' := [SV.i IntKind.u8 (IntKind.wrap IntKind.u8 (IntKind.wrap IntKind.i64 (97 + (↑(i % 26) : Int))))]); refine k_csb ?_ (X := [c]); refine k_cat ?_; refine k_mv ?_; refine k_cat ?_; refine k_mv ?_; refine k_nil ?_; refine okD (ne := [(n' + 1, n' + 2), (n' + 1, n' + 2), (n' + 1, n' + 3), (n' + 1, n' + 3), (n' + 2, n' + 1), (n' + 3, n' + 1), (n' + 2, n' + 3), (n' + 2, n' + 3), (n' + 3, n' + 2)]) ?_ (by kernel_rfl) (by first | (simp only [AllNe]; omega) | (simp only [AllNe]; and_intros <;> first | omega | trivial)); refine SC.regK ?_; refine k_mv ?_; refine k_add ?_; refine k_mv ?_; refine k_nil ?_; refine okS ?_ rfl; rotate_left; simp only [decide_eq_true_eq, decide_eq_false_iff_not, Int.not_lt, Int.not_le, Bool.not_eq_true', Bool.not_eq_false'] at hq; refine SC.cond_t rfl ?_; refine SC.regK ?_; refine k_mv ?_; refine k_cat ?_; refine k_mv ?_; refine k_cat ?_; refine k_mv ?_; refine k_nil ?_; refine okS ?_ rfl; refine SC.regK ?_; refine k_mv ?_; refine k_add ?_; refine k_mv ?_; refine k_nil ?_; refine okS ?_ rfl; rotate_left
          simp only [decide_eq_true_eq, decide_eq_false_iff_not, Int.not_lt, Int.not_le, Bool.not_eq_true', Bool.not_eq_false'] at hq; refine k_mv ?_; refine k_it ?_; refine k_pt ?_; refine k_mv ?_; refine k_nil ?_; refine okS ?_ rfl; refine SC.cond_t rfl ?_; refine SC.seq ?_ nofun; refine SC.regK ?_; refine k_mv ?_; refine k_sub ?_; refine k_mv ?_; refine k_nil ?_; refine okS ?_ rfl; refine SC.regK ?_; refine k_mv ?_; refine k_cat ?_; refine k_mv ?_; refine k_iaa ?_; refine k_ldp ?_; refine k_cat ?_; refine k_mv ?_; refine k_cat ?_; refine k_mv ?_; refine k_nil ?_; refine okS ?_ rfl; refine SC.regK ?_; refine k_mv ?_; refine k_add ?_; refine k_mv ?_; refine k_nil ?_; refine okS ?_ rfl; rotate_left; simp only [decide_eq_true_eq, decide_eq_false_iff_not, Int.not_lt, Int.not_le, Bool.not_eq_true', Bool.not_eq_false'] at hq; refine k_mv ?_; refine k_if ?_; refine k_pt ?_; refine k_mv ?_; refine k_mv ?_; refine k_if ?_; refine k_mv ?_; refine k_no ?_; refine k_no ?_; refine k_pf ?_; refine k_pf ?_; refine k_mv ?_; refine k_nil ?_; refine okS ?_ rfl; refine SC.cond_f rfl ?_; refine SC.seq ?_ nofun; refine SC.regK ?_; refine k_mv ?_; refine k_it ?_; refine k_mv ?_; refine k_mv ?_; refine k_it ?_; refine k_pt ?_; refine k_mv ?_; refine k_nil ?_; refine okS ?_ rfl; refine SC.cond_t rfl ?_; refine SC.seq ?_ nofun; refine SC.regK ?_; refine k_mv ?_; refine k_sub ?_; refine k_mv ?_; refine k_nil ?_; refine okS ?_ rfl; refine SC.regK ?_; refine k_mv ?_; refine k_cat ?_; refine k_mv ?_; refine k_iaa ?_; refine k_ldp ?_; refine k_cat ?_; refine k_mv ?_; refine k_cat ?_; refine k_mv ?_; refine k_nil ?_; refine okS ?_ rfl; refine SC.regK ?_; refine k_mv ?_; refine k_add ?_; refine k_mv ?_; refine k_nil ?_; refine okS ?_ rfl; rotate_left
        all_goals (refine ⟨_, rfl, ⟨i + 1, _, _, _, _, _, h, by omega, ?_, ?_, ?_, ?_, ?_, rfl, (by dsimp only; ((try dsimp only) <;> (repeat first | assumption | with_reducible rfl | exact h_same rfl | refine h_ne (by first | assumption | omega) ?_))), ?_⟩, ?_⟩)
        all_goals first | assumption | (dsimp only; omega) | (simp only [List.length_append, List.length_cons, List.length_nil] <;> omega) | omega | (simp; done) | (simp; omega)
    · refine SC.seq ?_ nofun; refine SC.seq ?_ nofun; refine SC.regK ?_; refine k_mv ?_; refine k_mv ?_; refine k_bll ?_; refine k_it ?_; refine k_mv ?_; refine k_mv ?_; refine k_if ?_; refine k_pt ?_; refine k_nil ?_; refine okS ?_ rfl; refine SC.cond_f rfl ?_; refine SC.exit ?_; refine SC.seq ?_ nofun; refine SC.blk ?_
      refine SC.loop [0, 3, 4, 5] (fun vs s' => ∃ (D : Int) (str a0 a1 a2 : List UInt8), (D = 0 ∨ D = 1 ∨ D = 2 ∨ D = 3) ∧ a0.length ≤ 5 ∧ a1.length ≤ 5 ∧ a2.length ≤ 5 ∧ str.length ≤ 2400 + 60 * (3 - D) ∧ vs = [.lst ns.length (ns.map (SV.i .i64)), .s str, .i .i64 D, .p n 0] ∧ s'.H n = some (.row 47 8 [.s a0, .s a1, .s a2, .s [], .s [], .s [], .s [], .s []]) ∧ n < s'.nxt) (fun vs _ => match vs with
        | [_, _, .i _ D, _] => D.toNat
        | _ => 0) rfl ⟨D, str, a0, a1, a2, hD, h0, h1, h2, by omega, rfl, hH, hn⟩ nofun ?_
      rintro _ ⟨H', n'⟩ ⟨D, str, a0, a1, a2, hD, h0, h1, h2, hs, rfl, hH, hn⟩
      dsimp only at hH hn
      obtain rfl | rfl | rfl | rfl := hD
      · cases hns : ns with
        | nil =>
          subst hns
          refine SC.seq ?_ nofun; refine SC.seq ?_ nofun; refine SC.regK ?_; refine k_mv ?_; refine k_if ?_; refine k_nil ?_; refine okS ?_ rfl; refine SC.cond_f rfl ?_; refine SC.exit ?_; refine SC.seq ?_ nofun; refine SC.seq ?_ nofun; refine SC.regK ?_; refine k_mv ?_; refine k_bll ?_; refine k_if ?_; refine k_mv ?_; refine k_no ?_; refine k_no ?_; refine k_no ?_; refine k_no ?_; refine k_no ?_; refine k_pf ?_; refine k_mv ?_; refine k_no ?_; refine k_no ?_; refine k_no ?_; refine k_pf ?_; refine k_mv ?_; refine k_no ?_; refine k_no ?_; refine k_no ?_; refine k_no ?_; refine k_no ?_; refine k_no ?_; refine k_pf ?_; refine k_nil ?_; refine okS ?_ rfl; refine SC.cond_f rfl ?_; refine SC.skip ?_; refine SC.seq ?_ nofun; refine SC.regK ?_; refine k_mv ?_; refine k_mv ?_; refine k_nil ?_; refine okS ?_ rfl; refine SC.ret ?_
          exact ⟨_, rfl, str, by omega, rfl, by dsimp only; omega⟩
        | cons z zs =>
          rw [← hns]
          have hz : (ns.map (SV.i .i64))[0]? = some (.i .i64 z) := by rw [hns]; rfl
          have hzl : 0 < ns.length := by rw [hns]; simp
          have hw := fun s => within_sc z 5 s (by decide) (by decide)
          by_cases hc5 : z % 5 = 0
          · by_cases hl2 : 1 < str.length
            · obtain ⟨c, hc⟩ : ∃ c, str[str.length - 2]? = some c := ⟨str[str.length - 2], List.getElem?_eq_getElem (by omega)⟩
              refine SC.seq ?_ nofun; refine SC.seq ?_ nofun; refine SC.regK ?_; refine k_mv ?_; refine k_if ?_; refine k_nil ?_; refine okS ?_ rfl; refine SC.cond_f rfl ?_; refine SC.exit ?_; refine SC.seq ?_ nofun; refine SC.seq ?_ nofun; refine SC.regK ?_; refine k_mv ?_; refine k_bll ?_; refine k_it ?_; refine k_mv ?_; refine k_mv ?_; refine k_ial ?_; refine k_ldl ?_; refine k_call (hw _) ?_; refine k_it ?_; refine k_pt ?_; refine k_mv ?_; refine k_mv ?_; refine k_bls ?_; refine k_it ?_; refine k_pt ?_; refine k_mv ?_; refine k_mv ?_; refine k_mv ?_; refine k_bls ?_; refine k_sub ?_
              refine k_ixs (j := str.length - 2) (c := c) ?_ (hm := by omega) (hc := hc)
              focus
                refine k_i ?_; refine k_pt ?_; refine k_nil ?_; refine okS ?_ rfl; generalize hq : (!decide ((↑(UInt8.toNat c) : Int) = 13)) = bq; cases bq; simp only [decide_eq_true_eq, decide_eq_false_iff_not, Int.not_lt, Int.not_le, Bool.not_eq_true', Bool.not_eq_false'] at hq; refine SC.cond_f rfl ?_; refine SC.skip ?_; refine SC.seq ?_ nofun; refine SC.regK ?_; refine k_mv ?_; refine k_mv ?_; refine k_nil ?_; refine okS ?_ rfl; refine SC.ret ?_; rotate_left; simp only [decide_eq_true_eq, decide_eq_false_iff_not, Int.not_lt, Int.not_le, Bool.not_eq_true', Bool.not_eq_false'] at hq; refine SC.cond_t rfl ?_; refine SC.regK ?_; refine k_mv ?_; refine k_mv ?_; refine k_bls ?_; refine k_sub ?_; rotate_left
              · exact ⟨_, rfl, _, by (try rw [List.length_take]); omega, rfl, by dsimp only; omega⟩
              · refine k_sl (j := str.length - 1) ?_ (hm := by omega)
                refine k_mv ?_; refine k_nil ?_; refine okS ?_ rfl; refine SC.seq ?_ nofun; refine SC.regK ?_; refine k_mv ?_; refine k_mv ?_; refine k_nil ?_; refine okS ?_ rfl; refine SC.ret ?_
                exact ⟨_, rfl, _, by (try rw [List.length_take]); omega, rfl, by dsimp only; omega⟩
            · refine SC.seq ?_ nofun; refine SC.seq ?_ nofun; refine SC.regK ?_; refine k_mv ?_; refine k_if ?_; refine k_nil ?_; refine okS ?_ rfl; refine SC.cond_f rfl ?_; refine SC.exit ?_; refine SC.seq ?_ nofun; refine SC.seq ?_ nofun; refine SC.regK ?_; refine k_mv ?_; refine k_bll ?_; refine k_it ?_; refine k_mv ?_; refine k_mv ?_; refine k_ial ?_; refine k_ldl ?_; refine k_call (hw _) ?_; refine k_it ?_; refine k_pt ?_; refine k_mv ?_; refine k_mv ?_; refine k_bls ?_; refine k_if ?_; refine k_pt ?_; refine k_mv ?_; refine k_no ?_; refine k_no ?_; refine k_no ?_; refine k_no ?_; refine k_no ?_; refine k_no ?_; refine k_pf ?_; refine k_nil ?_; refine okS ?_ rfl; refine SC.cond_f rfl ?_; refine SC.skip ?_; refine SC.seq ?_ nofun; refine SC.regK ?_; refine k_mv ?_; refine k_mv ?_; refine k_nil ?_; refine okS ?_ rfl; refine SC.ret ?_
              exact ⟨_, rfl, str, by omega, rfl, by dsimp only; omega⟩
          · refine SC.seq ?_ nofun; refine SC.seq ?_ nofun; refine SC.regK ?_; refine k_mv ?_; refine k_if ?_; refine k_nil ?_; refine okS ?_ rfl; refine SC.cond_f rfl ?_; refine SC.exit ?_; refine SC.seq ?_ nofun; refine SC.seq ?_ nofun; refine SC.regK ?_; refine k_mv ?_; refine k_bll ?_; refine k_it ?_; refine k_mv ?_; refine k_mv ?_; refine k_ial ?_; refine k_ldl ?_; refine k_call (hw _) ?_; refine k_if ?_; refine k_pt ?_; refine k_mv ?_; refine k_no ?_; refine k_no ?_; refine k_no ?_; refine k_pf ?_; refine k_mv ?_; refine k_no ?_; refine k_no ?_; refine k_no ?_; refine k_no ?_; refine k_no ?_; refine k_no ?_; refine k_pf ?_; refine k_nil ?_; refine okS ?_ rfl; refine SC.cond_f rfl ?_; refine SC.skip ?_; refine SC.seq ?_ nofun; refine SC.regK ?_; refine k_mv ?_; refine k_mv ?_; refine k_nil ?_; refine okS ?_ rfl; refine SC.ret ?_
            exact ⟨_, rfl, str, by omega, rfl, by dsimp only; omega⟩
      · refine SC.seq ?_ nofun; refine SC.seq ?_ nofun; refine SC.regK ?_; refine k_mv ?_; refine k_it ?_; refine k_nil ?_; refine okS ?_ rfl; refine SC.cond_t rfl ?_; refine SC.skip ?_; refine SC.blk ?_; refine SC.seq ?_ nofun; refine SC.regK ?_; refine k_mv ?_; refine k_sub ?_; refine k_mv ?_; refine k_nil ?_; refine okS ?_ rfl; refine SC.regK ?_; refine k_mv ?_; refine k_cat ?_; refine k_mv ?_; refine k_iaa ?_; refine k_ldp ?_; refine k_cat ?_; refine k_cat ?_; refine k_mv ?_; refine k_nil ?_; refine okS ?_ rfl
        refine ⟨_, rfl, ⟨_, _, _, _, _, ?_, ?_, ?_, ?_, ?_, rfl, (by dsimp only; ((try dsimp only) <;> (repeat first | assumption | with_reducible rfl | exact h_same rfl | refine h_ne (by first | assumption | omega) ?_))), ?_⟩, ?_⟩
        all_goals first | assumption | (dsimp only; omega) | (simp only [List.length_append, List.length_cons, List.length_nil] <;> omega) | omega | (simp; done) | (simp; omega)
      · refine SC.seq ?_ nofun; refine SC.seq ?_ nofun; refine SC.regK ?_; refine k_mv ?_; refine k_it ?_; refine k_nil ?_; refine okS ?_ rfl; refine SC.cond_t rfl ?_; refine SC.skip ?_; refine SC.blk ?_; refine SC.seq ?_ nofun; refine SC.regK ?_; refine k_mv ?_; refine k_sub ?_; refine k_mv ?_; refine k_nil ?_; refine okS ?_ rfl; refine SC.regK ?_; refine k_mv ?_; refine k_cat ?_; refine k_mv ?_; refine k_iaa ?_; refine k_ldp ?_; refine k_cat ?_; refine k_cat ?_; refine k_mv ?_; refine k_nil ?_; refine okS ?_ rfl
        refine ⟨_, rfl, ⟨_, _, _, _, _, ?_, ?_, ?_, ?_, ?_, rfl, (by dsimp only; ((try dsimp only) <;> (repeat first | assumption | with_reducible rfl | exact h_same rfl | refine h_ne (by first | assumption | omega) ?_))), ?_⟩, ?_⟩
        all_goals first | assumption | (dsimp only; omega) | (simp only [List.length_append, List.length_cons, List.length_nil] <;> omega) | omega | (simp; done) | (simp; omega)
      · refine SC.seq ?_ nofun; refine SC.seq ?_ nofun; refine SC.regK ?_; refine k_mv ?_; refine k_it ?_; refine k_nil ?_; refine okS ?_ rfl; refine SC.cond_t rfl ?_; refine SC.skip ?_; refine SC.blk ?_; refine SC.seq ?_ nofun; refine SC.regK ?_; refine k_mv ?_; refine k_sub ?_; refine k_mv ?_; refine k_nil ?_; refine okS ?_ rfl; refine SC.regK ?_; refine k_mv ?_; refine k_cat ?_; refine k_mv ?_; refine k_iaa ?_; refine k_ldp ?_; refine k_cat ?_; refine k_cat ?_; refine k_mv ?_; refine k_nil ?_; refine okS ?_ rfl
        refine ⟨_, rfl, ⟨_, _, _, _, _, ?_, ?_, ?_, ?_, ?_, rfl, (by dsimp only; ((try dsimp only) <;> (repeat first | assumption | with_reducible rfl | exact h_same rfl | refine h_ne (by first | assumption | omega) ?_))), ?_⟩, ?_⟩
        all_goals first | assumption | (dsimp only; omega) | (simp only [List.length_append, List.length_cons, List.length_nil] <;> omega) | omega | (simp; done) | (simp; omega)
  · refine SC.seq ?_ nofun; refine SC.seq ?_ nofun; refine SC.regK ?_; refine k_mv ?_; refine k_mv ?_; refine k_bll ?_; refine k_if ?_; refine k_mv ?_; refine k_no ?_; refine k_no ?_; refine k_pf ?_; refine k_nil ?_; refine okS ?_ rfl; refine SC.cond_f rfl ?_; refine SC.exit ?_; refine SC.seq ?_ nofun; refine SC.blk ?_
    refine SC.loop [0, 3, 4, 5] (fun vs s' => ∃ (D : Int) (str a0 a1 a2 : List UInt8), (D = 0 ∨ D = 1 ∨ D = 2 ∨ D = 3) ∧ a0.length ≤ 5 ∧ a1.length ≤ 5 ∧ a2.length ≤ 5 ∧ str.length ≤ 2400 + 60 * (3 - D) ∧ vs = [.lst ns.length (ns.map (SV.i .i64)), .s str, .i .i64 D, .p n 0] ∧ s'.H n = some (.row 47 8 [.s a0, .s a1, .s a2, .s [], .s [], .s [], .s [], .s []]) ∧ n < s'.nxt) (fun vs _ => match vs with
      | [_, _, .i _ D, _] => D.toNat
      | _ => 0) rfl ⟨D, str, a0, a1, a2, hD, h0, h1, h2, by omega, rfl, hH, hn⟩ nofun ?_
    rintro _ ⟨H', n'⟩ ⟨D, str, a0, a1, a2, hD, h0, h1, h2, hs, rfl, hH, hn⟩
    dsimp only at hH hn
    obtain rfl | rfl | rfl | rfl := hD
    · cases hns : ns with
      | nil =>
        subst hns
        refine SC.seq ?_ nofun; refine SC.seq ?_ nofun; refine SC.regK ?_; refine k_mv ?_; refine k_if ?_; refine k_nil ?_; refine okS ?_ rfl; refine SC.cond_f rfl ?_; refine SC.exit ?_; refine SC.seq ?_ nofun; refine SC.seq ?_ nofun; refine SC.regK ?_; refine k_mv ?_; refine k_bll ?_; refine k_if ?_; refine k_mv ?_; refine k_no ?_; refine k_no ?_; refine k_no ?_; refine k_no ?_; refine k_no ?_; refine k_pf ?_; refine k_mv ?_; refine k_no ?_; refine k_no ?_; refine k_no ?_; refine k_pf ?_; refine k_mv ?_; refine k_no ?_; refine k_no ?_; refine k_no ?_; refine k_no ?_; refine k_no ?_; refine k_no ?_; refine k_pf ?_; refine k_nil ?_; refine okS ?_ rfl; refine SC.cond_f rfl ?_; refine SC.skip ?_; refine SC.seq ?_ nofun; refine SC.regK ?_; refine k_mv ?_; refine k_mv ?_; refine k_nil ?_; refine okS ?_ rfl; refine SC.ret ?_
        exact ⟨_, rfl, str, by omega, rfl, by dsimp only; omega⟩
      | cons z zs =>
        rw [← hns]
        have hz : (ns.map (SV.i .i64))[0]? = some (.i .i64 z) := by rw [hns]; rfl
        have hzl : 0 < ns.length := by rw [hns]; simp
        have hw := fun s => within_sc z 5 s (by decide) (by decide)
        by_cases hc5 : z % 5 = 0
        · by_cases hl2 : 1 < str.length
          · obtain ⟨c, hc⟩ : ∃ c, str[str.length - 2]? = some c := ⟨str[str.length - 2], List.getElem?_eq_getElem (by omega)⟩
            refine SC.seq ?_ nofun; refine SC.seq ?_ nofun; refine SC.regK ?_; refine k_mv ?_; refine k_if ?_; refine k_nil ?_; refine okS ?_ rfl; refine SC.cond_f rfl ?_; refine SC.exit ?_; refine SC.seq ?_ nofun; refine SC.seq ?_ nofun; refine SC.regK ?_; refine k_mv ?_; refine k_bll ?_; refine k_it ?_; refine k_mv ?_; refine k_mv ?_; refine k_ial ?_; refine k_ldl ?_; refine k_call (hw _) ?_; refine k_it ?_; refine k_pt ?_; refine k_mv ?_; refine k_mv ?_; refine k_bls ?_; refine k_it ?_; refine k_pt ?_; refine k_mv ?_; refine k_mv ?_; refine k_mv ?_; refine k_bls ?_; refine k_sub ?_
            refine k_ixs (j := str.length - 2) (c := c) ?_ (hm := by omega) (hc := hc)
            focus
              refine k_i ?_; refine k_pt ?_; refine k_nil ?_; refine okS ?_ rfl; generalize hq : (!decide ((↑(UInt8.toNat c) : Int) = 13)) = bq; cases bq; simp only [decide_eq_true_eq, decide_eq_false_iff_not, Int.not_lt, Int.not_le, Bool.not_eq_true', Bool.not_eq_false'] at hq; refine SC.cond_f rfl ?_; refine SC.skip ?_; refine SC.seq ?_ nofun; refine SC.regK ?_; refine k_mv ?_; refine k_mv ?_; refine k_nil ?_; refine okS ?_ rfl; refine SC.ret ?_; rotate_left; simp only [decide_eq_true_eq, decide_eq_false_iff_not, Int.not_lt, Int.not_le, Bool.not_eq_true', Bool.not_eq_false'] at hq; refine SC.cond_t rfl ?_; refine SC.regK ?_; refine k_mv ?_; refine k_mv ?_; refine k_bls ?_; refine k_sub ?_; rotate_left
            · exact ⟨_, rfl, _, by (try rw [List.length_take]); omega, rfl, by dsimp only; omega⟩
            · refine k_sl (j := str.length - 1) ?_ (hm := by omega)
              refine k_mv ?_; refine k_nil ?_; refine okS ?_ rfl; refine SC.seq ?_ nofun; refine SC.regK ?_; refine k_mv ?_; refine k_mv ?_; refine k_nil ?_; refine okS ?_ rfl; refine SC.ret ?_
              exact ⟨_, rfl, _, by (try rw [List.length_take]); omega, rfl, by dsimp only; omega⟩
          · refine SC.seq ?_ nofun; refine SC.seq ?_ nofun; refine SC.regK ?_; refine k_mv ?_; refine k_if ?_; refine k_nil ?_; refine okS ?_ rfl; refine SC.cond_f rfl ?_; refine SC.exit ?_; refine SC.seq ?_ nofun; refine SC.seq ?_ nofun; refine SC.regK ?_; refine k_mv ?_; refine k_bll ?_; refine k_it ?_; refine k_mv ?_; refine k_mv ?_; refine k_ial ?_; refine k_ldl ?_; refine k_call (hw _) ?_; refine k_it ?_; refine k_pt ?_; refine k_mv ?_; refine k_mv ?_; refine k_bls ?_; refine k_if ?_; refine k_pt ?_; refine k_mv ?_; refine k_no ?_; refine k_no ?_; refine k_no ?_; refine k_no ?_; refine k_no ?_; refine k_no ?_; refine k_pf ?_; refine k_nil ?_; refine okS ?_ rfl; refine SC.cond_f rfl ?_; refine SC.skip ?_; refine SC.seq ?_ nofun; refine SC.regK ?_; refine k_mv ?_; refine k_mv ?_; refine k_nil ?_; refine okS ?_ rfl; refine SC.ret ?_
            exact ⟨_, rfl, str, by omega, rfl, by dsimp only; omega⟩
        · refine SC.seq ?_ nofun; refine SC.seq ?_ nofun; refine SC.regK ?_; refine k_mv ?_; refine k_if ?_; refine k_nil ?_; refine okS ?_ rfl; refine SC.cond_f rfl ?_; refine SC.exit ?_; refine SC.seq ?_ nofun; refine SC.seq ?_ nofun; refine SC.regK ?_; refine k_mv ?_; refine k_bll ?_; refine k_it ?_; refine k_mv ?_; refine k_mv ?_; refine k_ial ?_; refine k_ldl ?_; refine k_call (hw _) ?_; refine k_if ?_; refine k_pt ?_; refine k_mv ?_; refine k_no ?_; refine k_no ?_; refine k_no ?_; refine k_pf ?_; refine k_mv ?_; refine k_no ?_; refine k_no ?_; refine k_no ?_; refine k_no ?_; refine k_no ?_; refine k_no ?_; refine k_pf ?_; refine k_nil ?_; refine okS ?_ rfl; refine SC.cond_f rfl ?_; refine SC.skip ?_; refine SC.seq ?_ nofun; refine SC.regK ?_; refine k_mv ?_; refine k_mv ?_; refine k_nil ?_; refine okS ?_ rfl; refine SC.ret ?_
          exact ⟨_, rfl, str, by omega, rfl, by dsimp only; omega⟩
    · refine SC.seq ?_ nofun; refine SC.seq ?_ nofun; refine SC.regK ?_; refine k_mv ?_; refine k_it ?_; refine k_nil ?_; refine okS ?_ rfl; refine SC.cond_t rfl ?_; refine SC.skip ?_; refine SC.blk ?_; refine SC.seq ?_ nofun; refine SC.regK ?_; refine k_mv ?_; refine k_sub ?_; refine k_mv ?_; refine k_nil ?_; refine okS ?_ rfl; refine SC.regK ?_; refine k_mv ?_; refine k_cat ?_; refine k_mv ?_; refine k_iaa ?_; refine k_ldp ?_; refine k_cat ?_; refine k_cat ?_; refine k_mv ?_; refine k_nil ?_; refine okS ?_ rfl
      refine ⟨_, rfl, ⟨_, _, _, _, _, ?_, ?_, ?_, ?_, ?_, rfl, (by dsimp only; ((try dsimp only) <;> (repeat first | assumption | with_reducible rfl | exact h_same rfl | refine h_ne (by first | assumption | omega) ?_))), ?_⟩, ?_⟩
      all_goals first | assumption | (dsimp only; omega) | (simp only [List.length_append, List.length_cons, List.length_nil] <;> omega) | omega | (simp; done) | (simp; omega)
    · refine SC.seq ?_ nofun; refine SC.seq ?_ nofun; refine SC.regK ?_; refine k_mv ?_; refine k_it ?_; refine k_nil ?_; refine okS ?_ rfl; refine SC.cond_t rfl ?_; refine SC.skip ?_; refine SC.blk ?_; refine SC.seq ?_ nofun; refine SC.regK ?_; refine k_mv ?_; refine k_sub ?_; refine k_mv ?_; refine k_nil ?_; refine okS ?_ rfl; refine SC.regK ?_; refine k_mv ?_; refine k_cat ?_; refine k_mv ?_; refine k_iaa ?_; refine k_ldp ?_; refine k_cat ?_; refine k_cat ?_; refine k_mv ?_; refine k_nil ?_; refine okS ?_ rfl
      refine ⟨_, rfl, ⟨_, _, _, _, _, ?_, ?_, ?_, ?_, ?_, rfl, (by dsimp only; ((try dsimp only) <;> (repeat first | assumption | with_reducible rfl | exact h_same rfl | refine h_ne (by first | assumption | omega) ?_))), ?_⟩, ?_⟩
      all_goals first | assumption | (dsimp only; omega) | (simp only [List.length_append, List.length_cons, List.length_nil] <;> omega) | omega | (simp; done) | (simp; omega)
    · refine SC.seq ?_ nofun; refine SC.seq ?_ nofun; refine SC.regK ?_; refine k_mv ?_; refine k_it ?_; refine k_nil ?_; refine okS ?_ rfl; refine SC.cond_t rfl ?_; refine SC.skip ?_; refine SC.blk ?_; refine SC.seq ?_ nofun; refine SC.regK ?_; refine k_mv ?_; refine k_sub ?_; refine k_mv ?_; refine k_nil ?_; refine okS ?_ rfl; refine SC.regK ?_; refine k_mv ?_; refine k_cat ?_; refine k_mv ?_; refine k_iaa ?_; refine k_ldp ?_; refine k_cat ?_; refine k_cat ?_; refine k_mv ?_; refine k_nil ?_; refine okS ?_ rfl
      refine ⟨_, rfl, ⟨_, _, _, _, _, ?_, ?_, ?_, ?_, ?_, rfl, (by dsimp only; ((try dsimp only) <;> (repeat first | assumption | with_reducible rfl | exact h_same rfl | refine h_ne (by first | assumption | omega) ?_))), ?_⟩, ?_⟩
      all_goals first | assumption | (dsimp only; omega) | (simp only [List.length_append, List.length_cons, List.length_nil] <;> omega) | omega | (simp; done) | (simp; omega)
end Go.Proofs.YtpacfelhjjmmkaaDoor
end
section
set_option maxHeartbeats 20000000
namespace Go.Proofs.YtpacfelhjjmmkaaDoor
open Go Go.Sy Go.Tr
set_option linter.unusedVariables false
set_option linter.unusedSimpArgs false
def okN (l : List UInt8) : Prop := l.length ≤ 80 ∧ ∀ c ∈ l, c.toNat ≠ 34 ∧ c.toNat ≠ 92 ∧ 32 ≤ c.toNat ∧ c.toNat ≤ 126
def okT : Tr → Prop
  | .nil => True
  | .cons nm k r => okN nm.data.toList ∧ okT k ∧ okT r
def textE : Bool → Tr → List UInt8
  | _, .nil => []
  | b, .cons nm k r => (if b then [] else [44, 32]) ++ (34 :: nm.data.toList ++ [34]) ++ [58, 32] ++ (123 :: textE true k ++ [125]) ++ textE false r
def textT (t : Tr) : List UInt8 := 123 :: textE true t ++ [125]
theorem textE_len : ∀ (b : Bool) (t : Tr), okT t → (textE b t).length ≤ 100 * t.size
  | _, .nil, _ => by simp [textE]
  | b, .cons nm k r, h => by
    obtain ⟨h1, h2, h3⟩ := h
    have := textE_len true k h2
    have := textE_len false r h3
    have hn := h1.1
    simp only [textE, Tr.size, List.length_append, List.length_cons, List.length_nil]
    split <;> simp only [List.length_cons, List.length_nil] <;> omega
theorem okT_at : ∀ {t : Tr} {i : Nat} {nm : ByteArray} {k : Tr}, okT t → t.at? i = some (nm, k) → okN nm.data.toList ∧ okT k
  | .nil, i, nm, k, _, h => by simp [Tr.at?] at h
  | .cons a k r, 0, nm, k', h, e => by
    simp only [Tr.at?, Option.some.injEq, Prod.mk.injEq] at e
    obtain ⟨rfl, rfl⟩ := e
    exact ⟨h.1, h.2.1⟩
  | .cons a k r, i + 1, nm, k', h, e => okT_at (t := r) h.2.2 (by simpa [Tr.at?] using e)
theorem quoted_sc (l : List UInt8) (s : St) (hl : okN l) : SCall Tryd.prog 24 [.s l] s (.s (34 :: l ++ [34])) s := by
  obtain ⟨H, n⟩ := s
  obtain ⟨hl, hc⟩ := hl
  refine SCallR.pure (SCallR.enter cc_cadenceref2_Quoted ?_) .s
  dsimp only [c_cadenceref2_Quoted, argT]
  refine SC.seq ?_ nofun; refine SC.regK ?_; refine k_mv ?_; refine k_nil ?_; refine okS ?_ rfl; refine SC.seq ?_ nofun; refine SC.regK ?_; refine k_mv ?_; refine k_nil ?_; refine okS ?_ rfl; refine SC.seq ?_ nofun; refine SC.regK ?_; refine k_mv ?_; refine k_nil ?_; refine okS ?_ rfl; refine SC.seq ?_ nofun; refine SC.seq ?_ nofun; refine SC.regK ?_; refine k_mv ?_; refine k_nil ?_; refine okS ?_ rfl; refine SC.blk ?_
  refine SC.loop [0, 4, 5] (fun vs s' => ∃ (i : Nat), i ≤ l.length ∧ vs = [.s l, .s (34 :: l.take i), .i .i64 i] ∧ s' = ⟨H, n⟩) (fun vs _ => match vs with
    | [_, _, .i _ i] => l.length - i.toNat
    | _ => 0) rfl ⟨0, Nat.zero_le _, rfl, rfl⟩ nofun ?_
  rintro _ _ ⟨i, hi, rfl, rfl⟩
  have htl : (l.take i).length ≤ 80 := by rw [List.length_take]; omega
  by_cases h : i < l.length
  · obtain ⟨c, hx⟩ : ∃ c, l[i]? = some c := ⟨l[i], List.getElem?_eq_getElem h⟩
    obtain ⟨c1, c2, c3, c4⟩ := hc c (List.mem_of_getElem? hx)
    refine SC.seq ?_ nofun; refine SC.seq ?_ nofun; refine SC.regK ?_; refine k_mv ?_; refine k_mv ?_; refine k_bls ?_; refine k_it ?_; refine k_nil ?_; refine okS ?_ rfl; refine SC.cond_t rfl ?_; refine SC.skip ?_; refine SC.seq ?_ nofun; refine SC.blk ?_; refine SC.seq ?_ nofun; refine SC.regK ?_; refine k_mv ?_; refine k_mv ?_; refine k_ixs ?_; refine k_mv ?_; refine k_nil ?_; refine okS ?_ rfl; refine SC.blk ?_; refine SC.seq ?_ nofun; refine SC.regK ?_; refine k_mv ?_; refine k_if ?_; refine k_mv ?_; refine k_mv ?_; refine k_if ?_; refine k_pf ?_; refine k_mv ?_; refine k_nil ?_; refine okS ?_ rfl; refine SC.cond_f rfl ?_; refine SC.seq ?_ nofun; refine SC.regK ?_; refine k_mv ?_; refine k_if ?_; refine k_mv ?_; refine k_mv ?_; refine k_if ?_; refine k_pf ?_; refine k_mv ?_; refine k_nil ?_; refine okS ?_ rfl; refine SC.cond_f rfl ?_; refine SC.regK ?_; refine k_mv ?_; refine k_mv ?_; refine k_mv ?_; refine k_mv ?_; refine k_add ?_; refine k_slh ?_; refine k_cat ?_; refine k_mv ?_; refine k_nil ?_; refine okS ?_ rfl; refine SC.regK ?_; refine k_mv ?_; refine k_add ?_; refine k_mv ?_; refine k_nil ?_; refine okS ?_ rfl
    refine ⟨_, rfl, ⟨i + 1, h, ?_, rfl⟩, by simp; omega⟩
    rw [take_drop_snoc (Nat.le_refl _) hx]
    simp [List.take_add_one, hx]
  · obtain rfl : i = l.length := by omega
    rw [List.take_length]
    refine SC.seq ?_ nofun; refine SC.seq ?_ nofun; refine SC.regK ?_; refine k_mv ?_; refine k_mv ?_; refine k_bls ?_; refine k_if ?_; refine k_nil ?_; refine okS ?_ rfl; refine SC.cond_f rfl ?_; refine SC.exit ?_; refine SC.seq ?_ nofun; refine SC.regK ?_; refine k_mv ?_; refine k_cat ?_; refine k_mv ?_; refine k_nil ?_; refine okS ?_ rfl; refine SC.ret ?_
    exact ⟨_, rfl, rfl, fun _ _ => rfl⟩
theorem text_sc : ∀ (m : Nat) (t : Tr), t.size < m → t.size ≤ 10000 → okT t → ∀ s : St, SCall Tryd.prog 13 [tv t] s (.s (textT t)) s := by
  intro m
  induction m with
  | zero => intro t h; omega
  | succ m ih =>
  intro t hm hz hok s
  obtain ⟨H, n⟩ := s
  refine SCallR.pure (SCallR.enter cc_cadenceref2_Text ?_) .s
  have hla := t.len_le
  have htl := textE_len true t hok
  dsimp only [c_cadenceref2_Text, argT, tv]
  refine SC.seq ?_ nofun; refine SC.regK ?_; refine k_mv ?_; refine k_nil ?_; refine okS ?_ rfl; refine SC.seq ?_ nofun; refine SC.regK ?_; refine k_mv ?_; refine k_nil ?_; refine okS ?_ rfl; refine SC.seq ?_ nofun; refine SC.seq ?_ nofun; refine SC.regK ?_; refine k_mv ?_; refine k_nil ?_; refine okS ?_ rfl; refine SC.blk ?_
  refine SC.loop [0, 3, 4] (fun vs s' => ∃ (i : Nat) (out : List UInt8), i ≤ t.len ∧ vs = [.lst t.len (tvc t), .s (123 :: out), .i .i64 i] ∧ textE true t = out ++ textE (decide (i = 0)) (t.drop i) ∧ s' = ⟨H, n⟩) (fun vs _ => match vs with
    | [_, _, .i _ i] => t.len - i.toNat
    | _ => 0) rfl ⟨0, [], Nat.zero_le _, rfl, by rw [Tr.drop_zero]; rfl, rfl⟩ nofun ?_
  rintro _ _ ⟨i, out, hi, rfl, hs, rfl⟩
  have hol : out.length ≤ 1000000 := by
    have := congrArg List.length hs
    rw [List.length_append] at this
    omega
  by_cases h : i < t.len
  · obtain ⟨x, kx, hx⟩ := t.at_some h
    obtain ⟨x1, x2⟩ := tvc_at hx
    obtain ⟨ok1, ok2⟩ := okT_at hok hx
    have hkx := Tr.at_lt hx
    rw [Tr.drop_at hx, textE] at hs
    have hq := fun s => quoted_sc x.data.toList s ok1
    have hc := fun s => ih kx (by omega) (by omega) ok2 s
    have hkl := textE_len true kx ok2
    have hxl := ok1.1
    clear hx
    generalize x.data.toList = nm at *
    have htk : (textT kx).length ≤ 1000002 := by simp only [textT, List.length_append, List.length_cons, List.length_nil]; omega
    simp only [tv] at x2 hc
    by_cases h0 : i = 0
    · subst h0
      simp only [decide_true, if_true] at hs
      refine SC.seq ?_ nofun; refine SC.seq ?_ nofun; refine SC.regK ?_; refine k_mv ?_; refine k_mv ?_; refine k_bll ?_; refine k_it ?_; refine k_nil ?_; refine okS ?_ rfl; refine SC.cond_t rfl ?_; refine SC.skip ?_; refine SC.seq ?_ nofun; refine SC.blk ?_; refine SC.seq ?_ nofun; refine SC.seq ?_ nofun; refine SC.regK ?_; refine k_mv ?_; refine k_if ?_; refine k_nil ?_; refine okS ?_ rfl; refine SC.cond_f rfl ?_; refine SC.skip ?_; refine SC.dregK ?_; refine k_mv ?_; refine k_mv ?_; refine k_mv ?_; refine k_ial ?_; refine k_fal ?_; refine k_ldl ?_; refine k_call (hq _) ?_; refine k_cat ?_; refine k_cat ?_; refine k_mv ?_; refine k_mv ?_; refine k_ial ?_; refine k_fal ?_; refine k_ldl ?_; refine k_call (hc _) ?_; refine k_cat ?_; refine k_mv ?_; refine k_nil ?_; refine okD (ne := []) ?_ (by kernel_rfl) trivial; refine SC.regK ?_; refine k_mv ?_; refine k_add ?_; refine k_mv ?_; refine k_nil ?_; refine okS ?_ rfl
      refine ⟨_, rfl, ⟨0 + 1, _, h, rfl, ?_, rfl⟩, by simp; omega⟩
      rw [hs]
      simp [textT]
    · simp only [textE, h0, decide_false, Bool.false_eq_true, if_false] at hs
      refine SC.seq ?_ nofun; refine SC.seq ?_ nofun; refine SC.regK ?_; refine k_mv ?_; refine k_mv ?_; refine k_bll ?_; refine k_it ?_; refine k_nil ?_; refine okS ?_ rfl; refine SC.cond_t rfl ?_; refine SC.skip ?_; refine SC.seq ?_ nofun; refine SC.blk ?_; refine SC.seq ?_ nofun; refine SC.seq ?_ nofun; refine SC.regK ?_; refine k_mv ?_; refine k_it ?_; refine k_nil ?_; refine okS ?_ rfl; refine SC.cond_t rfl ?_; refine SC.regK ?_; refine k_mv ?_; refine k_cat ?_; refine k_mv ?_; refine k_nil ?_; refine okS ?_ rfl; refine SC.dregK ?_; refine k_mv ?_; refine k_mv ?_; refine k_mv ?_; refine k_ial ?_; refine k_fal ?_; refine k_ldl ?_; refine k_call (hq _) ?_; refine k_cat ?_; refine k_cat ?_; refine k_mv ?_; refine k_mv ?_; refine k_ial ?_; refine k_fal ?_; refine k_ldl ?_; refine k_call (hc _) ?_; refine k_cat ?_; refine k_mv ?_; refine k_nil ?_; refine okD (ne := []) ?_ (by kernel_rfl) trivial; refine SC.regK ?_; refine k_mv ?_; refine k_add ?_; refine k_mv ?_; refine k_nil ?_; refine okS ?_ rfl
      refine ⟨_, rfl, ⟨i + 1, _, h, rfl, ?_, rfl⟩, by simp; omega⟩
      rw [hs]
      simp [textT]
  · obtain rfl : i = t.len := by omega
    rw [Tr.drop_len, textE, List.append_nil] at hs
    refine SC.seq ?_ nofun; refine SC.seq ?_ nofun; refine SC.regK ?_; refine k_mv ?_; refine k_mv ?_; refine k_bll ?_; refine k_if ?_; refine k_nil ?_; refine okS ?_ rfl; refine SC.cond_f rfl ?_; refine SC.exit ?_; refine SC.seq ?_ nofun; refine SC.regK ?_; refine k_mv ?_; refine k_cat ?_; refine k_mv ?_; refine k_nil ?_; refine okS ?_ rfl; refine SC.ret ?_
    refine ⟨_, rfl, ?_, fun _ _ => rfl⟩
    rw [textT, hs]
end Go.Proofs.YtpacfelhjjmmkaaDoor
end
