/- Part of a proof: contracts and lemmas; no condition. -/
import Derived.Test.YthipfcgkongfjaaGreatDoorGka
import Derived.LoopN
import Derived.Scope
import Derived.WalkKit
import Derived.WalkSpells
import Derived.WalkLawsBesides
import Derived.Below
import Derived.KernelRfl
import Derived.Lib.Hide
import Derived.Lib.ConvBytes
import Derived.Laws.BytesArg
import Derived.IntWalk
import Derived.Lib.Bytealg
section
namespace Go.Sy
open Go
set_option linter.unusedVariables false
set_option linter.unusedSimpArgs false
class Mix (P : Program) : Prop where
  h : P.follows .mixedOrders = true
def compC (P : Program) (nt : Nat) : Code → Option AC
  | .skip => some .skip
  | .ret => some .ret
  | .exit n => some (.exit n)
  | .goto n => some (.goto n)
  | .label n => some (.lbl n)
  | .region _ ops false => (compL P nt ops ops.toList).map .reg
  | .region _ ops true => match befOK ops (Region.before ops).toList with
    | true => (compL P nt ops ops.toList).map fun l => .dreg (compD (Region.before ops).toList 0 l)
    | false => some .bad
  | .seq a b => match compC P nt a, compC P nt b with
    | some a, some b => some (.seq a b)
    | _, _ => none
  | .cond c a b => match oo c, compC P nt a, compC P nt b with
    | some c, some a, some b => some (.cond c a b)
    | _, _, _ => none
  | .block n c => (compC P nt c).map (.blk n)
  | .loop c => (compC P nt c).map .loop
  | .scope c => (compC P nt c).map .scope
  | _ => some .bad
inductive CC (P : Program) (nt : Nat) : Code → AC → Prop
  | skip : CC P nt .skip .skip
  | ret : CC P nt .ret .ret
  | exit {n} : CC P nt (.exit n) (.exit n)
  | goto {n} : CC P nt (.goto n) (.goto n)
  | lbl {n} : CC P nt (.label n) (.lbl n)
  | reg {id ops l} (h : compL P nt ops ops.toList = some l) : CC P nt (.region id ops false) (.reg l)
  | dreg {id ops l} (h1 : befOK ops (Region.before ops).toList = true) (h : compL P nt ops ops.toList = some l) : CC P nt (.region id ops true) (.dreg (compD (Region.before ops).toList 0 l))
  | seq {a b a' b'} (h1 : CC P nt a a') (h2 : CC P nt b b') : CC P nt (.seq a b) (.seq a' b')
  | cond {c a b c' a' b'} (h : oo c = some c') (h1 : CC P nt a a') (h2 : CC P nt b b') : CC P nt (.cond c a b) (.cond c' a' b')
  | blk {n c c'} (h : CC P nt c c') : CC P nt (.block n c) (.blk n c')
  | loop {c c'} (h : CC P nt c c') : CC P nt (.loop c) (.loop c')
  | scope {c c'} (h : CC P nt c c') : CC P nt (.scope c) (.scope c')
  | bad {c} : CC P nt c .bad
theorem compC_sound {P : Program} {nt : Nat} : ∀ (c : Code) (ac : AC), compC P nt c = some ac → CC P nt c ac := by
  intro c
  induction c with
  | skip => intro ac h; obtain rfl := Option.some.inj h; exact .skip
  | ret => intro ac h; obtain rfl := Option.some.inj h; exact .ret
  | exit n => intro ac h; obtain rfl := Option.some.inj h; exact .exit
  | goto n => intro ac h; obtain rfl := Option.some.inj h; exact .goto
  | label n => intro ac h; obtain rfl := Option.some.inj h; exact .lbl
  | region id ops draw =>
    intro ac h
    cases draw with
    | false => simp only [compC] at h; obtain ⟨l, h1, rfl⟩ := Option.map_eq_some_iff.1 h; exact .reg h1
    | true =>
      simp only [compC] at h
      split at h
      · rename_i hb
        obtain ⟨l, h1, rfl⟩ := Option.map_eq_some_iff.1 h; exact .dreg hb h1
      · obtain rfl := Option.some.inj h; exact .bad
  | seq a b iha ihb =>
    intro ac h
    simp only [compC] at h
    split at h
    · rename_i h1 h2; obtain rfl := Option.some.inj h; exact .seq (iha _ h1) (ihb _ h2)
    · cases h
  | cond x a b iha ihb =>
    intro ac h
    simp only [compC] at h
    split at h
    · rename_i h0 h1 h2; obtain rfl := Option.some.inj h; exact .cond h0 (iha _ h1) (ihb _ h2)
    · cases h
  | block n c ih => intro ac h; simp only [compC] at h; obtain ⟨x, h1, rfl⟩ := Option.map_eq_some_iff.1 h; exact .blk (ih _ h1)
  | loop c ih => intro ac h; simp only [compC] at h; obtain ⟨x, h1, rfl⟩ := Option.map_eq_some_iff.1 h; exact .loop (ih _ h1)
  | scope c ih => intro ac h; simp only [compC] at h; obtain ⟨x, h1, rfl⟩ := Option.map_eq_some_iff.1 h; exact .scope (ih _ h1)
  | _ => intro ac h; simp only [compC] at h; obtain rfl := Option.some.inj h; exact .bad
def SC (P : Program) (nt : Nat) (ac : AC) (T : Tm) (s : St) (Q : Exit → Tm → St → Prop) : Prop :=
  ac ≠ .bad ∧ ∀ code, CC P nt code ac → ∀ (σ : Env) (a : Act) (w : World), TR σ T a → HR σ s w → nt ≤ a.tmps.size →
    code.wp P (fun e a' w' => ∃ σ' T' s', TR σ' T' a' ∧ nt ≤ a'.tmps.size ∧ a'.defers = a.defers ∧ Good σ s w σ' s' w' ∧ Q e T' s') a w
def thn (K : Tm → St → Prop) (Q : Exit → Tm → St → Prop) : Exit → Tm → St → Prop
  | .normal, T, s => K T s
  | e, T, s => Q e T s
def inb (id : Nat) (Q : Exit → Tm → St → Prop) : Exit → Tm → St → Prop
  | .exit id', T, s => match Nat.beq id' id with
    | true => Q .normal T s
    | false => Q (.exit id') T s
  | e, T, s => Q e T s
def jmp (l : Nat) (J : Tm → St → Prop) (Q : Exit → Tm → St → Prop) : Exit → Tm → St → Prop
  | .goto l', T, s => match Nat.beq l' l with
    | true => J T s
    | false => Q (.goto l') T s
  | e, T, s => Q e T s
section
variable {P : Program} {nt : Nat} {T : Tm} {s : St} {Q : Exit → Tm → St → Prop}
theorem SC.mono {c : AC} {Q' : Exit → Tm → St → Prop} (h : SC P nt c T s Q) (hq : ∀ e T s, Q e T s → Q' e T s) : SC P nt c T s Q' :=
  ⟨h.1, fun code hc σ a w ht hh hn => wp_mono (h.2 code hc σ a w ht hh hn) fun e a' w' ⟨σ', T', s', h1, h2, h3, h4, h5⟩ => ⟨σ', T', s', h1, h2, h3, h4, hq _ _ _ h5⟩⟩
theorem here {σ : Env} {a : Act} {w : World} {e : Exit} (ht : TR σ T a) (hh : HR σ s w) (hn : nt ≤ a.tmps.size) (hq : Q e T s) : ∃ σ' T' s', TR σ' T' a ∧ nt ≤ a.tmps.size ∧ a.defers = a.defers ∧ Good σ s w σ' s' w ∧ Q e T' s' := ⟨σ, T, s, ht, hn, rfl, .refl hh, hq⟩
theorem SC.skip (hq : Q .normal T s) : SC P nt .skip T s Q := ⟨nofun, fun code hc σ a w ht hh hn => by cases hc; exact wp_skip (here ht hh hn hq)⟩
theorem SC.ret (hq : Q .ret T s) : SC P nt .ret T s Q := ⟨nofun, fun code hc σ a w ht hh hn => by cases hc; exact wp_ret (here ht hh hn hq)⟩
theorem SC.exit {n : Nat} (hq : Q (.exit n) T s) : SC P nt (.exit n) T s Q := ⟨nofun, fun code hc σ a w ht hh hn => by cases hc; exact wp_exit (here ht hh hn hq)⟩
theorem SC.goto {n : Nat} (hq : Q (.goto n) T s) : SC P nt (.goto n) T s Q := ⟨nofun, fun code hc σ a w ht hh hn => by cases hc; exact wp_goto (here ht hh hn hq)⟩
theorem SC.lbl {n : Nat} (hq : Q .normal T s) : SC P nt (.lbl n) T s Q := ⟨nofun, fun code hc σ a w ht hh hn => by cases hc; exact wp_label (here ht hh hn hq)⟩
theorem SC.seq {x y : AC} (h : SC P nt x T s (thn (fun T' s' => SC P nt y T' s' Q) Q)) (hy : y ≠ .bad) : SC P nt (.seq x y) T s Q := ⟨nofun, fun code hc σ a w ht hh hn => by
  cases hc with
  | seq h1 h2 =>
    refine wp_seq (wp_mono (h.2 _ h1 σ a w ht hh hn) ?_)
    rintro e a' w' ⟨σ', T', s', q1, q2, q3, q4, q5⟩
    cases e with
    | normal =>
      refine wp_mono (q5.2 _ h2 σ' a' w' q1 q4.hr q2) ?_
      rintro e a2 w2 ⟨σ2, T2, s2, r1, r2, r3, r4, r5⟩
      exact ⟨σ2, T2, s2, r1, r2, r3.trans q3, q4.trans r4, r5⟩
    | _ => exact ⟨σ', T', s', q1, q2, q3, q4, q5⟩⟩
theorem SC.cond {c : SO} {x y : AC} {t : Bool} (hc : evO T c = some (.b t)) (h1 : t = true → SC P nt x T s Q) (h2 : t = false → SC P nt y T s Q) : SC P nt (.cond c x y) T s Q := ⟨nofun, fun code hcc σ a w ht hh hn => by
  cases hcc with
  | cond h0 g1 g2 =>
    rename_i c' x' y'
    have hv := oo_sound h0 hc (ht.or _)
    have hv' : a.eval c' = .bool t := by generalize a.eval c' = q at hv; cases hv; rfl
    cases t with
    | true => exact wp_cond_true hv' ((h1 rfl).2 _ g1 σ a w ht hh hn)
    | false => exact wp_cond_false hv' ((h2 rfl).2 _ g2 σ a w ht hh hn)⟩
theorem SC.cond_t {c : SO} {x y : AC} (hc : evO T c = some (.b true)) (h1 : SC P nt x T s Q) : SC P nt (.cond c x y) T s Q := SC.cond hc (fun _ => h1) (fun h => by cases h)
theorem SC.cond_f {c : SO} {x y : AC} (hc : evO T c = some (.b false)) (h1 : SC P nt y T s Q) : SC P nt (.cond c x y) T s Q := SC.cond hc (fun h => by cases h) (fun _ => h1)
theorem SC.blk {n : Nat} {c : AC} (h : SC P nt c T s (inb n Q)) : SC P nt (.blk n c) T s Q := ⟨nofun, fun code hc σ a w ht hh hn => by
  cases hc with
  | blk h1 =>
    refine wp_block (wp_mono (h.2 _ h1 σ a w ht hh hn) ?_)
    rintro e a' w' ⟨σ', T', s', q1, q2, q3, q4, q5⟩
    cases e with
    | exit id =>
      simp only [inb] at q5
      simp only [Exit.inBlock]
      split at q5
      · rename_i hb
        rw [if_pos (Nat.eq_of_beq_eq_true hb)]
        exact ⟨σ', T', s', q1, q2, q3, q4, q5⟩
      · rename_i hb
        rw [if_neg (fun e => by subst e; simp at hb)]
        exact ⟨σ', T', s', q1, q2, q3, q4, q5⟩
    | _ => exact ⟨σ', T', s', q1, q2, q3, q4, q5⟩⟩
theorem SC.reg {l : List AOp} {T' : Tm} {s' : St} {rs : List Rc} (h : SReg P l T s rs T' s') (hq : Q .normal T' s') : SC P nt (.reg l) T s Q := ⟨nofun, fun code hc σ a w ht hh hn => by
  cases hc with
  | reg h1 => exact wp_region_list (ops_sound _ l h1 h ht hh hn (fun σ' a' w' q1 q2 q3 q4 => ⟨σ', T', s', q1, q2, q3, q4, hq⟩))⟩
theorem SC.dreg [hm : Mix P] {l : List DOp} {T' : Tm} {s' : St} {rs : List Rc} (h : SReg P (l.map (·.op)) T s rs T' s') (hok : okDraw 0 l rs = true) (hq : Q .normal T' s') : SC P nt (.dreg l) T s Q := ⟨nofun, fun code hc σ a w ht hh hn => by
  cases hc with
  | dreg hb h1 =>
    rw [compD_ops] at h
    exact draw_sound hm.h hb h1 h hok ht hh hn (fun σ' a' w' q1 q2 q3 q4 => ⟨σ', T', s', q1, q2, q3, q4, hq⟩)⟩
theorem SC.sub {c : AC} {T' : Tm} (hs : ∀ t v, T'.get t = some v → T.get t = some v) (h : SC P nt c T' s Q) : SC P nt c T s Q :=
  ⟨h.1, fun code hc σ a w ht hh hn => h.2 code hc σ a w (fun t v e => ht t v (hs t v e)) hh hn⟩
def getL (T : Tm) : List Nat → Option (List SV)
  | [] => some []
  | t :: l => match T.get t with
    | none => none
    | some v => match getL T l with
      | none => none
      | some vs => some (v :: vs)
theorem getL_zip : ∀ (L : List Nat) (vs : List SV), getL T L = some vs → ∀ t v, Tm.get (L.zip vs) t = some v → T.get t = some v
  | [], vs, h, t, v, e => by simp [Tm.get] at e
  | x :: L, vs, h, t, v, e => by
    simp only [getL] at h
    split at h
    · cases h
    · rename_i u hu
      split at h
      · cases h
      · rename_i us hus
        obtain rfl := Option.some.inj h
        rw [List.zip_cons_cons, Tm.get_cons] at e
        split at e
        · rename_i ht
          obtain rfl := Option.some.inj e
          rw [ht]; exact hu
        · exact getL_zip L us hus t v e
theorem SC.loop {c : AC} (L : List Nat) (I : List SV → St → Prop) (μ : List SV → St → Nat) {vs : List SV} (hL : getL T L = some vs) (h0 : I vs s) (hb : c ≠ .bad)
    (round : ∀ vs s, I vs s → SC P nt c (L.zip vs) s (thn (fun T' s' => ∃ vs', getL T' L = some vs' ∧ I vs' s' ∧ μ vs' s' < μ vs s) Q)) : SC P nt (.loop c) T s Q := ⟨nofun, fun code hc σ0 a0 w0 ht hh hn => by
  cases hc with
  | loop h1 =>
    rename_i c'
    have key : ∀ (s0 : St) n vs s σ a w, μ vs s < n → I vs s → TR σ (L.zip vs) a → nt ≤ a.tmps.size → a.defers = a0.defers → Good σ0 s0 w0 σ s w → Code.rounds P c' (fun e a' w' => ∃ σ' T' s', TR σ' T' a' ∧ nt ≤ a'.tmps.size ∧ a'.defers = a0.defers ∧ Good σ0 s0 w0 σ' s' w' ∧ Q e T' s') n a w := by
      intro s0 n
      induction n with
      | zero => intro vs s σ a w h; omega
      | succ n ih =>
        intro vs s σ a w hμ hI ht hn hd hg
        rw [rounds_succ]
        refine wp_mono ((round vs s hI).2 _ h1 σ a w ht hg.hr hn) ?_
        rintro e a' w' ⟨σ', T', s', q1, q2, q3, q4, q5⟩
        cases e with
        | normal =>
          obtain ⟨vs', r1, r2, r3⟩ := q5
          exact ih vs' s' σ' a' w' (by omega) r2 (fun t v e => q1 t v (getL_zip L vs' r1 t v e)) q2 (q3.trans hd) (hg.trans q4)
        | _ => exact ⟨σ', T', s', q1, q2, q3.trans hd, hg.trans q4, q5⟩
    exact wp_loop_rounds _ (key s (μ vs s + 1) vs s σ0 a0 w0 (Nat.lt_succ_self _) h0 (fun t v e => ht t v (getL_zip L vs hL t v e)) hn rfl (.refl hh))⟩
def findL : AC → Nat → Option AC
  | .seq a b, l => match findL a l with
    | some r => some (.seq r b)
    | none => findL b l
  | .lbl l', l => match Nat.beq l' l with
    | true => some .skip
    | false => none
  | _, _ => none
def noBad : AC → Bool
  | .bad => false
  | .seq a b => noBad a && noBad b
  | _ => true
theorem cc_find (l : Nat) : ∀ (code : Code) (c : AC), CC P nt code c → noBad c = true → (findLabel code l = none ∧ findL c l = none) ∨ ∃ rc r, findLabel code l = some rc ∧ findL c l = some r ∧ CC P nt rc r := by
  intro code c h
  induction h with
  | seq h1 h2 iha ihb =>
    intro hnb
    simp only [noBad, Bool.and_eq_true] at hnb
    rcases iha hnb.1 with ⟨h3, h4⟩ | ⟨rc, r, h3, h4, h5⟩
    · rcases ihb hnb.2 with ⟨g1, g2⟩ | ⟨rc, r, g1, g2, g3⟩
      · exact .inl ⟨by simp [findLabel, h3, g1], by simp [findL, h4, g2]⟩
      · exact .inr ⟨rc, r, by simp [findLabel, h3, g1], by simp [findL, h4, g2], g3⟩
    · exact .inr ⟨_, .seq r _, by simp [findLabel, h3], by simp [findL, h4], .seq h5 h2⟩
  | lbl =>
    rename_i l'
    intro _
    by_cases hl : l' = l
    · exact .inr ⟨.skip, .skip, by simp [findLabel, hl], by simp [findL, hl], .skip⟩
    · refine .inl ⟨by simp [findLabel, hl], ?_⟩
      have : Nat.beq l' l = false := by
        cases e : Nat.beq l' l with
        | false => rfl
        | true => exact absurd (Nat.eq_of_beq_eq_true e) hl
      simp only [findL, this]
  | bad => intro hnb; cases hnb
  | _ => intro _; exact .inl ⟨rfl, rfl⟩
def Scoped (P : Program) (c : Code) (Q : Exit → Act → World → Prop) : Nat → Code → Act → World → Prop
  | 0, _, _, _ => False
  | m + 1, r, a, w => r.wp P (fun e a w => match e with
    | .goto l => match findLabel c l with
      | some rest => Scoped P c Q m rest a w
      | none => Q (.goto l) a w
    | e => Q e a w) a w
theorem wp_scope_of {c : Code} {Q : Exit → Act → World → Prop} {a : Act} {w : World} (m : Nat) (h : Scoped P c Q m c a w) : (Code.scope c).wp P Q a w := by
  intro b k cs
  have key : ∀ m r a w, Scoped P c Q m r a w → ∃ e a' w', Q e a' w' ∧ Arrives P (lone (b.at a (.code r :: .inScope c :: k)) cs w) b k cs e a' w' := by
    intro m
    induction m with
    | zero => intro r a w h; exact h.elim
    | succ m ih =>
      intro r a w h
      obtain ⟨e, a₁, w₁, hq, harr⟩ := h b (.inScope c :: k) cs
      cases e with
      | normal => exact ⟨.normal, a₁, w₁, hq, Steps.trans harr (.one step_inScope)⟩
      | exit id => exact ⟨.exit id, a₁, w₁, hq, fun k' hk => harr k' (by simp [exitTo, hk])⟩
      | goto l =>
        cases hf : findLabel c l with
        | some rest =>
          simp only [hf] at hq
          have hg : gotoIn l (.inScope c :: k) = some (.code rest :: .inScope c :: k) := by simp [gotoIn, hf]
          obtain ⟨e₂, a₂, w₂, hq₂, harr₂⟩ := ih rest a₁ w₁ hq
          exact ⟨e₂, a₂, w₂, hq₂, .of_steps (harr _ hg) harr₂⟩
        | none =>
          simp only [hf] at hq
          exact ⟨.goto l, a₁, w₁, hq, fun k' hk => harr k' (by simp [gotoIn, hf, hk])⟩
      | ret => exact ⟨_, a₁, w₁, hq, harr⟩
      | panic ch => exact ⟨_, a₁, w₁, hq, harr⟩
      | outgrown => exact ⟨_, a₁, w₁, hq, harr⟩
  obtain ⟨e, a', w', hq, harr⟩ := key m c a w h
  exact ⟨e, a', w', hq, .of_steps (.one step_scope) harr⟩
theorem SC.label {c r : AC} (l : Nat) (hf : findL c l = some r) (hnb : noBad c = true) (L : List Nat) (I : List SV → St → Prop) (μ : List SV → St → Nat)
    (first : SC P nt c T s (fun e T' s' => match e with
      | .goto l' => l' = l ∧ ∃ vs, getL T' L = some vs ∧ I vs s'
      | e => Q e T' s'))
    (pass : ∀ vs s, I vs s → SC P nt r (L.zip vs) s (fun e T' s' => match e with
      | .goto l' => l' = l ∧ ∃ vs', getL T' L = some vs' ∧ I vs' s' ∧ μ vs' s' < μ vs s
      | e => Q e T' s')) : SC P nt (.scope c) T s Q := ⟨nofun, fun code hc σ0 a0 w0 ht hh hn => by
  cases hc with
  | scope h1 =>
    rename_i c'
    obtain ⟨rc, hrc, hcr⟩ : ∃ rc, findLabel c' l = some rc ∧ CC P nt rc r := by
      rcases cc_find (P := P) (nt := nt) l c' c h1 hnb with ⟨_, h⟩ | ⟨rc, r', g1, g2, g3⟩
      · rw [hf] at h; cases h
      · rw [hf] at g2
        obtain rfl := Option.some.inj g2
        exact ⟨rc, g1, g3⟩
    have key : ∀ (s0 : St) n vs s σ a w, μ vs s < n → I vs s → TR σ (L.zip vs) a → nt ≤ a.tmps.size → a.defers = a0.defers → Good σ0 s0 w0 σ s w → Scoped P c' (fun e a' w' => ∃ σ' T' s', TR σ' T' a' ∧ nt ≤ a'.tmps.size ∧ a'.defers = a0.defers ∧ Good σ0 s0 w0 σ' s' w' ∧ Q e T' s') n rc a w := by
      intro s0 n
      induction n with
      | zero => intro vs s σ a w h; omega
      | succ n ih =>
        intro vs s σ a w hμ hI ht hn hd hg
        refine wp_mono ((pass vs s hI).2 _ hcr σ a w ht hg.hr hn) ?_
        rintro e a' w' ⟨σ', T', s', q1, q2, q3, q4, q5⟩
        cases e with
        | goto l' =>
          obtain ⟨rfl, vs', r1, r2, r3⟩ := q5
          simp only [hrc]
          exact ih vs' s' σ' a' w' (by omega) r2 (fun t v e => q1 t v (getL_zip L vs' r1 t v e)) q2 (q3.trans hd) (hg.trans q4)
        | _ => exact ⟨σ', T', s', q1, q2, q3.trans hd, hg.trans q4, q5⟩
    -- how often it may jump is known only behind the first pass
    intro b k cs
    obtain ⟨e, a₁, w₁, ⟨σ', T', s', q1, q2, q3, q4, q5⟩, harr⟩ := first.2 _ h1 σ0 a0 w0 ht hh hn b (.inScope c' :: k) cs
    cases e with
    | normal => exact ⟨.normal, a₁, w₁, ⟨σ', T', s', q1, q2, q3, q4, q5⟩, .head step_scope (Steps.trans harr (.one step_inScope))⟩
    | exit id => exact ⟨.exit id, a₁, w₁, ⟨σ', T', s', q1, q2, q3, q4, q5⟩, fun k' hk => .head step_scope (harr k' (by simp [exitTo, hk]))⟩
    | goto l' =>
      obtain ⟨rfl, vs, r1, r2⟩ := q5
      have hg : gotoIn l' (.inScope c' :: k) = some (.code rc :: .inScope c' :: k) := by simp [gotoIn, hrc]
      have := key s (μ vs s' + 1) vs s' σ' a₁ w₁ (Nat.lt_succ_self _) r2 (fun t v e => q1 t v (getL_zip L vs r1 t v e)) q2 q3 q4
      -- one more scope, begun at the label
      have fin : ∀ m r a w, Scoped P c' (fun e a' w' => ∃ σ' T' s', TR σ' T' a' ∧ nt ≤ a'.tmps.size ∧ a'.defers = a0.defers ∧ Good σ0 s w0 σ' s' w' ∧ Q e T' s') m r a w → ∃ e a' w', (∃ σ' T' s', TR σ' T' a' ∧ nt ≤ a'.tmps.size ∧ a'.defers = a0.defers ∧ Good σ0 s w0 σ' s' w' ∧ Q e T' s') ∧ Arrives P (lone (b.at a (.code r :: .inScope c' :: k)) cs w) b k cs e a' w' := by
        intro m
        induction m with
        | zero => intro r a w h; exact h.elim
        | succ m ih =>
          intro r a w h
          obtain ⟨e, a₁, w₁, hq, harr⟩ := h b (.inScope c' :: k) cs
          cases e with
          | normal => exact ⟨.normal, a₁, w₁, hq, Steps.trans harr (.one step_inScope)⟩
          | exit id => exact ⟨.exit id, a₁, w₁, hq, fun k' hk => harr k' (by simp [exitTo, hk])⟩
          | goto l =>
            cases hf : findLabel c' l with
            | some rest =>
              simp only [hf] at hq
              have hg : gotoIn l (.inScope c' :: k) = some (.code rest :: .inScope c' :: k) := by simp [gotoIn, hf]
              obtain ⟨e₂, a₂, w₂, hq₂, harr₂⟩ := ih rest a₁ w₁ hq
              exact ⟨e₂, a₂, w₂, hq₂, .of_steps (harr _ hg) harr₂⟩
            | none =>
              simp only [hf] at hq
              exact ⟨.goto l, a₁, w₁, hq, fun k' hk => harr k' (by simp [gotoIn, hf, hk])⟩
          | ret => exact ⟨_, a₁, w₁, hq, harr⟩
          | panic ch => exact ⟨_, a₁, w₁, hq, harr⟩
          | outgrown => exact ⟨_, a₁, w₁, hq, harr⟩
      obtain ⟨e₂, a₂, w₂, hq₂, harr₂⟩ := fin _ rc a₁ w₁ this
      exact ⟨e₂, a₂, w₂, hq₂, .of_steps (.head step_scope (harr _ hg)) harr₂⟩
    | ret => exact ⟨_, a₁, w₁, ⟨σ', T', s', q1, q2, q3, q4, q5⟩, .of_steps (.one step_scope) harr⟩
    | panic ch => exact ⟨_, a₁, w₁, ⟨σ', T', s', q1, q2, q3, q4, q5⟩, .of_steps (.one step_scope) harr⟩
    | outgrown => exact ⟨_, a₁, w₁, ⟨σ', T', s', q1, q2, q3, q4, q5⟩, .of_steps (.one step_scope) harr⟩⟩
theorem SC.scope {c : AC} (h : SC P nt c T s (fun e T' s' => match e with
      | .goto _ => False
      | e => Q e T' s')) : SC P nt (.scope c) T s Q := ⟨nofun, fun code hc σ a w ht hh hn => by
  cases hc with
  | scope h1 =>
    refine wp_scope_straight (wp_mono (h.2 _ h1 σ a w ht hh hn) ?_)
    rintro e a' w' ⟨σ', T', s', q1, q2, q3, q4, q5⟩
    cases e with
    | goto l => exact q5.elim
    | _ => exact ⟨σ', T', s', q1, q2, q3, q4, q5⟩⟩
theorem SC.freeze {c : AC} {t b e esz n : Nat} {cells : List SV} (hT : T.get t = some (.sl b 0 n)) (hb : s.H b = some (.row e esz cells)) (h : SC P nt c ((t, .lst n cells) :: T) { s with H := upd s.H b none } Q) : SC P nt c T s Q := ⟨h.1, fun code hc σ a w ht hh hn => by
  have ht0 := ht t _ hT
  have fin : ∀ σ', Good σ s w σ' { s with H := upd s.H b none } w → VR σ' (.lst n cells) (a.tmps.getD t undef) → code.wp P (fun e a' w' => ∃ σ' T' s', TR σ' T' a' ∧ nt ≤ a'.tmps.size ∧ a'.defers = a.defers ∧ Good σ s w σ' s' w' ∧ Q e T' s') a w := by
    intro σ' hg hv
    refine wp_mono (h.2 code hc σ' a w (fun u v e => ?_) hg.hr hn) ?_
    · rw [Tm.get_cons] at e
      split at e
      · rename_i hut
        obtain rfl := Option.some.inj e
        rw [hut]; exact ⟨ht0.1, hv⟩
      · exact ht.ext hg.ext u v e
    · rintro e a' w' ⟨σ2, T', s', q1, q2, q3, q4, q5⟩
      exact ⟨σ2, T', s', q1, q2, q3, hg.trans q4, q5⟩
  rcases ht0.2.sl_inv with ⟨r, κ, cp, hval, ha, hnc, hcm, _⟩ | ⟨hval, hv, _, rfl⟩
  · obtain ⟨xs, hx, hg⟩ := hh.freeze hb ha
    refine fin _ hg ?_
    rw [hval]
    refine .lst (xs := xs) (zs := xs) ?_ (hx.ext hg.ext) (by simp) hnc hcm
    show (if r = r then some xs else σ.z r) = some xs
    rw [if_pos rfl]
  · refine fin σ (Good.fewer (.refl hh) (fun b' k hk => ?_) (Nat.le_refl _)) ?_
    · simp only [upd] at hk
      split at hk
      · cases hk
      · exact hk
    · rw [hval]
      rcases hh.blk b _ hb with ⟨_, e', z', he⟩ | ⟨r, κ, o, ha, _⟩
      · injection he with _ _ he
        subst he
        exact .lst0 (fun _ => rfl) (by simp [maxLen]) nofun
      · rw [hh.virt b hv] at ha; cases ha⟩
theorem SC.own {c : AC} {t : Nat} (e esz : Nat) (hT : T.get t = some .nils) (h : SC P nt c ((t, .sl s.nxt 0 0) :: T) { H := upd s.H s.nxt (some (.row e esz [])), nxt := s.nxt + 1 } Q) : SC P nt c T s Q := ⟨h.1, fun code hc σ a w ht hh hn => by
  have ht0 := ht t _ hT
  have hg := hh.virtual e esz
  refine wp_mono (h.2 code hc _ a w (fun u v e => ?_) hg.hr hn) ?_
  · rw [Tm.get_cons] at e
    split at e
    · rename_i hut
      obtain rfl := Option.some.inj e
      rw [hut]
      refine ⟨ht0.1, ?_⟩
      have hv := ht0.2
      generalize a.tmps.getD t undef = q at hv
      cases hv
      exact .sl0 (if_pos rfl)
    · exact ht.ext hg.ext u v e
  · rintro e a' w' ⟨σ2, T', s', q1, q2, q3, q4, q5⟩
    exact ⟨σ2, T', s', q1, q2, q3, hg.trans q4, q5⟩⟩
theorem SC.drop {c : AC} {s2 : St} (hH : ∀ b k, s2.H b = some k → s.H b = some k) (hn : s.nxt ≤ s2.nxt) (h : SC P nt c T s2 Q) : SC P nt c T s Q := ⟨h.1, fun code hc σ a w ht hh hnt => by
  have hg := (Good.refl hh).fewer hH hn
  refine wp_mono (h.2 code hc σ a w ht hg.hr hnt) ?_
  rintro e a' w' ⟨σ2, T', s', q1, q2, q3, q4, q5⟩
  exact ⟨σ2, T', s', q1, q2, q3, hg.trans q4, q5⟩⟩
end
end Go.Sy
end
section
namespace Go.Sy
open Go
set_option linter.unusedVariables false
set_option linter.unusedSimpArgs false
def compR (P : Program) : List ResultVar → Option (List RV)
  | [] => some []
  | .tmp t :: r => (compR P r).map (.tmp t :: ·)
  | .cell a t :: r => match P.underlying t, szOf P t, compR P r with
    | some d, some n, some l => some ((match aggD d with | true => .ldn a n | false => .ld1 a) :: l)
    | _, _, _ => none
def compF (P : Program) (f : Nat) : Option AF := match P.funcs[f]? with
  | none => none
  | some fn => match fn.name == "runtime.NumGoroutine" with
    | true => none
    | false => match fn.body with
      | none => none
      | some code => match compC P fn.ntmps code with
        | none => none
        | some body => match compR P fn.results.toList with
          | none => none
          | some res => some ⟨fn.ntmps, body, res⟩
def resV : List RV → Tm → St → Option (List SV)
  | [], _, _ => some []
  | r :: l, T, s => match (match r with
      | .tmp t => T.get t
      | .ld1 t => match T.get t with
        | some v => match ptrCells s v with
          | some cells => cells[0]?
          | none => none
        | none => none
      | .ldn t n => match T.get t with
        | some v => match ptrCells s v with
          | some cells => match Nat.ble n cells.length with
            | true => some (.agg (cells.take n))
            | false => none
          | none => none
        | none => none) with
    | none => none
    | some v => match resV l T s with
      | none => none
      | some vs => some (v :: vs)
def retV (l : List RV) (T : Tm) (s : St) : Option SV := match resV l T s with
  | none => none
  | some [v] => some v
  | some l => some (.tup l)
def fin (res : List RV) (Q : SV → St → Prop) : Exit → Tm → St → Prop
  | .normal, T, s => ∃ r, retV res T s = some r ∧ Q r s
  | .ret, T, s => ∃ r, retV res T s = some r ∧ Q r s
  | _, _, _ => False
def argT : Nat → List SV → Tm
  | _, [] => []
  | k, a :: l => (k, a) :: argT (k + 1) l
section
variable {P : Program}
theorem resV_sound {σ : Env} {T : Tm} {s : St} {a : Act} {w : World} (h : TR σ T a) (hh : HR σ s w) : ∀ (rv : List ResultVar) (l : List RV), compR P rv = some l → ∀ vs, resV l T s = some vs →
    ∃ xs : List Value, VRs σ vs xs ∧ (rv.mapM (fun | .tmp t => pure (a.tmps.getD t undef) | .cell q t => do loadVar t (← asAddr (a.tmps.getD q undef)) : ResultVar → Sem Value)).run P w = .ok xs w
  | [], l, hl, vs, hv => by
    obtain rfl := (Option.some.inj hl).symm
    obtain rfl := (Option.some.inj hv).symm
    exact ⟨[], .nil, by simp⟩
  | .tmp t :: rv, l, hl, vs, hv => by
    simp only [compR] at hl
    obtain ⟨l', hl', rfl⟩ := Option.map_eq_some_iff.1 hl
    simp only [resV] at hv
    split at hv
    · cases hv
    · rename_i v hvt
      split at hv
      · cases hv
      · rename_i us hus
        obtain rfl := (Option.some.inj hv).symm
        obtain ⟨xs, q1, q2⟩ := resV_sound h hh rv l' hl' us hus
        refine ⟨a.tmps.getD t undef :: xs, .cons (h t v hvt).2 q1, ?_⟩
        simp only [List.mapM_cons, Sem.run_bind, Sem.run_pure, Result.andThen_ok, q2]
  | .cell q t :: rv, l, hl, vs, hv => by
    simp only [compR] at hl
    split at hl
    · rename_i d n l' hd hn hl'
      obtain ⟨i, hi, hi2⟩ := szOf_eq hn
      obtain rfl := (Option.some.inj hl).symm
      have fin : ∀ v, (∃ x, VR σ v x ∧ (do loadVar t (← asAddr (a.tmps.getD q undef)) : Sem Value).run P w = .ok x w) → (match resV l' T s with
            | none => none
            | some vs => some (v :: vs)) = some vs → ∃ xs : List Value, VRs σ vs xs ∧ ((ResultVar.cell q t :: rv).mapM (fun | .tmp t => pure (a.tmps.getD t undef) | .cell q t => do loadVar t (← asAddr (a.tmps.getD q undef)) : ResultVar → Sem Value)).run P w = .ok xs w := by
        rintro v ⟨x, hx1, hx2⟩ hv'
        split at hv'
        · cases hv'
        · rename_i us hus
          obtain rfl := (Option.some.inj hv').symm
          obtain ⟨xs, q1, q2⟩ := resV_sound h hh rv l' hl' us hus
          refine ⟨x :: xs, .cons hx1 q1, ?_⟩
          rw [List.mapM_cons]
          simp only [Sem.run_bind] at hx2 ⊢
          rw [hx2]
          simp only [Result.andThen_ok, Sem.run_bind, q2, Sem.run_pure]
      cases hag : aggD d with
      | true =>
        rw [hag] at hv
        simp only [resV] at hv
        split at hv
        · cases hv
        · rename_i v hvt
          refine fin v ?_ hv
          split at hvt
          · rename_i pv hpv
            split at hvt
            · rename_i cells hc
              split at hvt
              · rename_i hle
                obtain rfl := Option.some.inj hvt
                obtain ⟨ad, ys, e1, e2, e3, e4⟩ := ptr_loads hh (h q pv hpv).2 hc P
                have hle := Nat.le_of_ble_eq_true hle
                have hl := e2.length
                have q := e3 n (by omega)
                rw [← hi2] at q
                have := run_loadVar_agg (P := P) (w := w) hd hag hi q
                refine ⟨.agg (ys.take n).toArray, .agg (e2.take n), ?_⟩
                rw [hi2] at this
                simp [e1, asAddr, this]
              · cases hvt
            · cases hvt
          · cases hvt
      | false =>
        rw [hag] at hv
        simp only [resV] at hv
        split at hv
        · cases hv
        · rename_i v hvt
          refine fin v ?_ hv
          split at hvt
          · rename_i pv hpv
            split at hvt
            · rename_i cells hc
              obtain ⟨ad, ys, e1, e2, e3, e4⟩ := ptr_loads hh (h q pv hpv).2 hc P
              obtain ⟨y, q1, q2⟩ := e2.get hvt
              have := run_loadVar_one (P := P) (w := w) hd hag (e4 y q1)
              refine ⟨y, q2, ?_⟩
              simp [e1, asAddr, this]
            · cases hvt
          · cases hvt
    · cases hl
theorem retV_sound {σ : Env} {T : Tm} {s : St} {a : Act} {w : World} (h : TR σ T a) (hh : HR σ s w) {fn : Func} {l : List RV} (hl : compR P fn.results.toList = some l) {v : SV} (hv : retV l T s = some v) : ∃ x, VR σ v x ∧ (results fn a.tmps).run P w = .ok x w := by
  unfold retV at hv
  have key : ∀ vs, resV l T s = some vs → ∃ xs : List Value, VRs σ vs xs ∧ (results fn a.tmps).run P w = .ok (if h : xs.length = 1 then xs[0] else .tuple xs.toArray) w := by
    intro vs hvs
    obtain ⟨xs, q1, q2⟩ := resV_sound h hh _ l hl vs hvs
    refine ⟨xs, q1, ?_⟩
    unfold results
    rw [Array.mapM_eq_mapM_toList]
    simp only [Sem.run_bind, Sem.run_map]
    generalize hm : Sem.run P (List.mapM _ fn.results.toList) w = m
    have hm' : m = .ok xs w := by rw [← hm]; exact q2
    rw [hm']
    rfl
  split at hv
  · cases hv
  · rename_i v' hvs
    obtain rfl := Option.some.inj hv
    obtain ⟨xs, q1, q2⟩ := key _ hvs
    cases q1 with
    | cons h1 h2 =>
      cases h2
      exact ⟨_, h1, by simpa using q2⟩
  · rename_i vs hne hvs
    obtain rfl := Option.some.inj hv
    obtain ⟨xs, q1, q2⟩ := key _ hvs
    refine ⟨.tuple xs.toArray, .tup q1, ?_⟩
    rw [q2, dif_neg]
    intro hlen
    obtain ⟨y, rfl⟩ := List.length_eq_one_iff.1 hlen
    cases q1 with
    | cons h1 h2 => cases h2; exact hne _ rfl
theorem TR_args {σ : Env} : ∀ {l : List SV} {vs : List Value}, VRs σ l vs → ∀ (k : Nat) (pre : List Value) (n : Nat), pre.length = k → ∀ t v, Tm.get (argT k l) t = some v → t < (pre ++ vs).length ∧ VR σ v ((pre ++ vs).toArray ++ Array.replicate n undef |>.getD t undef)
  | _, _, .nil, k, pre, n, hk, t, v, e => by simp [argT, Tm.get] at e
  | _, _, .cons (x := x) (xs := xs) h ht, k, pre, n, hk, t, v, e => by
    simp only [argT] at e
    rw [Tm.get_cons] at e
    split at e
    · rename_i hkt
      obtain rfl := Option.some.inj e
      subst hkt
      refine ⟨by simp; omega, ?_⟩
      rw [Array.getD_eq_getD_getElem?, Array.getElem?_append_left (by simp; omega)]
      simp only [List.getElem?_toArray]
      rw [List.getElem?_append_right (by omega), hk, Nat.sub_self]
      exact h
    · have := TR_args ht (k + 1) (pre ++ [x]) n (by simp [hk]) t v e
      simpa using this
theorem callFunc_enter {f : Nat} {fn : Func} (h1 : P.funcs[f]? = some fn) (h2 : (fn.name == "runtime.NumGoroutine") = false) (h3 : fn.body.isSome = true) (vs : Array Value) (w : World) : (callFunc f vs).run P w = .ok (.enter f vs) w := by
  have h3' : fn.body.isNone = false := by cases hb : fn.body <;> simp [hb] at h3 ⊢
  unfold callFunc
  simp only [Sem.run_bind, program, Sem.run, Result.andThen_ok, h1, h2, h3', Bool.false_eq_true, if_false]
  rfl
theorem SCallR.enter {f : Nat} {af : AF} (hF : compF P f = some af) {az : List SV} {s : St} {Q : SV → St → Prop} (h : SC P af.nt af.body (argT 0 az) s (fin af.res Q)) : SCallR P f az s Q := by
  intro σ w vs hh hv
  unfold compF at hF
  split at hF
  · cases hF
  · rename_i fn f1
    split at hF
    · cases hF
    · rename_i f2
      split at hF
      · cases hF
      · rename_i code f3
        split at hF
        · cases hF
        · rename_i body f4
          split at hF
          · cases hF
          · rename_i res f5
            obtain rfl := Option.some.inj hF
            refine .inr ⟨callFunc_enter f1 f2 (by rw [f3]; rfl) _ _, calls_of_wp f1 f3 ?_⟩
            refine wp_mono (h.2 code (compC_sound _ _ f4) σ _ w (fun t v e => ?_) hh (by simp; omega)) ?_
            · have := TR_args hv 0 [] (fn.ntmps - vs.length) rfl t v e
              simp only [List.nil_append] at this
              refine ⟨by simp; omega, ?_⟩
              simpa using this.2
            · rintro e a' w' ⟨σ', T', s', q1, q2, q3, q4, q5⟩
              cases e <;> first
                | exact q5.elim
                | (obtain ⟨r, r1, r2⟩ := q5
                   obtain ⟨x, x1, x2⟩ := retV_sound q1 q4.hr f5 r1
                   exact ⟨q3, x, x2, x, rfl, r, s', σ', x1, q4, r2⟩)
mutual
inductive Lo (n : Nat) : SV → Prop
  | b {x : Bool} : Lo n (.b x)
  | i {k : IntKind} {m : Int} : Lo n (.i k m)
  | s {l : List UInt8} : Lo n (.s l)
  | p {b o : Nat} (h : b < n) : Lo n (.p b o)
  | nilp : Lo n .nilp
  | pl {cells : List SV} (h : Los n cells) : Lo n (.pl cells)
  | sl {b o m : Nat} (h : b < n) : Lo n (.sl b o m)
  | nils : Lo n .nils
  | lst {m : Nat} {cells : List SV} (h : Los n cells) : Lo n (.lst m cells)
  | f {fn : Nat} {c : List SV} (h : Los n c) : Lo n (.f fn c)
  | fm {fn : Nat} {c : List SV} (h : Los n c) : Lo n (.fm fn c)
  | nilf : Lo n .nilf
  | agg {l : List SV} (h : Los n l) : Lo n (.agg l)
  | tup {l : List SV} (h : Los n l) : Lo n (.tup l)
  | nili : Lo n .nili
  | ifc {t : Nat} {v : SV} (h : Lo n v) : Lo n (.ifc t v)
inductive Los (n : Nat) : List SV → Prop
  | nil : Los n []
  | cons {a : SV} {l : List SV} (h : Lo n a) (t : Los n l) : Los n (a :: l)
end
mutual
theorem Lo.mono {n m : Nat} (h : n ≤ m) : ∀ {a : SV}, Lo n a → Lo m a
  | _, .b => .b
  | _, .i => .i
  | _, .s => .s
  | _, .p e => .p (Nat.lt_of_lt_of_le e h)
  | _, .nilp => .nilp
  | _, .pl e => .pl (Los.mono h e)
  | _, .sl e => .sl (Nat.lt_of_lt_of_le e h)
  | _, .nils => .nils
  | _, .lst e => .lst (Los.mono h e)
  | _, .f e => .f (Los.mono h e)
  | _, .fm e => .fm (Los.mono h e)
  | _, .nilf => .nilf
  | _, .agg e => .agg (Los.mono h e)
  | _, .tup e => .tup (Los.mono h e)
  | _, .nili => .nili
  | _, .ifc e => .ifc (Lo.mono h e)
theorem Los.mono {n m : Nat} (h : n ≤ m) : ∀ {a : List SV}, Los n a → Los m a
  | _, .nil => .nil
  | _, .cons e t => .cons (Lo.mono h e) (Los.mono h t)
end
mutual
theorem VR.toLo {σ : Env} {n : Nat} (hf : ∀ b, n ≤ b → σ.a b = none ∧ σ.v b = false) : ∀ {a : SV} {v : Value}, VR σ a v → Lo n a
  | _, _, .b => .b
  | _, _, .i => .i
  | _, _, .s => .s
  | _, _, .p (b := b) e => .p (by
      rcases Nat.lt_or_ge b n with h | h
      · exact h
      · rw [(hf b h).1] at e; cases e)
  | _, _, .nilp => .nilp
  | _, _, .pl e hx hp => .pl (VRs.toLos hf hx)
  | _, _, .sl (b := b) e hn hc h0 => .sl (by
      rcases Nat.lt_or_ge b n with h | h
      · exact h
      · rw [(hf b h).1] at e; cases e)
  | _, _, .sl0 (b := b) e => .sl (by
      rcases Nat.lt_or_ge b n with h | h
      · exact h
      · rw [(hf b h).2] at e; cases e)
  | _, _, .nils => .nils
  | _, _, .lst0 _ _ _ => .lst .nil
  | _, _, .lst e hx hp hn hc => .lst (VRs.toLos hf hx)
  | _, _, .f e => .f (VRs.toLos hf e)
  | _, _, .fm e => .fm (VRs.toLos hf e)
  | _, _, .nilf => .nilf
  | _, _, .agg e => .agg (VRs.toLos hf e)
  | _, _, .tup e => .tup (VRs.toLos hf e)
  | _, _, .nili => .nili
  | _, _, .ifc e => .ifc (VR.toLo hf e)
theorem VRs.toLos {σ : Env} {n : Nat} (hf : ∀ b, n ≤ b → σ.a b = none ∧ σ.v b = false) : ∀ {a : List SV} {v : List Value}, VRs σ a v → Los n a
  | _, _, .nil => .nil
  | _, _, .cons e t => .cons (VR.toLo hf e) (VRs.toLos hf t)
end
mutual
theorem VR.lo {σ σ' : Env} {n : Nat} (ha : ∀ b, b < n → σ'.a b = σ.a b ∧ σ'.v b = σ.v b) (hz : σ'.z = σ.z) (hm : σ.m ≤ σ'.m) : ∀ {a : SV} {v : Value}, VR σ a v → Lo n a → VR σ' a v
  | _, _, .b, _ => .b
  | _, _, .i, _ => .i
  | _, _, .s, _ => .s
  | _, _, .p e, .p h => .p (by rw [(ha _ h).1]; exact e)
  | _, _, .nilp, _ => .nilp
  | _, _, .pl e hx hp, .pl h => .pl (by rw [hz]; exact e) (VRs.los ha hz hm hx h) hp
  | _, _, .sl e hn hc h0, .sl h => .sl (by rw [(ha _ h).1]; exact e) hn hc h0
  | _, _, .sl0 e, .sl h => .sl0 (by rw [(ha _ h).2]; exact e)
  | _, _, .nils, _ => .nils
  | _, _, .lst0 h0 hc hM, _ => .lst0 h0 hc fun ad e => Nat.lt_of_lt_of_le (hM ad e) hm
  | _, _, .lst e hx hp hn hc, .lst h => .lst (by rw [hz]; exact e) (VRs.los ha hz hm hx h) hp hn hc
  | _, _, .f e, .f h => .f (VRs.los ha hz hm e h)
  | _, _, .fm e, .fm h => .fm (VRs.los ha hz hm e h)
  | _, _, .nilf, _ => .nilf
  | _, _, .agg e, .agg h => .agg (VRs.los ha hz hm e h)
  | _, _, .tup e, .tup h => .tup (VRs.los ha hz hm e h)
  | _, _, .nili, _ => .nili
  | _, _, .ifc e, .ifc h => .ifc (VR.lo ha hz hm e h)
theorem VRs.los {σ σ' : Env} {n : Nat} (ha : ∀ b, b < n → σ'.a b = σ.a b ∧ σ'.v b = σ.v b) (hz : σ'.z = σ.z) (hm : σ.m ≤ σ'.m) : ∀ {a : List SV} {v : List Value}, VRs σ a v → Los n a → VRs σ' a v
  | _, _, .nil, _ => .nil
  | _, _, .cons e t, .cons h1 h2 => .cons (VR.lo ha hz hm e h1) (VRs.los ha hz hm t h2)
end
theorem SCallR.clean {f : Nat} {az : List SV} {s : St} {r : SV} {H1 : Nat → Option Blk} (h : SCallR P f az s (fun r' s' => r' = r ∧ ∀ b, b < s.nxt → s'.H b = H1 b)) (hr : Lo s.nxt r) (hH : ∀ b, s.nxt ≤ b → H1 b = s.H b)
    (hrow : ∀ b e z cells, b < s.nxt → H1 b = some (.row e z cells) → s.H b = H1 b ∨ Los s.nxt cells) : SCall P f az s r ⟨H1, s.nxt⟩ := by
  intro σ w vs hh hv
  refine (h σ w vs hh hv).mono ?_
  rintro x w' ⟨r', s', σ', h1, g, rfl, h3⟩
  have hlt : ∀ b k, H1 b = some k → b < s.nxt := by
    intro b k e
    rcases Nat.lt_or_ge b s.nxt with h | h
    · exact h
    · rw [hH b h, hh.hnone h] at e; cases e
  have hs' : ∀ b k, H1 b = some k → s'.H b = some k := fun b k e => by rw [h3 b (hlt b k e)]; exact e
  have ho : ∀ b, b < s.nxt → (⟨σ.a, σ'.z, σ.v, σ'.m⟩ : Env).a b = σ'.a b ∧ (⟨σ.a, σ'.z, σ.v, σ'.m⟩ : Env).v b = σ'.v b := fun b hb => ⟨(g.old b hb).1.symm, (g.old b hb).2.symm⟩
  have hlos : ∀ b e z cells, H1 b = some (.row e z cells) → Los s.nxt cells := by
    intro b e z cells hb
    rcases hrow b e z cells (hlt _ _ hb) hb with h | h
    · rw [hb] at h
      rcases hh.blk b _ h with ⟨_, e', z', he⟩ | ⟨r, κ, o, _, _, c, xs, lo, hi, _, hx, _⟩
      · injection he with _ _ he; subst he; exact .nil
      · exact hx.toLos hh.fresh
    · exact h
  refine ⟨⟨σ.a, σ'.z, σ.v, σ'.m⟩, h1.lo ho rfl (Nat.le_refl _) hr, ⟨fun _ _ e => e, g.ext.z, fun _ e => e, g.ext.m⟩, ⟨fun b k e => ?_, hh.virt, fun b b' k k' r κ κ' e e' a a' => ?_, fun b k r κ e a => ?_, g.hr.frz, hh.fresh, fun b r κ e => Nat.lt_of_lt_of_le (hh.lt b r κ e) g.keep.size, g.hr.m⟩, g.keep, fun b x r κ e a => ?_, Nat.le_refl _, fun _ _ => ⟨rfl, rfl⟩, g.zn⟩
  · have hb := hlt b k e
    rcases g.hr.blk b k (hs' b k e) with ⟨q1, q2⟩ | ⟨r, κ, o, q1, q2, q3⟩
    · exact .inl ⟨by show σ.v b = true; rw [← (g.old b hb).2]; exact q1, q2⟩
    · refine .inr ⟨r, κ, o, by show σ.a b = _; rw [← (g.old b hb).1]; exact q1, q2, ?_⟩
      cases k with
      | row e' z' cells =>
        obtain ⟨c, xs, lo, hi, p1, p2, p3⟩ := q3
        exact ⟨c, xs, lo, hi, p1, p2.los ho rfl (Nat.le_refl _) (hlos b e' z' cells e), p3⟩
  · have a1 : σ.a b = _ := a
    have a2 : σ.a b' = _ := a'
    exact g.hr.inj b b' k k' r κ κ' (hs' _ _ e) (hs' _ _ e') (g.ext.a _ _ a1) (g.ext.a _ _ a2)
  · have a1 : σ.a b = _ := a
    exact g.hr.apart b k r κ (hs' _ _ e) (g.ext.a _ _ a1)
  · have a1 : σ.a b = _ := a
    exact g.own b x r κ (hs' _ _ e) (g.ext.a _ _ a1)
theorem SCallR.pure {f : Nat} {az : List SV} {s : St} {r : SV} (h : SCallR P f az s (fun r' s' => r' = r ∧ ∀ b, b < s.nxt → s'.H b = s.H b)) (hr : Lo s.nxt r) : SCall P f az s r s :=
  h.clean hr (fun _ _ => rfl) (fun _ _ _ _ _ _ => .inl rfl)
def entersB (P : Program) (f : Nat) : Bool := match P.funcs[f]? with
  | none => false
  | some fn => !(fn.name == "runtime.NumGoroutine") && fn.body.isSome
theorem enters {f : Nat} (h : entersB P f = true) (vs : Array Value) (w : World) : (callFunc f vs).run P w = .ok (.enter f vs) w := by
  unfold entersB at h
  split at h
  · cases h
  · rename_i fn h1
    simp only [Bool.and_eq_true, Bool.not_eq_true'] at h
    exact callFunc_enter h1 h.1 h.2 vs w
theorem SCall.of {f : Nat} {az : List SV} {s : St} {r : SV} (hE : entersB P f = true) (h : ∀ σ w vs, HR σ s w → VRs σ az vs → Calls P f vs.toArray w fun e w' => ∃ x σ', e = .returned x ∧ VR σ' r x ∧ Good σ s w σ' s w') : SCall P f az s r s := fun σ w vs hh hv =>
  .inr ⟨enters hE _ _, (h σ w vs hh hv).mono fun e w' ⟨x, σ', h1, h2, h3⟩ => ⟨x, h1, σ', h2, h3⟩⟩
def Env.frzNew (σ : Env) (w w' : World) : Env := ⟨σ.a, fun r => if w.heap.size ≤ r then (match w'.heap[r]? with
  | some (.cells c _ _) => some c.toList
  | _ => none) else σ.z r, σ.v, w'.heap.size⟩
theorem Good.frzNew {σ : Env} {s : St} {w w' : World} (h : HR σ s w) (hb : RowKit.Below w.heap.size w w') : Good σ s w (σ.frzNew w w') s w' := by
  have g := Good.below h hb
  have hext : σ.Ext (σ.frzNew w w') := ⟨fun _ _ e => e, fun r l e => by
    show (if w.heap.size ≤ r then _ else σ.z r) = some l
    rw [if_neg (by have := h.zlt e; omega)]; exact e, fun _ e => e, Nat.le_trans (Nat.le_trans (Nat.le_max_left _ _) h.m) hb.size⟩
  refine ⟨hext, ⟨fun b k hk => ?_, g.hr.virt, g.hr.inj, fun b k r κ hk ha => ?_, fun r zs hz => ?_, g.hr.fresh, g.hr.lt, Nat.max_le.2 ⟨Nat.le_refl _, Nat.le_trans (Nat.le_max_right _ _) (Nat.le_trans h.m hb.size)⟩⟩, g.keep, g.own, g.nx, fun _ _ => ⟨rfl, rfl⟩, fun r l e e' => by
    have e : (if w.heap.size ≤ r then (match w'.heap[r]? with
      | some (.cells c _ _) => some c.toList
      | _ => none) else σ.z r) = some l := e
    by_cases hr : w.heap.size ≤ r
    · exact .inl hr
    · rw [if_neg hr, e'] at e; cases e⟩
  · rcases g.hr.blk b k hk with h0 | ⟨r, κ, o, h1, h2, h3⟩
    · exact .inl h0
    · exact .inr ⟨r, κ, o, h1, h2, h3.ext hext⟩
  · show (if w.heap.size ≤ r then _ else σ.z r) = none
    have := h.lt b r κ ha
    rw [if_neg (by omega)]
    exact h.apart b k r κ hk ha
  · have hz : (if w.heap.size ≤ r then (match w'.heap[r]? with
      | some (.cells c _ _) => some c.toList
      | _ => none) else σ.z r) = some zs := hz
    split at hz
    · split at hz
      · rename_i c e fr hc
        obtain rfl := Option.some.inj hz
        exact ⟨c, e, fr, hc, List.prefix_refl _⟩
      · cases hz
    · exact g.hr.frz r zs hz
end
end Go.Sy
end
section
namespace Go.Sy
open Go
set_option linter.unusedVariables false
set_option linter.unusedSimpArgs false
abbrev Ch := List (Nat × Option Blk)
def updL (H : Nat → Option Blk) : Ch → Nat → Option Blk
  | [] => H
  | p :: l => updL (upd H p.1 p.2) l
def inCh (l : Ch) (b : Nat) : Prop := ∃ x, (b, x) ∈ l
theorem updL_ne : ∀ {l : Ch} {H : Nat → Option Blk} {b : Nat}, (∀ x, (b, x) ∉ l) → updL H l b = H b
  | [], H, b, h => rfl
  | p :: l, H, b, h => by
    simp only [updL]
    rw [updL_ne (fun x hx => h x (List.mem_cons_of_mem _ hx)), upd_ne]
    rintro rfl
    exact h p.2 (List.mem_cons_self ..)
theorem updL_in : ∀ {l : Ch} {H H' : Nat → Option Blk} {b : Nat}, (∃ x, (b, x) ∈ l) → updL H l b = updL H' l b
  | [], H, H', b, ⟨x, h⟩ => by cases h
  | p :: l, H, H', b, h => by
    simp only [updL]
    by_cases hl : ∃ x, (b, x) ∈ l
    · exact updL_in hl
    · have hl' : ∀ x, (b, x) ∉ l := fun x hx => hl ⟨x, hx⟩
      rw [updL_ne hl', updL_ne hl']
      obtain ⟨x, hx⟩ := h
      rcases List.mem_cons.1 hx with e | hx
      · subst e; rw [upd_same, upd_same]
      · exact (hl' x hx).elim
theorem updL_congr {l : Ch} {H H' : Nat → Option Blk} {b : Nat} (h : H b = H' b) : updL H l b = updL H' l b := by
  by_cases hl : ∃ x, (b, x) ∈ l
  · exact updL_in hl
  · have hl' : ∀ x, (b, x) ∉ l := fun x hx => hl ⟨x, hx⟩
    rw [updL_ne hl', updL_ne hl', h]
def asH (l : List (Nat × Blk)) : Nat → Option Blk := updL (fun _ => none) (l.map fun p => (p.1, some p.2))
theorem asH_in {l : List (Nat × Blk)} {b : Nat} {x : Blk} (h : asH l b = some x) : ∃ y, (b, y) ∈ l := by
  apply Classical.byContradiction
  intro hn
  unfold asH at h
  rw [updL_ne] at h
  · cases h
  · intro y hy
    simp only [List.mem_map] at hy
    obtain ⟨p, hp, e⟩ := hy
    injection e with e1 e2
    subst e1
    exact hn ⟨p.2, hp⟩
def Env.cut (σ : Env) (n : Nat) : Env := ⟨fun b => if b < n then σ.a b else none, σ.z, fun b => if b < n then σ.v b else false, σ.m⟩
theorem cut_a {σ : Env} {n b : Nat} {q : Nat × Nat} (e : (σ.cut n).a b = some q) : σ.a b = some q := by
  have e : (if b < n then σ.a b else none) = some q := e
  split at e
  · exact e
  · cases e
theorem cut_v {σ : Env} {n b : Nat} (e : (σ.cut n).v b = true) : σ.v b = true := by
  have e : (if b < n then σ.v b else false) = true := e
  split at e
  · exact e
  · cases e
theorem cut_ext (σ : Env) (n : Nat) : (σ.cut n).Ext σ := ⟨fun _ _ e => cut_a e, fun _ _ e => e, fun _ e => cut_v e, Nat.le_refl _⟩
theorem VR.cut {σ : Env} {n : Nat} {a : SV} {v : Value} (h : VR σ a v) (hl : Lo n a) : VR (σ.cut n) a v := h.lo (σ' := σ.cut n) (fun b hb => ⟨if_pos hb, if_pos hb⟩) rfl (Nat.le_refl _) hl
structure GoodN (n0 : Nat) (σ : Env) (s : St) (w : World) (σ' : Env) (s' : St) (w' : World) : Prop where
  ext : σ.Ext σ'
  hr : HR σ' s' w'
  keep : Keep σ s w w'
  own : ∀ b x r κ, s'.H b = some x → σ'.a b = some (r, κ) → w.heap.size ≤ r ∨ ∃ b0 x0 κ0, s.H b0 = some x0 ∧ σ.a b0 = some (r, κ0)
  nx : s.nxt ≤ s'.nxt
  old : ∀ b, b < n0 → σ'.a b = σ.a b ∧ σ'.v b = σ.v b
  zn : ∀ r l, σ'.z r = some l → σ.z r = none → w.heap.size ≤ r ∨ ∃ b x κ, s.H b = some x ∧ σ.a b = some (r, κ)
theorem Good.toN {σ σ' : Env} {s s' : St} {w w' : World} (h : Good σ s w σ' s' w') {n0 : Nat} (hn : n0 ≤ s.nxt) : GoodN n0 σ s w σ' s' w' := ⟨h.ext, h.hr, h.keep, h.own, h.nx, fun b hb => h.old b (by omega), h.zn⟩
theorem GoodN.good {σ σ' : Env} {s s' : St} {w w' : World} (h : GoodN s.nxt σ s w σ' s' w') : Good σ s w σ' s' w' := ⟨h.ext, h.hr, h.keep, h.own, h.nx, h.old, h.zn⟩
theorem GoodN.trans {n0 : Nat} {σ σ1 σ2 : Env} {s s1 s2 : St} {w w1 w2 : World} (h : GoodN n0 σ s w σ1 s1 w1) (k : GoodN n0 σ1 s1 w1 σ2 s2 w2) : GoodN n0 σ s w σ2 s2 w2 := by
  refine ⟨h.ext.trans k.ext, k.hr, ⟨k.keep.os.trans h.keep.os, k.keep.tape.trans h.keep.tape, k.keep.output.trans h.keep.output, Nat.le_trans h.keep.size k.keep.size, ?_⟩, ?_, Nat.le_trans h.nx k.nx, fun b hb => ⟨((k.old b hb).1).trans (h.old b hb).1, ((k.old b hb).2).trans (h.old b hb).2⟩, ?_⟩
  · intro i hi hn
    refine (k.keep.same i (Nat.lt_of_lt_of_le hi h.keep.size) ?_).trans (h.keep.same i hi hn)
    intro b x κ hx he
    rcases h.own b x i κ hx he with h1 | ⟨b0, x0, κ0, h1, h2⟩
    · omega
    · exact hn b0 x0 κ0 h1 h2
  · intro b x r κ hx he
    rcases k.own b x r κ hx he with h1 | ⟨b1, x1, κ1, h1, h2⟩
    · exact .inl (Nat.le_trans h.keep.size h1)
    · exact h.own b1 x1 r κ1 h1 h2
  · intro r l h2 h0
    cases h1 : σ1.z r with
    | some l1 => exact h.zn r l1 h1 h0
    | none =>
      rcases k.zn r l h2 h1 with h3 | ⟨b, x, κ, h3, h4⟩
      · exact .inl (Nat.le_trans h.keep.size h3)
      · exact h.own b x r κ h3 h4
theorem HR.bump {σ : Env} {s : St} {w : World} (h : HR σ s w) {N : Nat} (hn : s.nxt ≤ N) : HR σ ⟨s.H, N⟩ w := h.fewer (s2 := ⟨s.H, N⟩) (fun _ _ e => e) hn
def LoB (n : Nat) : Blk → Prop
  | .row _ _ cells => Los n cells
theorem LoB.mono {n m : Nat} (h : n ≤ m) {k : Blk} (hk : LoB n k) : LoB m k := by cases k; exact Los.mono h hk
theorem HR.loB {σ : Env} {s : St} {w : World} (h : HR σ s w) {b : Nat} {k : Blk} (e : s.H b = some k) : b < s.nxt ∧ LoB s.nxt k := by
  refine ⟨?_, ?_⟩
  · rcases Nat.lt_or_ge b s.nxt with h1 | h1
    · exact h1
    · rw [h.hnone h1] at e; cases e
  · rcases h.blk b k e with ⟨_, e', z', rfl⟩ | ⟨r, κ, o, _, _, h3⟩
    · exact .nil
    · cases k with
      | row e' z' cells =>
        obtain ⟨c, xs, lo, hi, _, hx, _⟩ := h3
        exact hx.toLos h.fresh
theorem VRs.cut {σ : Env} {n : Nat} {a : List SV} {v : List Value} (h : VRs σ a v) (hl : Los n a) : VRs (σ.cut n) a v := h.los (σ' := σ.cut n) (fun b hb => ⟨if_pos hb, if_pos hb⟩) rfl (Nat.le_refl _) hl
theorem HR.sub {σ : Env} {H A : Nat → Option Blk} {N n : Nat} {w : World} (hh : HR σ ⟨H, N⟩ w) (hA : ∀ b x, A b = some x → H b = some x ∧ b < n ∧ LoB n x) : HR (σ.cut n) ⟨A, n⟩ w := by
  have ca : ∀ b q, (σ.cut n).a b = some q → σ.a b = some q := (cut_ext σ n).a
  refine ⟨fun b k e => ?_, fun b hv => ?_, fun b b' k k' r κ κ' e e' a a' => hh.inj b b' k k' r κ κ' (hA b k e).1 (hA b' k' e').1 (ca _ _ a) (ca _ _ a'), fun b k r κ e a => hh.apart b k r κ (hA b k e).1 (ca _ _ a), hh.frz, fun b hb => ⟨if_neg (by dsimp only at hb; omega), if_neg (by dsimp only at hb; omega)⟩, fun b r κ a => hh.lt b r κ (ca _ _ a), hh.m⟩
  · obtain ⟨h1, h2, h3⟩ := hA b k e
    rcases hh.blk b k h1 with ⟨q1, q2⟩ | ⟨r, κ, o, q1, q2, q3⟩
    · exact .inl ⟨by show (if b < n then σ.v b else false) = true; rw [if_pos h2]; exact q1, q2⟩
    · refine .inr ⟨r, κ, o, by show (if b < n then σ.a b else none) = _; rw [if_pos h2]; exact q1, q2, ?_⟩
      cases k with
      | row e' z' cells =>
        obtain ⟨c, xs, lo, hi, p1, p2, p3⟩ := q3
        exact ⟨c, xs, lo, hi, p1, p2.cut h3, p3⟩
  · have hv : (if b < n then σ.v b else false) = true := hv
    split at hv
    · rename_i hb
      show (if b < n then σ.a b else none) = none
      rw [if_pos hb]
      exact hh.virt b hv
    · cases hv
def Env.mrg (σ σ1 : Env) (n n' : Nat) : Env := ⟨fun b => if n ≤ b ∧ b < n' then σ1.a b else σ.a b, σ1.z, fun b => if n ≤ b ∧ b < n' then σ1.v b else σ.v b, σ1.m⟩
theorem frame {σ σ1 : Env} {H A : Nat → Option Blk} {N n n' n0 : Nat} {w w' : World} {ch : Ch} (hh : HR σ ⟨H, N⟩ w) (hA : ∀ b x, A b = some x → H b = some x ∧ b < n ∧ LoB n x) (h0 : n0 ≤ n) (hnn : n ≤ n') (hN : n' ≤ N) (hnew : ∀ b, n ≤ b → b < n' → σ.a b = none ∧ σ.v b = false)
    (hc : ∀ b x, (b, x) ∈ ch → A b ≠ none ∨ (n ≤ b ∧ b < n')) (g : Good (σ.cut n) ⟨A, n⟩ w σ1 ⟨updL A ch, n'⟩ w') : σ1.Ext (σ.mrg σ1 n n') ∧ GoodN n0 σ ⟨H, N⟩ w (σ.mrg σ1 n n') ⟨updL H ch, N⟩ w' := by
  have lowa : ∀ b, b < n → σ1.a b = σ.a b := fun b hb => ((g.old b hb).1).trans (if_pos hb)
  have lowv : ∀ b, b < n → σ1.v b = σ.v b := fun b hb => ((g.old b hb).2).trans (if_pos hb)
  have ma : ∀ b, b < n' → (σ.mrg σ1 n n').a b = σ1.a b := fun b hb => by
    show (if n ≤ b ∧ b < n' then σ1.a b else σ.a b) = _
    split
    · rfl
    · exact (lowa b (by omega)).symm
  have mv : ∀ b, b < n' → (σ.mrg σ1 n n').v b = σ1.v b := fun b hb => by
    show (if n ≤ b ∧ b < n' then σ1.v b else σ.v b) = _
    split
    · rfl
    · exact (lowv b (by omega)).symm
  have sa : ∀ b, ¬ (n ≤ b ∧ b < n') → (σ.mrg σ1 n n').a b = σ.a b := fun b hb => if_neg hb
  have sv : ∀ b, ¬ (n ≤ b ∧ b < n') → (σ.mrg σ1 n n').v b = σ.v b := fun b hb => if_neg hb
  have lt1 : ∀ b q, σ1.a b = some q → b < n' := fun b q e => by
    rcases Nat.lt_or_ge b n' with h | h
    · exact h
    · rw [(g.hr.fresh b h).1] at e; cases e
  have ltv : ∀ b, σ1.v b = true → b < n' := fun b e => by
    rcases Nat.lt_or_ge b n' with h | h
    · exact h
    · rw [(g.hr.fresh b h).2] at e; cases e
  have e1 : σ1.Ext (σ.mrg σ1 n n') := ⟨fun b q e => by rw [ma b (lt1 b q e)]; exact e, fun _ _ e => e, fun b e => by rw [mv b (ltv b e)]; exact e, Nat.le_refl _⟩
  have e0 : σ.Ext (σ.mrg σ1 n n') := ⟨fun b q e => by
    rw [sa b (fun h => by rw [(hnew b h.1 h.2).1] at e; cases e)]; exact e, fun r l e => g.ext.z r l e, fun b e => by
    rw [sv b (fun h => by rw [(hnew b h.1 h.2).2] at e; cases e)]; exact e, g.ext.m⟩
  -- rows of the part, and others
  have split_ : ∀ b k, updL H ch b = some k → (updL A ch b = some k ∧ b < n') ∨ (H b = some k ∧ A b = none ∧ ¬ (∃ x, (b, x) ∈ ch)) := by
    intro b k e
    by_cases hb : ∃ x, (b, x) ∈ ch
    · rw [updL_in (H' := A) hb] at e
      refine .inl ⟨e, ?_⟩
      obtain ⟨x, hx⟩ := hb
      rcases hc b x hx with h | h
      · cases hAb : A b with
        | none => exact absurd hAb h
        | some y => have := (hA b y hAb).2.1; omega
      · exact h.2
    · have hb' : ∀ x, (b, x) ∉ ch := fun x hx => hb ⟨x, hx⟩
      rw [updL_ne hb'] at e
      cases hAb : A b with
      | none => exact .inr ⟨e, rfl, hb⟩
      | some y =>
        obtain ⟨q1, q2, _⟩ := hA b y hAb
        have : y = k := by
          have q1 : H b = some y := q1
          rw [e] at q1; exact (Option.some.inj q1).symm
        subst this
        exact .inl ⟨by rw [updL_ne hb']; exact hAb, by omega⟩
  have other_a : ∀ b k, H b = some k → A b = none → ¬ (∃ x, (b, x) ∈ ch) → (σ.mrg σ1 n n').a b = σ.a b ∧ (σ.mrg σ1 n n').v b = σ.v b := by
    intro b k e hAb hb
    by_cases hr : n ≤ b ∧ b < n'
    · exfalso
      obtain ⟨p1, p2⟩ := hnew b hr.1 hr.2
      rcases hh.blk b k e with ⟨q1, _⟩ | ⟨r, κ, o, q1, _⟩
      · rw [p2] at q1; cases q1
      · rw [p1] at q1; cases q1
    · exact ⟨sa b hr, sv b hr⟩
  have owned : ∀ b k r κ, H b = some k → A b = none → σ.a b = some (r, κ) → ∀ b0 x0 κ0, A b0 = some x0 → (σ.cut n).a b0 ≠ some (r, κ0) := by
    intro b k r κ e hAb ha b0 x0 κ0 e0' ha0
    have h1 := (hA b0 x0 e0').1
    have := hh.inj b0 b x0 k r κ0 κ h1 e ((cut_ext σ n).a _ _ ha0) ha
    subst this
    rw [hAb] at e0'; cases e0'
  refine ⟨e1, ⟨e0, ⟨fun b k e => ?_, fun b hv => ?_, fun b b' k k' r κ κ' e e' a a' => ?_, fun b k r κ e a => ?_, g.hr.frz, fun b hb => ?_, fun b r κ a => ?_, g.hr.m⟩, ⟨g.keep.os, g.keep.tape, g.keep.output, g.keep.size, fun k hk hn => g.keep.same k hk (fun b x κ hx ha => hn b x κ (hA b x hx).1 ((cut_ext σ n).a _ _ ha))⟩, fun b x r κ e a => ?_, Nat.le_refl _, fun b hb => ?_, fun r l h1 h2 => ?_⟩⟩
  · rcases split_ b k e with ⟨h1, h2⟩ | ⟨h1, h2, h3⟩
    · rcases g.hr.blk b k h1 with ⟨q1, q2⟩ | ⟨r, κ, o, q1, q2, q3⟩
      · exact .inl ⟨by rw [mv b h2]; exact q1, q2⟩
      · exact .inr ⟨r, κ, o, by rw [ma b h2]; exact q1, q2, q3.ext e1⟩
    · obtain ⟨oa, ov⟩ := other_a b k h1 h2 h3
      rcases hh.blk b k h1 with ⟨q1, q2⟩ | ⟨r, κ, o, q1, q2, q3⟩
      · exact .inl ⟨by rw [ov]; exact q1, q2⟩
      · refine .inr ⟨r, κ, o, by rw [oa]; exact q1, ?_, q3.ext e0⟩
        rw [g.keep.same r (hh.lt b r κ q1) (owned b k r κ h1 h2 q1)]
        exact q2
  · rcases Nat.lt_or_ge b n' with h | h
    · rw [mv b h] at hv
      rw [ma b h]
      exact g.hr.virt b hv
    · rw [sv b (by omega)] at hv
      rw [sa b (by omega)]
      exact hh.virt b hv
  · have mixed : ∀ b b' k k' κ κ', updL A ch b = some k → b < n' → H b' = some k' → A b' = none → ¬ (∃ x, (b', x) ∈ ch) → (σ.mrg σ1 n n').a b = some (r, κ) → (σ.mrg σ1 n n').a b' = some (r, κ') → False := by
      intro b b' k k' κ κ' h1 h2 h3 h4 h5 a a'
      rw [ma b h2] at a
      rw [(other_a b' k' h3 h4 h5).1] at a'
      rcases g.own b k r κ h1 a with h6 | ⟨b0, x0, κ0, h6, h7⟩
      · have := hh.lt b' r κ' a'; omega
      · exact owned b' k' r κ' h3 h4 a' b0 x0 κ0 h6 h7
    rcases split_ b k e with ⟨h1, h2⟩ | ⟨h1, h2, h3⟩
    · rcases split_ b' k' e' with ⟨h1', h2'⟩ | ⟨h1', h2', h3'⟩
      · rw [ma b h2] at a
        rw [ma b' h2'] at a'
        exact g.hr.inj b b' k k' r κ κ' h1 h1' a a'
      · exact (mixed b b' k k' κ κ' h1 h2 h1' h2' h3' a a').elim
    · rcases split_ b' k' e' with ⟨h1', h2'⟩ | ⟨h1', h2', h3'⟩
      · exact (mixed b' b k' k κ' κ h1' h2' h1 h2 h3 a' a).elim
      · rw [(other_a b k h1 h2 h3).1] at a
        rw [(other_a b' k' h1' h2' h3').1] at a'
        exact hh.inj b b' k k' r κ κ' h1 h1' a a'
  · show σ1.z r = none
    rcases split_ b k e with ⟨h1, h2⟩ | ⟨h1, h2, h3⟩
    · rw [ma b h2] at a
      exact g.hr.apart b k r κ h1 a
    · rw [(other_a b k h1 h2 h3).1] at a
      cases hz : σ1.z r with
      | none => rfl
      | some l =>
        exfalso
        rcases g.zn r l hz (hh.apart b k r κ h1 a) with h4 | ⟨b0, x0, κ0, h4, h5⟩
        · have := hh.lt b r κ a; omega
        · exact owned b k r κ h1 h2 a b0 x0 κ0 h4 h5
  · have hb : N ≤ b := hb
    rw [sa b (by omega), sv b (by omega)]
    exact hh.fresh b hb
  · by_cases hr : n ≤ b ∧ b < n'
    · rw [ma b hr.2] at a
      exact g.hr.lt b r κ a
    · rw [sa b hr] at a
      exact Nat.lt_of_lt_of_le (hh.lt b r κ a) g.keep.size
  · rcases split_ b x e with ⟨h1, h2⟩ | ⟨h1, h2, h3⟩
    · rw [ma b h2] at a
      rcases g.own b x r κ h1 a with h4 | ⟨b0, x0, κ0, h4, h5⟩
      · exact .inl h4
      · exact .inr ⟨b0, x0, κ0, (hA b0 x0 h4).1, (cut_ext σ n).a _ _ h5⟩
    · rw [(other_a b x h1 h2 h3).1] at a
      exact .inr ⟨b, x, κ, h1, a⟩
  · exact ⟨sa b (by omega), sv b (by omega)⟩
  · rcases g.zn r l h1 h2 with h3 | ⟨b0, x0, κ0, h3, h4⟩
    · exact .inl h3
    · exact .inr ⟨b0, x0, κ0, (hA b0 x0 h3).1, (cut_ext σ n).a _ _ h4⟩
theorem mrg_same {σ σ1 : Env} {n n' b : Nat} (h : ¬ (n ≤ b ∧ b < n')) : (σ.mrg σ1 n n').a b = σ.a b ∧ (σ.mrg σ1 n n').v b = σ.v b := ⟨if_neg h, if_neg h⟩
end Go.Sy
end
section
namespace Go.Sy
open Go
set_option linter.unusedVariables false
set_option linter.unusedSimpArgs false
structure Fc where
  d : Option Nat
  v : SV
  all : Bool
  rd : List Nat
  ch : Ch
  n : Nat
  n' : Nat
def Fc.dom (r : Fc) (b : Nat) : Prop := r.all = true ∨ b ∈ r.rd
def Fc.wr (r : Fc) (b : Nat) : Prop := ∃ x, (b, x) ∈ r.ch
def fT : List Fc → Nat → (Nat → Bool) → Tm → Tm
  | [], _, _, T => T
  | r :: l, k, S, T => fT l (k + 1) S (if S k then putT T r.d r.v else T)
def fH : List Fc → Nat → (Nat → Bool) → (Nat → Option Blk) → (Nat → Option Blk)
  | [], _, _, H => H
  | r :: l, k, S, H => fH l (k + 1) S (if S k then updL H r.ch else H)
theorem fT_congr {t : Nat} : ∀ (l : List Fc) (k : Nat) (S S' : Nat → Bool) (T T' : Tm), (∀ i r, l[i]? = some r → r.d = some t → S (k + i) = S' (k + i)) → T.get t = T'.get t → (fT l k S T).get t = (fT l k S' T').get t
  | [], k, S, S', T, T', _, h => h
  | r :: l, k, S, S', T, T', hS, h => by
    simp only [fT]
    refine fT_congr l (k + 1) S S' _ _ (fun i q hq hd => ?_) ?_
    · have := hS (i + 1) q (by simpa using hq) hd
      rwa [show k + (i + 1) = k + 1 + i from by omega] at this
    · by_cases hd : r.d = some t
      · have := hS 0 r rfl hd
        rw [Nat.add_zero] at this
        rw [this]
        split
        · rw [putT_get, putT_get, hd]; simp
        · exact h
      · have e : ∀ (b : Bool) (U : Tm), (if b then putT U r.d r.v else U).get t = U.get t := by
          intro b U
          split
          · rw [putT_get, if_neg hd]
          · rfl
        rw [e, e]; exact h
theorem fT_none {t : Nat} : ∀ (l : List Fc) (k : Nat) (S : Nat → Bool) (T : Tm), (∀ i r, l[i]? = some r → S (k + i) = true → r.d ≠ some t) → (fT l k S T).get t = T.get t
  | [], k, S, T, _ => rfl
  | r :: l, k, S, T, hS => by
    simp only [fT]
    rw [fT_none l (k + 1) S _ (fun i q hq hs => hS (i + 1) q (by simpa using hq) (by rwa [show k + (i + 1) = k + 1 + i from by omega]))]
    split
    · rename_i hk
      rw [putT_get, if_neg (hS 0 r rfl (by simpa using hk))]
    · rfl
theorem fT_last {t : Nat} : ∀ (l : List Fc) (k j : Nat) (S : Nat → Bool) (T : Tm) (r : Fc), l[j]? = some r → S (k + j) = true → r.d = some t → (∀ i q, j < i → l[i]? = some q → S (k + i) = true → q.d ≠ some t) → (fT l k S T).get t = some r.v
  | [], k, j, S, T, r, h, _, _, _ => by simp at h
  | x :: l, k, 0, S, T, r, h, hs, hd, hn => by
    simp at h; subst h
    simp only [fT]
    rw [fT_none l (k + 1) S _ (fun i q hq hs' => hn (i + 1) q (by omega) (by simpa using hq) (by rwa [show k + (i + 1) = k + 1 + i from by omega]))]
    rw [if_pos (by simpa using hs), putT_get, if_pos hd]
  | x :: l, k, j + 1, S, T, r, h, hs, hd, hn => by
    simp only [fT]
    exact fT_last l (k + 1) j S _ r (by simpa using h) (by rwa [show k + 1 + j = k + (j + 1) from by omega]) hd (fun i q hi hq hs' => hn (i + 1) q (by omega) (by simpa using hq) (by rwa [show k + (i + 1) = k + 1 + i from by omega]))
theorem fT_src {t : Nat} {v : SV} : ∀ (l : List Fc) (k : Nat) (S : Nat → Bool) (T : Tm), (fT l k S T).get t = some v → T.get t = some v ∨ ∃ i r, l[i]? = some r ∧ S (k + i) = true ∧ r.d = some t ∧ r.v = v
  | [], k, S, T, h => .inl h
  | r :: l, k, S, T, h => by
    simp only [fT] at h
    rcases fT_src l (k + 1) S _ h with h1 | ⟨i, q, h1, h2, h3⟩
    · split at h1
      · rename_i hk
        rw [putT_get] at h1
        split at h1
        · rename_i hd; exact .inr ⟨0, r, rfl, hk, hd, Option.some.inj h1⟩
        · exact .inl h1
      · exact .inl h1
    · exact .inr ⟨i + 1, q, by simpa using h1, by rwa [show k + (i + 1) = k + 1 + i from by omega], h3⟩
theorem fH_congr {b : Nat} : ∀ (l : List Fc) (k : Nat) (S S' : Nat → Bool) (H H' : Nat → Option Blk), (∀ i r, l[i]? = some r → r.wr b → S (k + i) = S' (k + i)) → H b = H' b → fH l k S H b = fH l k S' H' b
  | [], k, S, S', H, H', _, h => h
  | r :: l, k, S, S', H, H', hS, h => by
    simp only [fH]
    refine fH_congr l (k + 1) S S' _ _ (fun i q hq hd => ?_) ?_
    · have := hS (i + 1) q (by simpa using hq) hd
      rwa [show k + (i + 1) = k + 1 + i from by omega] at this
    · by_cases hw : r.wr b
      · have := hS 0 r rfl hw
        rw [Nat.add_zero] at this
        rw [this]
        split
        · exact updL_congr h
        · exact h
      · have e : ∀ (c : Bool) (U : Nat → Option Blk), (if c then updL U r.ch else U) b = U b := by
          intro c U
          split
          · exact updL_ne fun x hx => hw ⟨x, hx⟩
          · rfl
        rw [e, e]; exact h
theorem fH_none {b : Nat} : ∀ (l : List Fc) (k : Nat) (S : Nat → Bool) (H : Nat → Option Blk), (∀ i r, l[i]? = some r → S (k + i) = true → ¬ r.wr b) → fH l k S H b = H b
  | [], k, S, H, _ => rfl
  | r :: l, k, S, H, hS => by
    simp only [fH]
    rw [fH_none l (k + 1) S _ (fun i q hq hs => hS (i + 1) q (by simpa using hq) (by rwa [show k + (i + 1) = k + 1 + i from by omega]))]
    split
    · rename_i hk
      exact updL_ne fun x hx => hS 0 r rfl (by simpa using hk) ⟨x, hx⟩
    · rfl
theorem fH_last {b : Nat} : ∀ (l : List Fc) (k j : Nat) (S : Nat → Bool) (H : Nat → Option Blk) (r : Fc), l[j]? = some r → S (k + j) = true → r.wr b → (∀ i q, j < i → l[i]? = some q → S (k + i) = true → ¬ q.wr b) → fH l k S H b = updL (fun _ => none) r.ch b
  | [], k, j, S, H, r, h, _, _, _ => by simp at h
  | x :: l, k, 0, S, H, r, h, hs, hd, hn => by
    simp at h; subst h
    simp only [fH]
    rw [fH_none l (k + 1) S _ (fun i q hq hs' => hn (i + 1) q (by omega) (by simpa using hq) (by rwa [show k + (i + 1) = k + 1 + i from by omega]))]
    rw [if_pos (by simpa using hs)]
    exact updL_in hd
  | x :: l, k, j + 1, S, H, r, h, hs, hd, hn => by
    simp only [fH]
    exact fH_last l (k + 1) j S _ r (by simpa using h) (by rwa [show k + 1 + j = k + (j + 1) from by omega]) hd (fun i q hi hq hs' => hn (i + 1) q (by omega) (by simpa using hq) (by rwa [show k + (i + 1) = k + 1 + i from by omega]))
theorem fH_src {b : Nat} {x : Blk} : ∀ (l : List Fc) (k : Nat) (S : Nat → Bool) (H : Nat → Option Blk), fH l k S H b = some x → H b = some x ∨ ∃ i r, l[i]? = some r ∧ S (k + i) = true ∧ r.wr b ∧ updL (fun _ => none) r.ch b = some x
  | [], k, S, H, h => .inl h
  | r :: l, k, S, H, h => by
    simp only [fH] at h
    rcases fH_src l (k + 1) S _ h with h1 | ⟨i, q, h1, h2, h3⟩
    · split at h1
      · rename_i hk
        by_cases hw : r.wr b
        · rw [updL_in (H' := fun _ => none) hw] at h1
          exact .inr ⟨0, r, rfl, hk, hw, h1⟩
        · rw [updL_ne fun x hx => hw ⟨x, hx⟩] at h1
          exact .inl h1
      · exact .inl h1
    · exact .inr ⟨i + 1, q, by simpa using h1, by rwa [show k + (i + 1) = k + 1 + i from by omega], h3⟩
structure FStep (P : Program) (T : Tm) (H : Nat → Option Blk) (o : AOp) (r : Fc) : Prop where
  d : r.d = o.d
  le : r.n ≤ r.n'
  run : (wants T o.g = some false ∧ r.v = .tup [] ∧ r.ch = []) ∨ (wants T o.g = some true ∧ o.ai.ok = true ∧ ∃ A : Nat → Option Blk, (∀ b x, A b = some x → H b = some x ∧ r.dom b) ∧ SOp P o.ai T ⟨A, r.n⟩ r.v ⟨updL A r.ch, r.n'⟩ ∧ ∀ b x, (b, x) ∈ r.ch → A b ≠ none ∨ (r.n ≤ b ∧ b < r.n'))
inductive FReg (P : Program) : List AOp → Tm → St → List Fc → Tm → St → Prop
  | nil {T : Tm} {s : St} : FReg P [] T s [] T s
  | cons {o : AOp} {l : List AOp} {T T' : Tm} {s s' : St} {r : Fc} {rs : List Fc} (h1 : FStep P T s.H o r) (hn : r.n = s.nxt) (h : FReg P l (putT T r.d r.v) ⟨updL s.H r.ch, r.n'⟩ rs T' s') : FReg P (o :: l) T s (r :: rs) T' s'
theorem freg_app {P : Program} {l m : List AOp} {T T1 T2 : Tm} {s s1 s2 : St} {rs ro : List Fc} (h : FReg P l T s rs T1 s1) (k : FReg P m T1 s1 ro T2 s2) : FReg P (l ++ m) T s (rs ++ ro) T2 s2 := by
  induction h with
  | nil => exact k
  | cons h1 hn h ih => exact .cons h1 hn (ih k)
theorem freg_ns {P : Program} {l : List AOp} {T T' : Tm} {s s' : St} {rs : List Fc} (h : FReg P l T s rs T' s') : s.nxt ≤ s'.nxt ∧ (∀ (j : Nat) (r : Fc), rs[j]? = some r → s.nxt ≤ r.n ∧ r.n ≤ r.n' ∧ r.n' ≤ s'.nxt) ∧ ∀ (i j : Nat) (q r : Fc), i < j → rs[i]? = some q → rs[j]? = some r → q.n' ≤ r.n := by
  induction h with
  | nil => exact ⟨Nat.le_refl _, fun j r h => by simp at h, fun i j q r _ h => by simp at h⟩
  | @cons o l T T' s s' r rs h1 hn h ih =>
    obtain ⟨i1, i2, i3⟩ := ih
    dsimp only at i1 i2
    have := h1.le
    refine ⟨by omega, fun j q hq => ?_, fun i j q q' hij hq hq' => ?_⟩
    · cases j with
      | zero => simp at hq; subst hq; omega
      | succ j => have := i2 j q (by simpa using hq); omega
    · obtain ⟨j, rfl⟩ : ∃ k, j = k + 1 := ⟨j - 1, by omega⟩
      cases i with
      | zero =>
        simp at hq; subst hq
        have := i2 j q' (by simpa using hq')
        omega
      | succ i => exact i3 i j q q' (by omega) (by simpa using hq) (by simpa using hq')
theorem freg_at {P : Program} : ∀ {l : List AOp} {T T' : Tm} {s s' : St} {rs : List Fc}, FReg P l T s rs T' s' → ∀ (k : Nat) (S : Nat → Bool), (∀ i, S i = true) →
    rs.length = l.length ∧ fT rs k S T = T' ∧ fH rs k S s.H = s'.H ∧ ∀ (j : Nat) (o : AOp), l[j]? = some o → ∃ r, rs[j]? = some r ∧ FStep P (fT rs k (fun i => decide (i < k + j)) T) (fH rs k (fun i => decide (i < k + j)) s.H) o r := by
  intro l T T' s s' rs h
  have none_ : ∀ (rs : List Fc) (k : Nat) (T : Tm) (H : Nat → Option Blk), fT rs (k + 1) (fun i => decide (i < k)) T = T ∧ fH rs (k + 1) (fun i => decide (i < k)) H = H := by
    have gen : ∀ (rs : List Fc) (k m : Nat) (T : Tm) (H : Nat → Option Blk), k ≤ m → fT rs m (fun i => decide (i < k)) T = T ∧ fH rs m (fun i => decide (i < k)) H = H := by
      intro rs
      induction rs with
      | nil => intro k m T s _; exact ⟨rfl, rfl⟩
      | cons r rs ih =>
        intro k m T s hm
        simp only [fT, fH, decide_eq_true_eq]
        rw [if_neg (by omega), if_neg (by omega)]
        exact ih k (m + 1) T s (by omega)
    intro rs k T s
    exact gen rs k (k + 1) T s (by omega)
  induction h with
  | nil => intro k S hS; exact ⟨rfl, rfl, rfl, by simp⟩
  | @cons o l T T' s s' r rs h1 hn h ih =>
    intro k S hS
    obtain ⟨i1, i2, i3, i4⟩ := ih (k + 1) S hS
    refine ⟨by simp [i1], ?_, ?_, ?_⟩
    · simp only [fT, hS k, if_true]; exact i2
    · simp only [fH, hS k, if_true]; exact i3
    · intro j o' hj
      cases j with
      | zero =>
        simp at hj; subst hj
        refine ⟨r, rfl, ?_⟩
        simp only [fT, fH, Nat.add_zero, Nat.lt_irrefl, decide_false, Bool.false_eq_true, if_false]
        rw [(none_ rs k T s.H).1, (none_ rs k T s.H).2]
        exact h1
      | succ j =>
        obtain ⟨r', h1', h2⟩ := i4 j o' (by simpa using hj)
        refine ⟨r', by simpa using h1', ?_⟩
        simp only [fT, fH]
        rw [if_pos (by simp), if_pos (by simp)]
        rw [show k + (j + 1) = k + 1 + j from by omega]
        exact h2
def pairF (i : Nat) (x y : DOp) (q r : Fc) : Option (List (Nat × Nat)) := match y.bef.testBit i with
  | true => some []
  | false => match (match x.op.d with
      | none => true
      | some t => !((gT y.op.g ++ y.op.ai.tmps).contains t)) && (match y.op.d with
      | none => true
      | some t => !((gT x.op.g ++ x.op.ai.tmps).contains t) && !(x.op.d == some t)) with
    | false => none
    | true => match (r.all && !q.ch.isEmpty) || (q.all && !r.ch.isEmpty) with
      | true => none
      | false => some (q.ch.flatMap (fun p => (r.rd ++ r.ch.map (·.1)).map fun b => (p.1, b)) ++ r.ch.flatMap fun p => q.rd.map fun b => (p.1, b))
def pairsF (i : Nat) (x : DOp) (q : Fc) : List DOp → List Fc → Option (List (Nat × Nat))
  | y :: l, r :: rs => match pairF i x y q r with
    | none => none
    | some a => match pairsF i x q l rs with
      | none => none
      | some b => some (a ++ b)
  | [], [] => some []
  | _, _ => none
def okF : Nat → List DOp → List Fc → Option (List (Nat × Nat))
  | i, x :: l, q :: rs => match pairsF i x q l rs with
    | none => none
    | some a => match okF (i + 1) l rs with
      | none => none
      | some b => some (a ++ b)
  | _, [], [] => some []
  | _, _, _ => none
def AllNe : List (Nat × Nat) → Prop
  | [] => True
  | p :: l => p.1 ≠ p.2 ∧ AllNe l
theorem AllNe.mem : ∀ {l : List (Nat × Nat)}, AllNe l → ∀ p ∈ l, p.1 ≠ p.2
  | [], _, p, h => by cases h
  | q :: l, ⟨h1, h2⟩, p, h => by
    rcases List.mem_cons.1 h with rfl | h
    · exact h1
    · exact AllNe.mem h2 p h
structure PairP (i : Nat) (x y : DOp) (q r : Fc) : Prop where
  h : y.bef.testBit i = true ∨ ((∀ b, q.wr b → ¬ r.dom b ∧ ¬ r.wr b) ∧ (∀ b, r.wr b → ¬ q.dom b) ∧ (∀ t, x.op.d = some t → t ∉ gT y.op.g ++ y.op.ai.tmps) ∧ ∀ t, y.op.d = some t → t ∉ gT x.op.g ++ x.op.ai.tmps ∧ x.op.d ≠ some t)
theorem pairF_spec {i : Nat} {x y : DOp} {q r : Fc} {l : List (Nat × Nat)} (h : pairF i x y q r = some l) (hl : ∀ p ∈ l, p.1 ≠ p.2) : PairP i x y q r := by
  refine ⟨?_⟩
  unfold pairF at h
  split at h
  · rename_i hb; exact .inl hb
  · split at h
    · cases h
    · rename_i hT
      split at h
      · cases h
      · rename_i hall
        right
        obtain rfl := (Option.some.inj h).symm
        simp only [Bool.or_eq_false_iff, Bool.and_eq_false_iff, Bool.not_eq_false', List.isEmpty_iff] at hall
        rw [Bool.and_eq_true] at hT
        obtain ⟨p3, p4⟩ := hT
        refine ⟨fun b ⟨z, hz⟩ => ⟨?_, ?_⟩, fun b ⟨z, hz⟩ => ?_, fun t ht => ?_, fun t ht => ?_⟩
        · rintro (hA | hm)
          · rcases hall.1 with h1 | h1
            · rw [hA] at h1; cases h1
            · rw [h1] at hz; cases hz
          · refine hl (b, b) ?_ rfl
            simp only [List.mem_append, List.mem_flatMap, List.mem_map]
            exact .inl ⟨(b, z), hz, b, .inl hm, rfl⟩
        · rintro ⟨z', hz'⟩
          refine hl (b, b) ?_ rfl
          simp only [List.mem_append, List.mem_flatMap, List.mem_map]
          exact .inl ⟨(b, z), hz, b, .inr ⟨(b, z'), hz', rfl⟩, rfl⟩
        · rintro (hA | hm)
          · rcases hall.2 with h1 | h1
            · rw [hA] at h1; cases h1
            · rw [h1] at hz; cases hz
          · refine hl (b, b) ?_ rfl
            simp only [List.mem_append, List.mem_flatMap, List.mem_map]
            exact .inr ⟨(b, z), hz, b, hm, rfl⟩
        · rw [ht] at p3
          simpa using p3
        · rw [ht] at p4
          simp only [Bool.and_eq_true, Bool.not_eq_true', beq_eq_false_iff_ne] at p4
          exact ⟨by simpa using p4.1, p4.2⟩
theorem pairsF_spec {i : Nat} {x : DOp} {q : Fc} : ∀ (l : List DOp) (rs : List Fc) (m : List (Nat × Nat)), pairsF i x q l rs = some m → (∀ p ∈ m, p.1 ≠ p.2) → ∀ (j : Nat) (y : DOp) (r : Fc), l[j]? = some y → rs[j]? = some r → PairP i x y q r
  | [], rs, m, h, hm, j, y, r, hy, hr => by simp at hy
  | z :: l, [], m, h, hm, j, y, r, hy, hr => by simp at hr
  | z :: l, u :: rs, m, h, hm, j, y, r, hy, hr => by
    simp only [pairsF] at h
    split at h
    · cases h
    · rename_i a ha
      split at h
      · cases h
      · rename_i b hb
        obtain rfl := (Option.some.inj h).symm
        cases j with
        | zero => simp at hy hr; subst hy; subst hr; exact pairF_spec ha fun p hp => hm p (List.mem_append_left _ hp)
        | succ j => exact pairsF_spec l rs b hb (fun p hp => hm p (List.mem_append_right _ hp)) j y r (by simpa using hy) (by simpa using hr)
theorem okF_spec : ∀ (l : List DOp) (rs : List Fc) (k : Nat) (m : List (Nat × Nat)), okF k l rs = some m → (∀ p ∈ m, p.1 ≠ p.2) → ∀ (i j : Nat) (x y : DOp) (q r : Fc), i < j → l[i]? = some x → l[j]? = some y → rs[i]? = some q → rs[j]? = some r → PairP (k + i) x y q r
  | [], rs, k, m, h, hm, i, j, x, y, q, r, hij, hx, hy, hq, hr => by simp at hx
  | z :: l, [], k, m, h, hm, i, j, x, y, q, r, hij, hx, hy, hq, hr => by simp at hq
  | z :: l, u :: rs, k, m, h, hm, i, j, x, y, q, r, hij, hx, hy, hq, hr => by
    simp only [okF] at h
    split at h
    · cases h
    · rename_i a ha
      split at h
      · cases h
      · rename_i b hb
        obtain rfl := (Option.some.inj h).symm
        obtain ⟨j, rfl⟩ : ∃ m, j = m + 1 := ⟨j - 1, by omega⟩
        cases i with
        | zero =>
          simp at hx hq; subst hx; subst hq
          rw [Nat.add_zero]
          exact pairsF_spec l rs a ha (fun p hp => hm p (List.mem_append_left _ hp)) j y r (by simpa using hy) (by simpa using hr)
        | succ i =>
          have := okF_spec l rs (k + 1) b hb (fun p hp => hm p (List.mem_append_right _ hp)) i j x y q r (by omega) (by simpa using hx) (by simpa using hy) (by simpa using hq) (by simpa using hr)
          rwa [show k + 1 + i = k + (i + 1) from by omega] at this
structure DI3 (nt : Nat) (bef : List Nat) (n m m' n0 N : Nat) (rs : List Fc) (σ0 : Env) (T0 : Tm) (H0 : Nat → Option Blk) (a0 : Act) (w0 : World) (L : Array Bool) (σ : Env) (a : Act) (w : World) : Prop where
  sz : L.size = n
  t : TR σ (fT rs 0 (fun i => L.getD i false) T0) a
  nt : nt ≤ a.tmps.size
  df : a.defers = a0.defers
  good : GoodN n0 σ0 ⟨H0, N⟩ w0 σ ⟨fH rs 0 (fun i => L.getD i false) H0, N⟩ w
  down : ∀ j, L.getD j false = true → ∀ i, i < n → (bef.getD j 0).testBit i = true → L.getD i false = true
  lo : ∀ i, i < m → L.getD i false = true
  hi : ∀ i, m' ≤ i → L.getD i false = false
  free : ∀ j r, m ≤ j → j < m' → rs[j]? = some r → L.getD j false = false → ∀ b, r.n ≤ b → b < r.n' → σ.a b = none ∧ σ.v b = false
  lov : ∀ j r, m ≤ j → j < m' → rs[j]? = some r → L.getD j false = true → Lo r.n' r.v ∧ ∀ b, r.wr b → b < r.n' ∧ ∀ x, updL (fun _ => none) r.ch b = some x → LoB r.n' x
structure DA3 (P : Program) (nt : Nat) (ops : Array Oper) (bef : List Nat) (m m' n0 N : Nat) (T0 : Tm) (H0 : Nat → Option Blk) (rs : List Fc) : Prop where
  bp : BefP ops bef
  len : rs.length = ops.size
  dum : ∀ (j : Nat) (r : Fc), rs[j]? = some r → (r.d ≠ none ∨ r.ch ≠ []) → m ≤ j ∧ j < m'
  at_ : ∀ (j : Nat) (o : Oper), m ≤ j → j < m' → ops[j]? = some o → ∃ (r : Fc) (a : AOp), rs[j]? = some r ∧ compA P nt ops o = some a ∧ FStep P (fT rs 0 (fun i => decide (i < j)) T0) (fH rs 0 (fun i => decide (i < j)) H0) a r
  pair : ∀ (i j : Nat) (x y : Oper) (ax ay : AOp) (q r : Fc), m ≤ i → j < m' → i < j → ops[i]? = some x → ops[j]? = some y → compA P nt ops x = some ax → compA P nt ops y = some ay → rs[i]? = some q → rs[j]? = some r →
    (bef.getD j 0).testBit i = true ∨ ((∀ b, q.wr b → ¬ r.dom b ∧ ¬ r.wr b) ∧ (∀ b, r.wr b → ¬ q.dom b) ∧ (∀ t, q.d = some t → t ∉ gT ay.g ++ ay.ai.tmps) ∧ ∀ t, r.d = some t → t ∉ gT ax.g ++ ax.ai.tmps ∧ q.d ≠ some t)
  ns : ∀ (j : Nat) (r : Fc), m ≤ j → j < m' → rs[j]? = some r → n0 ≤ r.n ∧ r.n ≤ r.n' ∧ r.n' ≤ N
  mono : ∀ (i j : Nat) (q r : Fc), m ≤ i → j < m' → i < j → rs[i]? = some q → rs[j]? = some r → q.n' ≤ r.n
  t0 : ∀ t v, T0.get t = some v → Lo n0 v
  h0 : ∀ b x, H0 b = some x → b < n0 ∧ LoB n0 x
section
variable {P : Program} {nt m m' n0 N : Nat} {ops : Array Oper} {bef : List Nat} {T0 : Tm} {H0 : Nat → Option Blk} {rs : List Fc} {σ0 σ : Env} {a0 a : Act} {w0 w : World} {L : Array Bool}
theorem DI3.step (hA : DA3 P nt ops bef m m' n0 N T0 H0 rs) {Q : Exit → Act → World → Prop} (hD : DI3 nt bef ops.size m m' n0 N rs σ0 T0 H0 a0 w0 L σ a w) {j : Nat} (hj : j ∈ Region.ready .any ops L) (hjm : j < m') {K : Act → World → Prop} (hK : ∀ σ' a' w', DI3 nt bef ops.size m m' n0 N rs σ0 T0 H0 a0 w0 (L.setIfInBounds j true) σ' a' w' → K a' w') : wpOp P ops Q j K a w := by
  obtain ⟨hun, o, ho, hedge⟩ := mem_ready.1 hj
  have hjn : j < ops.size := (Array.getElem?_eq_some_iff.1 ho).1
  have hjs : j < L.size := by rw [hD.sz]; exact hjn
  have hun : L.getD j false = false := by
    rw [Array.getD_eq_getD_getElem?, getElem?_pos L j hjs] at hun ⊢
    exact hun
  have hmj : m ≤ j := by
    rcases Nat.lt_or_ge j m with h | h
    · rw [hD.lo j h] at hun; cases hun
    · exact h
  obtain ⟨r, ao, hr, hao, hst⟩ := hA.at_ j o hmj hjm ho
  obtain ⟨hn1, hn2, hn3⟩ := hA.ns j r hmj hjm hr
  have hpre : ∀ i, i < ops.size → (bef.getD j 0).testBit i = true → L.getD i false = true := by
    intro i hi hb
    obtain ⟨e, h1, h2, h3⟩ := hA.bp.clos j i o ho hi hb
    rcases h3 with rfl | h3
    · exact hedge e h1 h2
    · exact hD.down e.on (hedge e h1 h2) i hi h3
  obtain ⟨hgd, hai, hd, hdn⟩ := compA_parts hao
  have hrd : r.d = o.dst := by rw [hst.d, ← hd]
  have hdn' : ∀ k, o.dst = some k → k < a.tmps.size := fun k hk => Nat.lt_of_lt_of_le (hdn k hk) hD.nt
  have idx : ∀ {i : Nat} {q : Fc}, rs[i]? = some q → (q.d ≠ none ∨ q.ch ≠ []) → i < ops.size ∧ m ≤ i ∧ i < m' ∧ ∃ x ax, ops[i]? = some x ∧ compA P nt ops x = some ax := by
    intro i q hq hdl
    have hi : i < ops.size := by rw [← hA.len]; exact (List.getElem?_eq_some_iff.1 hq).1
    obtain ⟨w1, w2⟩ := hA.dum i q hq hdl
    obtain ⟨q', ax, h1, h2, h3⟩ := hA.at_ i ops[i] w1 w2 (by simp [hi])
    exact ⟨hi, w1, w2, ops[i], ax, by simp [hi], h2⟩
  have wrne : ∀ {q : Fc} {b : Nat}, q.wr b → q.ch ≠ [] := by
    rintro q b ⟨x, hx⟩ e
    rw [e] at hx; cases hx
  -- later ones that were carried out do not hang on this one
  have later : ∀ {i : Nat} {q : Fc}, rs[i]? = some q → j < i → L.getD i false = true → (bef.getD i 0).testBit j = false := by
    intro i q hq hji hL
    cases hb : (bef.getD i 0).testBit j with
    | false => rfl
    | true => rw [hD.down i hL j hjn hb] at hun; cases hun
  have before : ∀ {i : Nat} {q : Fc} {x : Oper} {ax : AOp}, rs[i]? = some q → ops[i]? = some x → compA P nt ops x = some ax → m ≤ i → i < j → i < ops.size → L.getD i false = true ∨ ((∀ b, q.wr b → ¬ r.dom b ∧ ¬ r.wr b) ∧ (∀ b, r.wr b → ¬ q.dom b) ∧ (∀ t, q.d = some t → t ∉ gT ao.g ++ ao.ai.tmps)) := by
    intro i q x ax hq hx hax hmi hij hi
    rcases hA.pair i j x o ax ao q r hmi hjm hij hx ho hax hao hq hr with hb | ⟨h1, h2, h3, _⟩
    · exact .inl (hpre i hi hb)
    · exact .inr ⟨h1, h2, h3⟩
  have behind : ∀ {i : Nat} {q : Fc} {x : Oper} {ax : AOp}, rs[i]? = some q → ops[i]? = some x → compA P nt ops x = some ax → i < m' → j < i → L.getD i false = true → (∀ b, r.wr b → ¬ q.dom b ∧ ¬ q.wr b) ∧ (∀ b, q.wr b → ¬ r.dom b) ∧ ∀ t, q.d = some t → t ∉ gT ao.g ++ ao.ai.tmps ∧ r.d ≠ some t := by
    intro i q x ax hq hx hax him hji hL
    rcases hA.pair j i o x ao ax r q hmj him hji ho hx hao hax hr hq with hb | ⟨h1, h2, _, h4⟩
    · rw [later hq hji hL] at hb; cases hb
    · exact ⟨h1, h2, h4⟩
  have same : ∀ t, t ∈ gT ao.g ++ ao.ai.tmps → (fT rs 0 (fun i => decide (i < j)) T0).get t = (fT rs 0 (fun i => L.getD i false) T0).get t := by
    intro t ht
    refine fT_congr rs 0 _ _ T0 T0 (fun i q hq hqd => ?_) rfl
    simp only [Nat.zero_add]
    obtain ⟨hi, hmi, him, x, ax, hx, hax⟩ := idx hq (.inl (by rw [hqd]; simp))
    rcases Nat.lt_trichotomy i j with h | h | h
    · rw [decide_eq_true h]
      rcases before hq hx hax hmi h hi with h1 | ⟨_, _, h3⟩
      · exact h1.symm
      · exact absurd ht (h3 t hqd)
    · subst h; rw [hun]; simp
    · rw [decide_eq_false (by omega)]
      cases hL : L.getD i false with
      | false => rfl
      | true => exact absurd ht ((behind hq hx hax him h hL).2.2 t hqd).1
  have hor : OR σ (fT rs 0 (fun i => decide (i < j)) T0) (gT ao.g ++ ao.ai.tmps) a := fun t ht v hv => hD.t t v (by rw [← same t ht]; exact hv)
  have hlo : ∀ t, t ∈ gT ao.g ++ ao.ai.tmps → ∀ v, (fT rs 0 (fun i => decide (i < j)) T0).get t = some v → Lo r.n v := by
    intro t ht v hv
    rcases fT_src rs 0 _ T0 hv with h1 | ⟨i, q, hq, hs, hqd, rfl⟩
    · exact (hA.t0 t v h1).mono hn1
    · rw [Nat.zero_add, decide_eq_true_eq] at hs
      obtain ⟨hi, hmi, him, x, ax, hx, hax⟩ := idx hq (.inl (by rw [hqd]; simp))
      rcases before hq hx hax hmi hs hi with h1 | ⟨_, _, h3⟩
      · exact (hD.lov i q hmi him hq h1).1.mono (hA.mono i j q r hmi hjm hs hq hr)
      · exact absurd ht (h3 t hqd)
  have hcut : OR (σ.cut r.n) (fT rs 0 (fun i => decide (i < j)) T0) (gT ao.g ++ ao.ai.tmps) a := fun t ht v hv => ⟨(hor t ht v hv).1, (hor t ht v hv).2.cut (hlo t ht v hv)⟩
  have sameH : ∀ b, r.dom b → fH rs 0 (fun i => decide (i < j)) H0 b = fH rs 0 (fun i => L.getD i false) H0 b := by
    intro b hb
    refine fH_congr rs 0 _ _ H0 H0 (fun i q hq hqw => ?_) rfl
    simp only [Nat.zero_add]
    obtain ⟨hi, hmi, him, x, ax, hx, hax⟩ := idx hq (.inr (wrne hqw))
    rcases Nat.lt_trichotomy i j with h | h | h
    · rw [decide_eq_true h]
      rcases before hq hx hax hmi h hi with h1 | ⟨h1, _, _⟩
      · exact h1.symm
      · exact absurd hb (h1 b hqw).1
    · subst h; rw [hun]; simp
    · rw [decide_eq_false (by omega)]
      cases hL : L.getD i false with
      | false => rfl
      | true => exact absurd hb ((behind hq hx hax him h hL).2.1 b hqw)
  have lowH : ∀ b x, fH rs 0 (fun i => decide (i < j)) H0 b = some x → r.dom b → b < r.n ∧ LoB r.n x := by
    intro b x e hb
    rcases fH_src rs 0 _ H0 e with h1 | ⟨i, q, hq, hs, hqw, hqx⟩
    · obtain ⟨q1, q2⟩ := hA.h0 b x h1
      exact ⟨by omega, q2.mono hn1⟩
    · rw [Nat.zero_add, decide_eq_true_eq] at hs
      obtain ⟨hi, hmi, him, y, ay, hy, hay⟩ := idx hq (.inr (wrne hqw))
      rcases before hq hy hay hmi hs hi with h1 | ⟨h1, _, _⟩
      · obtain ⟨_, h2⟩ := hD.lov i q hmi him hq h1
        obtain ⟨h3, h4⟩ := h2 b hqw
        have := hA.mono i j q r hmi hjm hs hq hr
        exact ⟨by omega, (h4 x hqx).mono this⟩
      · exact absurd hb (h1 b hqw).1
  -- behind it
  have setT : ∀ {σ' : Env} {x : Value}, σ.Ext σ' → VR σ' r.v x → TR σ' (fT rs 0 (fun i => (L.setIfInBounds j true).getD i false) T0) (a.put o.dst x) := by
    intro σ' x he hv
    have hput := (hD.t.ext he).put (d := o.dst) hdn' hv
    intro t u hu
    refine hput t u ?_
    rw [putT_get]
    by_cases hdt : o.dst = some t
    · rw [if_pos hdt]
      rw [← hu]
      refine (fT_last rs 0 j _ T0 r hr (by rw [Nat.zero_add, set_getD hjs, if_pos rfl]) (by rw [hrd]; exact hdt) (fun i q hi hq hs hqd => ?_)).symm
      rw [Nat.zero_add, set_getD hjs, if_neg (by omega)] at hs
      obtain ⟨hi', _, him, x', ax, hx, hax⟩ := idx hq (.inl (by rw [hqd]; simp))
      exact ((behind hq hx hax him hi hs).2.2 t hqd).2 (by rw [hrd]; exact hdt)
    · rw [if_neg hdt, ← hu]
      refine fT_congr rs 0 _ _ T0 T0 (fun i q hq hqd => ?_) rfl
      rw [Nat.zero_add, set_getD hjs]
      by_cases hij : i = j
      · subst hij
        rw [hr] at hq
        obtain rfl := Option.some.inj hq
        exact absurd (by rw [← hrd]; exact hqd) hdt
      · rw [if_neg hij]
  have setH : updL (fH rs 0 (fun i => L.getD i false) H0) r.ch = fH rs 0 (fun i => (L.setIfInBounds j true).getD i false) H0 := by
    funext b
    by_cases hw : r.wr b
    · rw [updL_in (H' := fun _ => none) hw]
      refine (fH_last rs 0 j _ H0 r hr (by rw [Nat.zero_add, set_getD hjs, if_pos rfl]) hw (fun i q hi hq hs hqw => ?_)).symm
      rw [Nat.zero_add, set_getD hjs, if_neg (by omega)] at hs
      obtain ⟨hi', _, him, x', ax, hx, hax⟩ := idx hq (.inr (wrne hqw))
      exact ((behind hq hx hax him hi hs).1 b hw).2 hqw
    · rw [updL_ne fun x hx => hw ⟨x, hx⟩]
      refine fH_congr rs 0 _ _ H0 H0 (fun i q hq hqw => ?_) rfl
      rw [Nat.zero_add, set_getD hjs]
      by_cases hij : i = j
      · subst hij
        rw [hr] at hq
        obtain rfl := Option.some.inj hq
        exact absurd hqw hw
      · rw [if_neg hij]
  have rest : ∀ {σ' : Env} {x : Value} {w' : World}, GoodN n0 σ ⟨fH rs 0 (fun i => L.getD i false) H0, N⟩ w σ' ⟨updL (fH rs 0 (fun i => L.getD i false) H0) r.ch, N⟩ w' → VR σ' r.v x → (∀ b, ¬ (r.n ≤ b ∧ b < r.n') → σ'.a b = σ.a b ∧ σ'.v b = σ.v b) → Lo r.n' r.v → (∀ b, r.wr b → b < r.n' ∧ ∀ x, updL (fun _ => none) r.ch b = some x → LoB r.n' x) →
      DI3 nt bef ops.size m m' n0 N rs σ0 T0 H0 a0 w0 (L.setIfInBounds j true) σ' (a.put o.dst x) w' := by
    intro σ' x w' hg hv hab hl1 hl2
    rw [setH] at hg
    refine ⟨by simp [hD.sz], setT hg.ext hv, by rw [put_size]; exact hD.nt, by rw [put_defers]; exact hD.df, hD.good.trans hg, ?_, fun i hi => by rw [set_getD hjs]; split <;> first | rfl | exact hD.lo i hi, fun i hi => by rw [set_getD hjs, if_neg (by omega)]; exact hD.hi i hi, fun i q hmi him hq hL b hb1 hb2 => ?_, fun i q hmi him hq hL => ?_⟩
    · intro i hi k hk hb
      rw [set_getD hjs] at hi ⊢
      split
      · rfl
      · split at hi
        · rename_i e; subst e; exact hpre k hk hb
        · exact hD.down i hi k hk hb
    · rw [set_getD hjs] at hL
      split at hL
      · cases hL
      · rename_i hij
        have hr1 : ¬ (r.n ≤ b ∧ b < r.n') := by
          rcases Nat.lt_or_ge i j with h | h
          · have := hA.mono i j q r hmi hjm h hq hr; omega
          · have := hA.mono j i r q hmj him (by omega) hr hq; omega
        rw [(hab b hr1).1, (hab b hr1).2]
        exact hD.free i q hmi him hq hL b hb1 hb2
    · rw [set_getD hjs] at hL
      split at hL
      · rename_i hij; subst hij
        rw [hr] at hq
        obtain rfl := Option.some.inj hq
        exact ⟨hl1, hl2⟩
      · exact hD.lov i q hmi him hq hL
  have hh := hD.good.hr
  unfold wpOp
  rw [ho]
  rcases hst.run with ⟨hw, h1, h2⟩ | ⟨hw, hok, A, hA1, hv, hch⟩
  · have hwant := wants_sound (hor.l) hgd hw
    simp only [hwant, Bool.false_eq_true, if_false]
    refine hK _ _ _ (rest (σ' := σ) ?_ (by rw [h1]; exact VRundef) (fun _ _ => ⟨rfl, rfl⟩) (by rw [h1]; exact .tup .nil) (fun b hb => absurd h2 (wrne hb)))
    rw [h2]
    exact (Good.refl hh).toN (by show n0 ≤ N; omega)
  · have hwant := wants_sound (hor.l) hgd hw
    simp only [hwant, if_true]
    have hcomp : Comp P o.op ao.ai := by
      rcases comp_or hai with h | h
      · exact h
      · rw [h] at hok; cases hok
    have hA2 : ∀ b x, A b = some x → fH rs 0 (fun i => L.getD i false) H0 b = some x ∧ b < r.n ∧ LoB r.n x := by
      intro b x e
      obtain ⟨q1, q2⟩ := hA1 b x e
      exact ⟨by rw [← sameH b q2]; exact q1, lowH b x q1 q2⟩
    refine .inl (hv o hcomp (σ.cut r.n) w a (hh.sub hA2) (fun t ht => hcut t (List.mem_append_right _ ht)) _ _ (fun x σ1 w' q1 q2 => ?_))
    obtain ⟨e1, gN⟩ := frame (n0 := n0) hh hA2 hn1 hn2 hn3 (hD.free j r hmj hjm hr hun) hch q2
    refine hK _ _ _ (rest gN (q1.ext e1) (fun b hb => mrg_same hb) (q1.toLo q2.hr.fresh) (fun b hb => ?_))
    obtain ⟨z, hz⟩ := hb
    refine ⟨?_, fun y hy => ?_⟩
    · rcases hch b z hz with h | h
      · cases hAb : A b with
        | none => exact absurd hAb h
        | some y => have := (hA2 b y hAb).2.1; omega
      · exact h.2
    · rw [updL_in (H' := A) ⟨z, hz⟩] at hy
      exact (q2.hr.loB hy).2
theorem DI3.all (hA : DA3 P nt ops bef m m' n0 N T0 H0 rs) (hm' : m' ≤ ops.size) (hcut : ∀ j, m' ≤ j → j < ops.size → ∀ i, m ≤ i → i < m' → (bef.getD j 0).testBit i = true) {Q : Exit → Act → World → Prop}
    (hQ : ∀ L σ a w fuel, DI3 nt bef ops.size m m' n0 N rs σ0 T0 H0 a0 w0 L σ a w → (∀ i, i < m' → L.getD i false = true) → ((List.range ops.size).filter fun i => !L.getD i false).length ≤ fuel → wpAny P .any ops Q fuel L a w) :
    ∀ (fuel : Nat) (L : Array Bool) (σ : Env) (a : Act) (w : World), DI3 nt bef ops.size m m' n0 N rs σ0 T0 H0 a0 w0 L σ a w → ((List.range ops.size).filter fun i => !L.getD i false).length ≤ fuel → wpAny P .any ops Q fuel L a w := by
  -- az long az one within the part is left, nothing behind it is ready
  have inside : ∀ L σ a w, DI3 nt bef ops.size m m' n0 N rs σ0 T0 H0 a0 w0 L σ a w → (¬ ∀ i, i < m' → L.getD i false = true) → ∀ j ∈ Region.ready .any ops L, j < m' := by
    intro L σ a w hD hne j hj
    rcases Nat.lt_or_ge j m' with h | h
    · exact h
    exfalso
    apply hne
    obtain ⟨hun, o, ho, hedge⟩ := mem_ready.1 hj
    have hjn : j < ops.size := (Array.getElem?_eq_some_iff.1 ho).1
    intro i hi
    rcases Nat.lt_or_ge i m with h1 | h1
    · exact hD.lo i h1
    obtain ⟨e, q1, q2, q3⟩ := hA.bp.clos j i o ho (by omega) (hcut j h hjn i h1 hi)
    rcases q3 with rfl | q3
    · exact hedge e q1 q2
    · exact hD.down e.on (hedge e q1 q2) i (by omega) q3
  have some_ready : ∀ L σ a w, DI3 nt bef ops.size m m' n0 N rs σ0 T0 H0 a0 w0 L σ a w → Region.ready .any ops L = [] → ∀ i, i < m' → L.getD i false = true := by
    intro L σ a w hD hnil i
    induction i using Nat.strongRecOn with
    | _ i ih =>
      intro hi
      cases hL : L.getD i false with
      | true => rfl
      | false =>
        exfalso
        have : i ∈ Region.ready .any ops L := by
          rw [mem_ready]
          refine ⟨?_, ops[i], by simp [show i < ops.size by omega], fun e he hb => ?_⟩
          · rw [Array.getD_eq_getD_getElem?, getElem?_pos L i (by rw [hD.sz]; omega)] at hL ⊢
            exact hL
          · have hlt := hA.bp.edge i ops[i] (by simp [show i < ops.size by omega]) e he hb
            exact ih e.on hlt (by omega)
        rw [hnil] at this
        cases this
  intro fuel
  induction fuel with
  | zero =>
    intro L σ a w hD hle
    refine hQ L σ a w 0 hD (fun i hi => ?_) hle
    have : (List.range ops.size).filter (fun i => !L.getD i false) = [] := List.length_eq_zero_iff.1 (by omega)
    rw [List.filter_eq_nil_iff] at this
    have := this i (List.mem_range.2 (by omega))
    simpa using this
  | succ fuel ih =>
    intro L σ a w hD hle
    by_cases hall : ∀ i, i < m' → L.getD i false = true
    · exact hQ L σ a w _ hD hall hle
    refine ⟨fun hnil => absurd (some_ready L σ a w hD hnil) hall, fun j hj => ?_⟩
    refine DI3.step hA hD hj (inside L σ a w hD hall j hj) (fun σ' a' w' hD' => ih _ σ' a' w' hD' ?_)
    obtain ⟨hun, o, ho, _⟩ := mem_ready.1 hj
    have hjn : j < ops.size := (Array.getElem?_eq_some_iff.1 ho).1
    have hjs : j < L.size := by rw [hD.sz]; exact hjn
    have hun : L.getD j false = false := by
      rw [Array.getD_eq_getD_getElem?, getElem?_pos L j hjs] at hun ⊢
      exact hun
    have := filt_lt (p := fun i => !L.getD i false) (p' := fun i => !(L.setIfInBounds j true).getD i false) (fun x hx => by
      rw [set_getD hjs] at hx
      by_cases hxj : x = j
      · rw [if_pos hxj] at hx; cases hx
      · rw [if_neg hxj] at hx; exact hx) (j := j) (by rw [hun]; rfl) (by rw [set_getD hjs, if_pos rfl]; rfl) (List.range ops.size) (List.mem_range.2 hjn)
    omega
end
end Go.Sy
end
section
namespace Go.Sy
open Go
set_option linter.unusedVariables false
set_option linter.unusedSimpArgs false
def SOpR (P : Program) (ai : AI) (T : Tm) (s : St) (R : SV → St → Prop) : Prop :=
  ∀ (o : Oper), Comp P o.op ai → ∀ (σ : Env) (w : World) (a : Act), HR σ s w → OR σ T ai.tmps a → ∀ (next : Act → World → Prop) (Q : Exit → Act → World → Prop),
    (∀ x v s1 σ' w', R v s1 → VR σ' v x → Good σ s w σ' s1 w' → next (a.put o.dst x) w') → o.wp P a w next Q
theorem SOpR.does {P : Program} {T : Tm} {s : St} {ai : AI} {R : SV → St → Prop} (h : ∀ (o : Oper), Comp P o.op ai → ∀ (σ : Env) (w : World) (a : Act), HR σ s w → OR σ T ai.tmps a → ∃ f vs, (execOp a.eval o).run P w = (callFunc f vs).run P w ∧ Does P f vs w fun x w' => ∃ v s1 σ', VR σ' v x ∧ Good σ s w σ' s1 w' ∧ R v s1) : SOpR P ai T s R := by
  intro o hc σ w a hr ho next Q hk
  obtain ⟨f, vs, hex, hd⟩ := h o hc σ w a hr ho
  unfold Oper.wp
  rcases hd with ⟨x, w', h1, v, s1, σ', h2, h3, h4⟩ | ⟨h1, h2⟩
  · rw [hex, h1]; exact hk x v s1 σ' w' h4 h2 h3
  · rw [hex, h1]
    refine Calls.mono h2 ?_
    rintro e w' ⟨x, rfl, v, s1, σ', h3, h4, h5⟩
    exact hk x v s1 σ' w' h5 h3 h4
theorem op_callR {P : Program} {T : Tm} {s : St} {R : SV → St → Prop} {f : Nat} {args : List SO} {vs : List SV} (ha : evOs T args = some vs) (hc : SCallR P f vs s R) : SOpR P (.call f args) T s R := SOpR.does fun o hcp σ w a hh ho => by
  generalize hop : o.op = op at hcp
  cases hcp with
  | call h1 h2 =>
    rename_i c
    have hv := oL_sound h2 ha ho
    refine ⟨f, (c.args.toList.map a.eval).toArray, ?_, hc σ w _ hh hv⟩
    have e : resolve a.eval c o.type = pure { target := .fn (.func f) #[], args := #[] ++ c.args.map a.eval } := by
      unfold resolve; rw [h1]; rfl
    simp only [execOp, hop, e, Sem.run_bind, Sem.run_pure, Result.andThen_ok, invoke]
    congr 2
    apply Array.ext'
    simp
theorem op_calvR {P : Program} {T : Tm} {s : St} {R : SV → St → Prop} {x : SO} {f : Nat} {caps : List SV} {args : List SO} {vs : List SV} (hx : evO T x = some (.f f caps)) (ha : evOs T args = some vs) (hc : SCallR P f (vs ++ caps) s R) : SOpR P (.calv x args) T s R := SOpR.does fun o hcp σ w a hh ho => by
  generalize hop : o.op = op at hcp
  cases hcp with
  | calv h1 h2 h3 =>
    rename_i c x'
    have hv := oL_sound h3 ha ho.r
    have p := oo_sound h2 hx ho.l
    generalize hX : a.eval x' = X at p
    cases p
    rename_i xs hxs
    refine ⟨f, (c.args.toList.map a.eval ++ xs).toArray, ?_, hc σ w _ hh (hv.append hxs)⟩
    have e : resolve a.eval c o.type = pure { target := .fn (.func f) xs.toArray, args := #[] ++ c.args.map a.eval } := by
      unfold resolve; rw [h1]; simp only [hX]; rfl
    simp only [execOp, hop, e, Sem.run_bind, Sem.run_pure, Result.andThen_ok, invoke]
    congr 2
    simp
def cutB (i : Nat) (l1 : List DOp) (o : DOp) (l2 : List DOp) : Bool :=
  (List.range l1.length).all (fun j => o.bef.testBit (i + j) && l2.all fun y => y.bef.testBit (i + j)) && l2.all fun y => y.bef.testBit (i + l1.length)
inductive SRC (P : Program) : Nat → List DOp → Tm → St → (Tm → St → Prop) → Prop
  | fin {i : Nat} {l : List DOp} {T T' : Tm} {s s' : St} {rs : List Fc} {Q : Tm → St → Prop} {ne : List (Nat × Nat)} (h : FReg P (l.map (·.op)) T s rs T' s') (hok : okF i l rs = some ne) (hne : AllNe ne) (hq : Q T' s') : SRC P i l T s Q
  | cut {i : Nat} {l1 l2 : List DOp} {o : DOp} {T T1 : Tm} {s s1 : St} {rs : List Fc} {Q : Tm → St → Prop} {ne : List (Nat × Nat)} (R : SV → St → Prop) (h : FReg P (l1.map (·.op)) T s rs T1 s1) (hok : okF i l1 rs = some ne) (hne : AllNe ne) (hc : cutB i l1 o l2 = true)
      (hw : wants T1 o.op.g = some true) (hb : o.op.ai.ok = true) (hv : SOpR P o.op.ai T1 s1 R) (hk : ∀ v s2, R v s2 → SRC P (i + l1.length + 1) l2 (putT T1 o.op.d v) s2 Q) : SRC P i (l1 ++ o :: l2) T s Q
def dumF : Fc := ⟨none, .tup [], false, [], [], 0, 0⟩
theorem fT_rep (S : Nat → Bool) (T : Tm) (rs : List Fc) : ∀ (n k : Nat), fT (List.replicate n dumF ++ rs) k S T = fT rs (k + n) S T
  | 0, k => rfl
  | n + 1, k => by
    rw [List.replicate_succ, List.cons_append]
    simp only [fT]
    have : (if S k = true then putT T dumF.d dumF.v else T) = T := by split <;> rfl
    rw [this, fT_rep S T rs n (k + 1)]
    congr 1; omega
theorem fH_rep (S : Nat → Bool) (s : Nat → Option Blk) (rs : List Fc) : ∀ (n k : Nat), fH (List.replicate n dumF ++ rs) k S s = fH rs (k + n) S s
  | 0, k => rfl
  | n + 1, k => by
    rw [List.replicate_succ, List.cons_append]
    simp only [fH]
    have : (if S k = true then updL s dumF.ch else s) = s := by split <;> rfl
    rw [this, fH_rep S s rs n (k + 1)]
    congr 1; omega
theorem fT_app (S : Nat → Bool) : ∀ (l m : List Fc) (k : Nat) (T : Tm), fT (l ++ m) k S T = fT m (k + l.length) S (fT l k S T)
  | [], m, k, T => rfl
  | r :: l, m, k, T => by
    rw [List.cons_append]
    simp only [fT]
    rw [fT_app S l m]
    congr 1
    simp; omega
theorem fH_app (S : Nat → Bool) : ∀ (l m : List Fc) (k : Nat) (s : Nat → Option Blk), fH (l ++ m) k S s = fH m (k + l.length) S (fH l k S s)
  | [], m, k, s => rfl
  | r :: l, m, k, s => by
    rw [List.cons_append]
    simp only [fH]
    rw [fH_app S l m]
    congr 1
    simp; omega
theorem fT_pad (S : Nat → Bool) (T : Tm) (rs : List Fc) (i n : Nat) : fT (List.replicate i dumF ++ (rs ++ List.replicate n dumF)) 0 S T = fT rs i S T := by
  rw [fT_rep, fT_app, Nat.zero_add]
  have := fT_rep S (fT rs i S T) [] n (i + rs.length)
  rw [List.append_nil] at this
  rw [this]; rfl
theorem fH_pad (S : Nat → Bool) (s : Nat → Option Blk) (rs : List Fc) (i n : Nat) : fH (List.replicate i dumF ++ (rs ++ List.replicate n dumF)) 0 S s = fH rs i S s := by
  rw [fH_rep, fH_app, Nat.zero_add]
  have := fH_rep S (fH rs i S s) [] n (i + rs.length)
  rw [List.append_nil] at this
  rw [this]; rfl
section
variable {P : Program} {nt : Nat} {ops : Array Oper} {bef : List Nat}
theorem part_DA3 (hbef : befOK ops bef = true) {l : List AOp} (hc : compL P nt ops ops.toList = some l) {i : Nat} {l1 rest : List DOp} (hl : (compD bef 0 l).drop i = l1 ++ rest) (hi : i + l1.length ≤ ops.size) {T T' : Tm} {s s' : St} {rs : List Fc} {ne : List (Nat × Nat)} (hr : FReg P (l1.map (·.op)) T s rs T' s') (hok : okF i l1 rs = some ne) (hne : AllNe ne)
    (ht0 : ∀ t v, T.get t = some v → Lo s.nxt v) (hh0 : ∀ b x, s.H b = some x → b < s.nxt ∧ LoB s.nxt x) :
    DA3 P nt ops bef i (i + l1.length) s.nxt s'.nxt T s.H (List.replicate i dumF ++ (rs ++ List.replicate (ops.size - (i + l1.length)) dumF)) ∧ (∀ S : Nat → Bool, (∀ j, S j = true) → fT rs i S T = T' ∧ fH rs i S s.H = s'.H) := by
  obtain ⟨hlen, hget⟩ := compL_get _ _ hc
  have h0 := freg_at hr i (fun _ => true) (fun _ => rfl)
  obtain ⟨h1, -, -, h4⟩ := h0
  obtain ⟨ns1, ns2, ns3⟩ := freg_ns hr
  rw [List.length_map] at h1
  have hD : ∀ j, j < l1.length → ∃ o a, ops[i + j]? = some o ∧ compA P nt ops o = some a ∧ l1[j]? = some ⟨a, bef.getD (i + j) 0⟩ := by
    intro j hj
    obtain ⟨a, q1, q2⟩ := hget (i + j) ops[i + j] (by simp [show i + j < ops.size by omega])
    refine ⟨_, a, by simp [show i + j < ops.size by omega], q2, ?_⟩
    have := compD_get bef l 0 (i + j) a q1
    rw [← List.getElem?_drop, hl, List.getElem?_append_left hj, Nat.zero_add] at this
    exact this
  have hrs : ∀ j, j < l1.length → (List.replicate i dumF ++ (rs ++ List.replicate (ops.size - (i + l1.length)) dumF))[i + j]? = rs[j]? := by
    intro j hj
    rw [List.getElem?_append_right (by simp), List.length_replicate, Nat.add_sub_cancel_left, List.getElem?_append_left (by omega)]
  refine ⟨⟨befOK_spec hbef, by simp; omega, fun j r hj hdl => ?_, fun j o hij hjm ho => ?_, fun a b x y ax ay q r ha hb hab hx hy hax hay hq hr' => ?_, fun j r hij hjm hj => ?_, fun a b q r ha hb hab hq hr' => ?_, ht0, hh0⟩, fun S hS => ⟨(freg_at hr i S hS).2.1, (freg_at hr i S hS).2.2.1⟩⟩
  · have hno : ∀ n k : Nat, (List.replicate n dumF)[k]? = some r → False := by
      intro n k e
      rw [List.getElem?_replicate] at e
      split at e
      · obtain rfl := Option.some.inj e
        rcases hdl with h | h
        · exact h rfl
        · exact h rfl
      · cases e
    rcases Nat.lt_or_ge j i with h | h
    · rw [List.getElem?_append_left (by simpa using h)] at hj
      exact (hno _ _ hj).elim
    · rcases Nat.lt_or_ge j (i + l1.length) with h' | h'
      · exact ⟨h, h'⟩
      · rw [List.getElem?_append_right (by simpa using h), List.getElem?_append_right (by simp; omega)] at hj
        exact (hno _ _ hj).elim
  · obtain ⟨k, rfl⟩ : ∃ k, j = i + k := ⟨j - i, by omega⟩
    obtain ⟨o', a, q1, q2, q3⟩ := hD k (by omega)
    rw [ho] at q1
    obtain rfl := Option.some.inj q1
    obtain ⟨r, r1, r2⟩ := h4 k a (by rw [List.getElem?_map, q3]; rfl)
    refine ⟨r, a, by rw [hrs k (by omega)]; exact r1, q2, ?_⟩
    rw [fT_pad, fH_pad]
    exact r2
  · obtain ⟨u, rfl⟩ : ∃ u, a = i + u := ⟨a - i, by omega⟩
    obtain ⟨v, rfl⟩ : ∃ v, b = i + v := ⟨b - i, by omega⟩
    obtain ⟨o1, a1, q1, q2, q3⟩ := hD u (by omega)
    obtain ⟨o2, a2, p1, p2, p3⟩ := hD v (by omega)
    rw [hx] at q1; obtain rfl := Option.some.inj q1
    rw [hy] at p1; obtain rfl := Option.some.inj p1
    rw [hax] at q2; obtain rfl := Option.some.inj q2
    rw [hay] at p2; obtain rfl := Option.some.inj p2
    rw [hrs u (by omega)] at hq
    rw [hrs v (by omega)] at hr'
    have hp := (okF_spec _ rs i ne hok hne.mem u v _ _ q r (by omega) q3 p3 hq hr').h
    obtain ⟨q', d1, d2⟩ := h4 u ax (by rw [List.getElem?_map, q3]; rfl)
    obtain ⟨r', d3, d4⟩ := h4 v ay (by rw [List.getElem?_map, p3]; rfl)
    rw [hq] at d1
    rw [hr'] at d3
    obtain rfl := Option.some.inj d1
    obtain rfl := Option.some.inj d3
    rw [d2.d, d4.d]
    exact hp
  · obtain ⟨k, rfl⟩ : ∃ k, j = i + k := ⟨j - i, by omega⟩
    rw [hrs k (by omega)] at hj
    exact ns2 k r hj
  · obtain ⟨u, rfl⟩ : ∃ u, a = i + u := ⟨a - i, by omega⟩
    obtain ⟨v, rfl⟩ : ∃ v, b = i + v := ⟨b - i, by omega⟩
    rw [hrs u (by omega)] at hq
    rw [hrs v (by omega)] at hr'
    exact ns3 u v q r (by omega) hq hr'
abbrev left (n : Nat) (L : Array Bool) : Nat := ((List.range n).filter fun i => !L.getD i false).length
theorem part3_sound (hbef : befOK ops bef = true) {l : List AOp} (hc : compL P nt ops ops.toList = some l) {i : Nat} {l1 rest : List DOp} (hl : (compD bef 0 l).drop i = l1 ++ rest) (hi : i + l1.length ≤ ops.size)
    (hcut : ∀ j, i + l1.length ≤ j → j < ops.size → ∀ u, i ≤ u → u < i + l1.length → (bef.getD j 0).testBit u = true) {T T' : Tm} {s s' : St} {rs : List Fc} {ne : List (Nat × Nat)} (hr : FReg P (l1.map (·.op)) T s rs T' s') (hok : okF i l1 rs = some ne) (hne : AllNe ne)
    {σ : Env} {a : Act} {w : World} {L : Array Bool} {fuel : Nat} (hsz : L.size = ops.size) (h : TR σ T a) (hh : HR σ s w) (hnt : nt ≤ a.tmps.size) (hlo : ∀ j, j < i → L.getD j false = true) (hhi : ∀ j, i ≤ j → L.getD j false = false) (hf : left ops.size L ≤ fuel) {Q : Exit → Act → World → Prop}
    (hk : ∀ σ' a' w' L' fuel', L'.size = ops.size → TR σ' T' a' → nt ≤ a'.tmps.size → a'.defers = a.defers → Good σ s w σ' s' w' → (∀ j, j < i + l1.length → L'.getD j false = true) → (∀ j, i + l1.length ≤ j → L'.getD j false = false) → left ops.size L' ≤ fuel' → wpAny P .any ops Q fuel' L' a' w') : wpAny P .any ops Q fuel L a w := by
  obtain ⟨hA, hend⟩ := part_DA3 hbef hc hl hi hr hok hne (fun t v e => (h t v e).2.toLo hh.fresh) (fun b x e => hh.loB e)
  have hrl : rs.length = l1.length := by have := (freg_at hr 0 (fun _ => true) (fun _ => rfl)).1; simpa using this
  have hnn := (freg_ns hr).1
  have hnone : ∀ j r, rs[j]? = some r → L.getD (i + j) false = true → False := fun j r hj hs => by rw [hhi _ (by omega)] at hs; cases hs
  refine DI3.all (σ0 := σ) (a0 := a) (w0 := w) hA hi (fun j h1 h2 u h3 h4 => hcut j h1 h2 u h3 h4) (fun L' σ' a' w' fuel' hD hall hf' => ?_) fuel L σ a w ⟨hsz, fun t v ht => h t v ?_, hnt, rfl, ?_, fun j hj k hk hb => ?_, hlo, fun j hj => hhi j (by omega), fun j r hij hjm hj _ b hb1 hb2 => ?_, fun j r hij hjm hj hL => ?_⟩ hf
  · refine hk σ' a' w' L' fuel' hD.sz (fun t v ht => hD.t t v ?_) hD.nt hD.df ?_ hall hD.hi hf'
    · rw [fT_pad, ← ht, ← (hend (fun _ => true) (fun _ => rfl)).1]
      refine fT_congr rs i _ _ T T (fun j r hj _ => ?_) rfl
      exact hall (i + j) (by have := (List.getElem?_eq_some_iff.1 hj).1; omega)
    · have hg := hD.good
      rw [fH_pad] at hg
      have : fH rs i (fun j => L'.getD j false) s.H = s'.H := by
        rw [← (hend (fun _ => true) (fun _ => rfl)).2]
        funext b
        refine fH_congr rs i _ _ s.H s.H (fun j r hj _ => ?_) rfl
        exact hall (i + j) (by have := (List.getElem?_eq_some_iff.1 hj).1; omega)
      rw [this] at hg
      exact ⟨hg.ext, hg.hr, ⟨hg.keep.os, hg.keep.tape, hg.keep.output, hg.keep.size, hg.keep.same⟩, hg.own, hnn, hg.old, hg.zn⟩
  · rw [fT_pad] at ht
    rw [← ht]
    exact (fT_none rs i _ T (fun j r hj hs => (hnone j r hj hs).elim)).symm
  · have : fH (List.replicate i dumF ++ (rs ++ List.replicate (ops.size - (i + l1.length)) dumF)) 0 (fun j => L.getD j false) s.H = s.H := by
      rw [fH_pad]
      funext b
      exact fH_none rs i _ s.H (fun j r hj hs => (hnone j r hj hs).elim)
    rw [this]
    exact (Good.refl (hh.bump hnn)).toN hnn
  · refine hlo k ?_
    have hji : j < i := by
      rcases Nat.lt_or_ge j i with h | h
      · exact h
      · rw [hhi j h] at hj; cases hj
    have := hA.bp.lt j k (by omega) hk hb
    omega
  · have := (hA.ns j r hij hjm hj).1
    exact hh.fresh b (by omega)
  · rw [hhi j hij] at hL; cases hL
theorem none_left {L : Array Bool} (hall : ∀ j, j < ops.size → L.getD j false = true) : Region.ready .any ops L = [] := by
  cases hrd : Region.ready .any ops L with
  | nil => rfl
  | cons i l =>
    exfalso
    have hm : i ∈ Region.ready .any ops L := by rw [hrd]; exact List.mem_cons_self ..
    obtain ⟨hun, o, ho, _⟩ := mem_ready.1 hm
    have hi : i < ops.size := (Array.getElem?_eq_some_iff.1 ho).1
    have h1 := hall i hi
    rw [Array.getD_eq_getD_getElem?] at h1
    cases hL : L[i]? with
    | none => rw [hL] at h1; cases h1
    | some b =>
      rw [hL] at h1
      simp only [Option.getD_some] at h1
      subst h1
      simp [Array.getD_eq_getD_getElem?, hL] at hun
theorem any_done {Q : Exit → Act → World → Prop} {a : Act} {w : World} {L : Array Bool} (hall : ∀ j, j < ops.size → L.getD j false = true) (hq : Q .normal a w) : ∀ fuel, wpAny P .any ops Q fuel L a w
  | 0 => ⟨none_left hall, hq⟩
  | fuel + 1 => ⟨fun _ => hq, fun j hj => by rw [none_left hall] at hj; cases hj⟩
theorem src_sound (hbef : befOK ops bef = true) {l : List AOp} (hc : compL P nt ops ops.toList = some l) {Q : Exit → Act → World → Prop} {df : List Deferred} :
    ∀ {i : Nat} {ld : List DOp} {T : Tm} {s : St} {K : Tm → St → Prop}, SRC P i ld T s K → (compD bef 0 l).drop i = ld → i + ld.length = ops.size → ∀ {σ : Env} {a : Act} {w : World} {L : Array Bool} {fuel : Nat}, L.size = ops.size → TR σ T a → HR σ s w → nt ≤ a.tmps.size → a.defers = df → (∀ j, j < i → L.getD j false = true) → (∀ j, i ≤ j → L.getD j false = false) → left ops.size L ≤ fuel →
      (∀ σ' a' w' T' s', TR σ' T' a' → nt ≤ a'.tmps.size → a'.defers = df → Good σ s w σ' s' w' → K T' s' → Q .normal a' w') → wpAny P .any ops Q fuel L a w := by
  intro i ld T s K h
  induction h with
  | fin h hok hne hq =>
    intro hl hi σ a w L fuel hsz ht hh hn hd hlo hhi hf hk
    refine part3_sound hbef hc (rest := []) (by rw [List.append_nil]; exact hl) (by omega) (fun j h1 h2 => by omega) h hok hne hsz ht hh hn hlo hhi hf (fun σ' a' w' L' fuel' g1 g2 g3 g4 g5 g6 g7 g8 => ?_)
    exact any_done (fun j hj => g6 j (by omega)) (hk σ' a' w' _ _ g2 g3 (g4.trans hd) g5 hq) fuel'
  | @cut i l1 l2 o T T1 s s1 rs K ne R h hok hne hcut hw hb hv hkk ih =>
    intro hl hi σ a w L fuel hsz ht hh hn hd hlo hhi hf hk
    obtain ⟨hlen, hget⟩ := compL_get _ _ hc
    rw [List.length_append, List.length_cons] at hi
    unfold cutB at hcut
    rw [Bool.and_eq_true] at hcut
    obtain ⟨c1, c2⟩ := hcut
    rw [List.all_eq_true] at c1 c2
    have c1 : ∀ u, u < l1.length → o.bef.testBit (i + u) = true ∧ ∀ y ∈ l2, y.bef.testBit (i + u) = true := by
      intro u hu
      have := c1 u (List.mem_range.2 hu)
      simp only [Bool.and_eq_true, List.all_eq_true] at this
      exact this
    have hbit : ∀ j, j < ops.size → ∃ ao, (compD bef 0 l)[j]? = some ⟨ao, bef.getD j 0⟩ ∧ compA P nt ops ops[j]! = some ao := by
      intro j hj
      obtain ⟨ao, q1, q2⟩ := hget j ops[j] (by simp [hj])
      have := compD_get bef l 0 j ao q1
      rw [Nat.zero_add] at this
      exact ⟨ao, this, by simpa [hj] using q2⟩
    have hm : (compD bef 0 l)[i + l1.length]? = some o := by
      rw [← List.getElem?_drop, hl, List.getElem?_append_right (Nat.le_refl _)]
      simp
    have hbeh : ∀ j, i + l1.length < j → j < ops.size → ∃ y ∈ l2, (compD bef 0 l)[j]? = some y := by
      intro j h1 h2
      obtain ⟨k, rfl⟩ : ∃ k, j = i + (l1.length + (k + 1)) := ⟨j - i - l1.length - 1, by omega⟩
      refine ⟨l2[k]'(by omega), List.getElem_mem _, ?_⟩
      rw [← List.getElem?_drop, hl, List.getElem?_append_right (by omega), Nat.add_sub_cancel_left, List.getElem?_cons_succ]
      exact List.getElem?_eq_getElem (by omega)
    have hob : o.bef = bef.getD (i + l1.length) 0 := by
      obtain ⟨ao, q1, _⟩ := hbit (i + l1.length) (by omega)
      rw [hm] at q1
      rw [Option.some.inj q1]
    refine part3_sound hbef hc hl (by omega) (fun j h1 h2 u h3 h4 => ?_) h hok hne hsz ht hh hn hlo hhi hf (fun σ' a' w' L' fuel' g1 g2 g3 g4 g5 g6 g7 g8 => ?_)
    · obtain ⟨v, rfl⟩ : ∃ v, u = i + v := ⟨u - i, by omega⟩
      rcases Nat.lt_or_ge (i + l1.length) j with h' | h'
      · obtain ⟨y, y1, y2⟩ := hbeh j h' h2
        obtain ⟨ao, q1, _⟩ := hbit j h2
        rw [y2] at q1
        have := (c1 v (by omega)).2 y y1
        rw [Option.some.inj q1] at this
        exact this
      · obtain rfl : j = i + l1.length := by omega
        have := (c1 v (by omega)).1
        rw [hob] at this
        exact this
    · -- one alone is ready: the one in the middle
      have hone : ∀ j ∈ Region.ready .any ops L', j = i + l1.length := by
        intro j hj
        obtain ⟨hun, o', ho', hedge⟩ := mem_ready.1 hj
        have hjn : j < ops.size := (Array.getElem?_eq_some_iff.1 ho').1
        have hjs : j < L'.size := by omega
        have hun' : L'.getD j false = false := by
          rw [Array.getD_eq_getD_getElem?, getElem?_pos L' j hjs] at hun ⊢
          exact hun
        rcases Nat.lt_trichotomy j (i + l1.length) with h' | h' | h'
        · rw [g6 j h'] at hun'; cases hun'
        · exact h'
        · exfalso
          obtain ⟨y, y1, y2⟩ := hbeh j h' hjn
          obtain ⟨ao, q1, _⟩ := hbit j hjn
          rw [y2] at q1
          have hb2 := c2 y y1
          rw [Option.some.inj q1] at hb2
          obtain ⟨e, q1, q2, q3⟩ := (befOK_spec hbef).clos j (i + l1.length) o' ho' (by omega) hb2
          rcases q3 with q3 | q3
          · have := hedge e q1 q2
            rw [q3] at this
            have g := g7 (i + l1.length) (Nat.le_refl _)
            rw [Array.getD_eq_getD_getElem?, getElem?_pos L' _ (by omega)] at this g
            simp only [Option.getD_some] at this g
            rw [g] at this; cases this
          · have hd1 := hedge e q1 q2
            have hlt := (befOK_spec hbef).edge j o' ho' e q1 q2
            have hgt := (befOK_spec hbef).lt e.on (i + l1.length) (by omega) (by omega) q3
            have g := g7 e.on (by omega)
            rw [Array.getD_eq_getD_getElem?, getElem?_pos L' _ (by omega)] at hd1 g
            simp only [Option.getD_some] at hd1 g
            rw [g] at hd1; cases hd1
      have hmid : i + l1.length ∈ Region.ready .any ops L' := by
        rw [mem_ready]
        refine ⟨?_, ops[i + l1.length], by simp [show i + l1.length < ops.size by omega], fun e he hbn => ?_⟩
        · have g := g7 (i + l1.length) (Nat.le_refl _)
          rw [Array.getD_eq_getD_getElem?, getElem?_pos L' _ (by omega)] at g ⊢
          exact g
        · have := (befOK_spec hbef).edge (i + l1.length) ops[i + l1.length] (by simp [show i + l1.length < ops.size by omega]) e he hbn
          exact g6 _ this
      have hpos : 0 < left ops.size L' := by
        unfold left
        rw [List.length_pos_iff]
        intro hnil
        rw [List.filter_eq_nil_iff] at hnil
        have := hnil (i + l1.length) (List.mem_range.2 (by omega))
        rw [g7 _ (Nat.le_refl _)] at this
        simp at this
      cases fuel' with
      | zero => omega
      | succ fuel' =>
        refine ⟨fun hnil => (by rw [hnil] at hmid; exact absurd hmid List.not_mem_nil), fun j hj => ?_⟩
        obtain rfl := hone j hj
        obtain ⟨ao, q1, q2⟩ := hbit (i + l1.length) (by omega)
        rw [hm] at q1
        have hoe : o = ⟨ao, bef.getD (i + l1.length) 0⟩ := Option.some.inj q1
        have hmn : i + l1.length < ops.size := by omega
        have ho : ops[i + l1.length]? = some ops[i + l1.length] := by simp [hmn]
        have q2 : compA P nt ops ops[i + l1.length] = some ao := by simpa [hmn] using q2
        obtain ⟨hgd, hai, hdd, hdn⟩ := compA_parts q2
        unfold wpOp
        rw [ho]
        have hwant := wants_sound (g2.or (gT o.op.g)) (by rw [hoe]; exact hgd) hw
        simp only [hwant, if_true]
        have hcomp : Comp P ops[i + l1.length].op o.op.ai := by
          rw [hoe]
          rcases comp_or hai with h | h
          · exact h
          · rw [hoe] at hb; rw [h] at hb; cases hb
        refine .inl (hv _ hcomp σ' w' a' g5.hr (g2.or _) _ _ (fun x v s2 σ2 w2 r1 r2 r3 => ?_))
        have hd' : o.op.d = ops[i + l1.length].dst := by rw [hoe]; exact hdd
        refine ih v s2 r1 (by rw [Nat.add_assoc, ← List.drop_drop, hl]; simp) (by omega) (L := L'.setIfInBounds (i + l1.length) true) (by simp [g1]) ?_ r3.hr (by rw [put_size]; exact g3) (by rw [put_defers]; exact g4.trans hd) (fun j hj => ?_) (fun j hj => ?_) ?_ (fun σ3 a3 w3 T3 s3 e1 e2 e3 e4 e5 => hk σ3 a3 w3 T3 s3 e1 e2 e3 ((g5.trans r3).trans e4) e5)
        · rw [← hd']
          exact (g2.ext r3.ext).put (d := o.op.d) (fun k hk => Nat.lt_of_lt_of_le (hdn k (by rw [← hdd, ← hk, hoe])) g3) r2
        · rw [set_getD (by omega)]
          split
          · rfl
          · exact g6 j (by omega)
        · rw [set_getD (by omega), if_neg (by omega)]
          exact g7 j (by omega)
        · have := filt_lt (p := fun i => !L'.getD i false) (p' := fun k => !(L'.setIfInBounds (i + l1.length) true).getD k false) (fun x hx => by
            rw [set_getD (by omega)] at hx
            by_cases hxj : x = i + l1.length
            · rw [if_pos hxj] at hx; cases hx
            · rw [if_neg hxj] at hx; exact hx) (j := i + l1.length) (by rw [g7 _ (Nat.le_refl _)]; rfl) (by rw [set_getD (by omega), if_pos rfl]; rfl) (List.range ops.size) (List.mem_range.2 hmn)
          unfold left at g8 ⊢
          omega
theorem SC.dsrc [hm : Mix P] {T : Tm} {s : St} {Q : Exit → Tm → St → Prop} {l : List DOp} (h : SRC P 0 l T s (fun T' s' => Q .normal T' s')) : SC P nt (.dreg l) T s Q := ⟨nofun, fun code hc σ a w ht hh hn => by
  cases hc with
  | dreg hb h1 =>
    rename_i id ops l'
    refine wp_region_any hm.h ?_
    have hnil : ∀ i, (Array.replicate ops.size false).getD i false = false := by
      intro i
      rw [Array.getD_eq_getD_getElem?, Array.getElem?_replicate]
      split <;> rfl
    obtain ⟨hlen, hget⟩ := compL_get _ _ h1
    have hlen2 : ∀ (l : List AOp) (k : Nat), (compD (Region.before ops).toList k l).length = l.length := by
      intro l
      induction l with
      | nil => intro k; rfl
      | cons x l ih => intro k; simp [compD, ih]
    exact src_sound hb h1 h (by simp) (by rw [hlen2, Nat.zero_add, hlen]; simp) (by simp) ht (Good.drew hh).hr hn rfl (fun j hj => by omega) (fun j _ => hnil j) (Nat.le_trans (List.length_filter_le _ _) (by simp)) (fun σ' a' w' T' s' q1 q2 q3 q4 q5 => ⟨σ', T', s', q1, q2, q3, (Good.drew hh).trans q4, q5⟩)⟩
end
theorem SOp.frame {P : Program} {ai : AI} {T : Tm} {A H : Nat → Option Blk} {n n' : Nat} {v : SV} {ch : Ch} (h : SOp P ai T ⟨A, n⟩ v ⟨updL A ch, n'⟩) (hA : ∀ b x, A b = some x → H b = some x) (hnn : n ≤ n') (hch : ∀ b x, (b, x) ∈ ch → A b ≠ none ∨ (n ≤ b ∧ b < n')) : SOp P ai T ⟨H, n⟩ v ⟨updL H ch, n'⟩ := by
  intro o hc σ w a hr ho next Q hk
  have hA2 : ∀ b x, A b = some x → H b = some x ∧ b < n ∧ LoB n x := fun b x e => ⟨hA b x e, hr.loB (hA b x e)⟩
  have hb := hr.bump hnn
  refine h o hc (σ.cut n) w a (hb.sub hA2) (fun t ht v e => ⟨(ho t ht v e).1, (ho t ht v e).2.cut ((ho t ht v e).2.toLo hr.fresh)⟩) next Q (fun x σ1 w' q1 q2 => ?_)
  obtain ⟨e1, g⟩ := Go.Sy.frame (n0 := n) hb hA2 (Nat.le_refl _) hnn (Nat.le_refl _) (fun b h1 _ => hr.fresh b h1) hch q2
  exact hk x _ w' (q1.ext e1) ⟨g.ext, g.hr, ⟨g.keep.os, g.keep.tape, g.keep.output, g.keep.size, g.keep.same⟩, g.own, hnn, g.old, g.zn⟩
end Go.Sy
end
section
namespace Go.Sy
open Go
set_option linter.unusedVariables false
theorem natSub1 (n : Nat) : ((n + 1 : Nat) : Int) - 1 = (n : Int) := by omega
theorem natSub1' (n : Nat) : ((n : Int) + 1) - 1 = (n : Int) := by omega
inductive SRN (P : Program) : List AOp → Tm → St → (Tm → St → Prop) → Prop
  | nil {T : Tm} {s : St} {Q : Tm → St → Prop} (h : Q T s) : SRN P [] T s Q
  | skip {o : AOp} {l : List AOp} {T : Tm} {s : St} {Q : Tm → St → Prop} (hw : wants T o.g = some false) (h : SRN P l (putT T o.d (.tup [])) s Q) : SRN P (o :: l) T s Q
  | run {o : AOp} {l : List AOp} {T : Tm} {s : St} {Q : Tm → St → Prop} (R : SV → St → Prop) (hw : wants T o.g = some true) (hb : o.ai.ok = true) (hv : SOpR P o.ai T s R) (h : ∀ v s1, R v s1 → SRN P l (putT T o.d v) s1 Q) : SRN P (o :: l) T s Q
theorem SOp.toR {P : Program} {ai : AI} {T : Tm} {s s1 : St} {v : SV} (h : SOp P ai T s v s1) : SOpR P ai T s fun v' s' => v' = v ∧ s' = s1 := fun o hc σ w a hr ho next Q hk => h o hc σ w a hr ho next Q fun x σ' w' h1 h2 => hk x v s1 σ' w' ⟨rfl, rfl⟩ h1 h2
theorem srn_sound {P : Program} {nt : Nat} {ops : Array Oper} {Q : Exit → Act → World → Prop} : ∀ {l : List AOp} {T : Tm} {s : St} {K : Tm → St → Prop}, SRN P l T s K → ∀ (os : List Oper), compL P nt ops os = some l → ∀ {σ : Env} {a : Act} {w : World}, TR σ T a → HR σ s w → nt ≤ a.tmps.size →
    (∀ σ' a' w' T' s', TR σ' T' a' → nt ≤ a'.tmps.size → a'.defers = a.defers → Good σ s w σ' s' w' → K T' s' → Q .normal a' w') → wpList P ops Q os a w := by
  intro l T s K h
  have parts : ∀ {o : AOp} {l : List AOp} (os : List Oper), compL P nt ops os = some (o :: l) → ∃ o' os', os = o' :: os' ∧ compA P nt ops o' = some o ∧ compL P nt ops os' = some l := by
    intro o l os hc
    cases os with
    | nil => cases hc
    | cons o' os' =>
      simp only [compL] at hc
      split at hc
      · cases hc
      · rename_i ao hao
        split at hc
        · cases hc
        · rename_i l' hl'
          injection Option.some.inj hc with e1 e2
          subst e1; subst e2
          exact ⟨o', os', rfl, hao, hl'⟩
  induction h with
  | nil hq =>
    intro os hc σ a w ht hh hn hk
    cases os with
    | nil => exact hk σ a w _ _ ht hn rfl (.refl hh) hq
    | cons o os =>
      simp only [compL] at hc
      split at hc
      · cases hc
      · split at hc <;> cases hc
  | @skip o l T s K hw h ih =>
    intro os hc σ a w ht hh hn hk
    obtain ⟨o', os', rfl, hao, hl'⟩ := parts os hc
    obtain ⟨hg, hai, hd, hdn⟩ := compA_parts hao
    have hdn' : ∀ k, o.d = some k → k < a.tmps.size := fun k hk => Nat.lt_of_lt_of_le (hdn k (by rw [← hd]; exact hk)) hn
    unfold wpList
    rw [if_neg (by rw [wants_sound (ht.or _) hg hw]; simp), ← hd]
    exact ih os' hl' (ht.put hdn' VRundef) hh (by rw [put_size]; exact hn) (fun σ' a' w' T' s' r1 r2 r3 r4 r5 => hk σ' a' w' T' s' r1 r2 (by rw [r3, put_defers]) r4 r5)
  | @run o l T s K R hw hb hv h ih =>
    intro os hc σ a w ht hh hn hk
    obtain ⟨o', os', rfl, hao, hl'⟩ := parts os hc
    obtain ⟨hg, hai, hd, hdn⟩ := compA_parts hao
    have hdn' : ∀ k, o.d = some k → k < a.tmps.size := fun k hk => Nat.lt_of_lt_of_le (hdn k (by rw [← hd]; exact hk)) hn
    unfold wpList
    rw [if_pos (wants_sound (ht.or _) hg hw)]
    refine .inl ?_
    rcases comp_or hai with hcomp | hbad
    · refine hv o' hcomp σ w a hh (ht.or _) _ _ (fun x v s1 σ1 w1 q0 q1 q2 => ?_)
      rw [← hd]
      exact ih v s1 q0 os' hl' ((ht.ext q2.ext).put hdn' q1) q2.hr (by rw [put_size]; exact hn) (fun σ' a' w' T' s' r1 r2 r3 r4 r5 => hk σ' a' w' T' s' r1 r2 (by rw [r3, put_defers]) (q2.trans r4) r5)
    · rw [hbad] at hb; cases hb
structure Kn where
  dr : Bool
  i : Nat
  l1 : List DOp
  l2 : List DOp
  rs : List Fc
  Q : Tm → St → Prop
def SRegK (P : Program) (l : List AOp) (T : Tm) (s : St) (K : Kn) : Prop := match K.dr with
  | false => SRN P l T s K.Q
  | true => l = K.l2.map (·.op) → ∀ T0 s0, FReg P (K.l1.map (·.op)) T0 s0 K.rs T s → SRC P K.i (K.l1 ++ K.l2) T0 s0 K.Q
def cK (r : Fc) (K : Kn) : Kn := ⟨K.dr, K.i, K.l1 ++ K.l2.take 1, K.l2.drop 1, K.rs ++ [r], K.Q⟩
def cutK (K : Kn) : Kn := ⟨K.dr, K.i + K.l1.length + 1, [], K.l2.drop 1, [], K.Q⟩
def neO : Option (List (Nat × Nat)) → Prop
  | none => False
  | some l => AllNe l
def okK (K : Kn) : Prop := match K.dr with
  | false => True
  | true => neO (okF K.i K.l1 K.rs)
def okC (K : Kn) : Prop := match K.dr with
  | false => True
  | true => match K.l2 with
    | [] => False
    | o :: l => neO (okF K.i K.l1 K.rs) ∧ cutB K.i K.l1 o l = true
theorem neO_of {x : Option (List (Nat × Nat))} {ne : List (Nat × Nat)} (h : x = some ne) (hn : AllNe ne) : neO x := by rw [h]; exact hn
theorem neO_some {x : Option (List (Nat × Nat))} (h : neO x) : ∃ l, x = some l ∧ AllNe l := by
  cases x with
  | none => exact h.elim
  | some l => exact ⟨l, rfl, h⟩
theorem okN {K : Kn} {T : Tm} {s : St} (hq : K.Q T s) (h : okK K) : okK K ∧ K.Q T s := ⟨h, hq⟩
theorem okS {K : Kn} {T : Tm} {s : St} (hq : K.Q T s) (h : K.dr = false) : okK K ∧ K.Q T s := ⟨by unfold okK; rw [h]; trivial, hq⟩
theorem okD {K : Kn} {T : Tm} {s : St} {ne : List (Nat × Nat)} (hq : K.Q T s) (h : okF K.i K.l1 K.rs = some ne) (hn : AllNe ne) : okK K ∧ K.Q T s := ⟨by
  unfold okK
  split
  · trivial
  · exact neO_of h hn, hq⟩
def cutBK (K : Kn) : Bool := match K.l2 with
  | [] => false
  | o :: l => cutB K.i K.l1 o l
theorem okCS {K : Kn} (h : K.dr = false) : okC K := by unfold okC; rw [h]; trivial
theorem okCD {K : Kn} {ne : List (Nat × Nat)} (h : okF K.i K.l1 K.rs = some ne) (hn : AllNe ne) (hc : cutBK K = true) : okC K := by
  unfold okC
  split
  · trivial
  · unfold cutBK at hc
    split at hc
    · cases hc
    · exact ⟨neO_of h hn, hc⟩
theorem k_nil {P : Program} {T : Tm} {s : St} {K : Kn} (h : okK K ∧ K.Q T s) : SRegK P [] T s K := by
  obtain ⟨dr, i, l1, l2, rs, Q⟩ := K
  cases dr with
  | false => exact .nil h.2
  | true =>
    intro hl T0 s0 hr
    have : l2 = [] := by cases l2 <;> first | rfl | cases hl
    subst this
    show SRC P i (l1 ++ []) T0 s0 Q
    rw [List.append_nil]
    obtain ⟨m, h1, h2⟩ := neO_some h.1
    exact .fin hr h1 h2 h.2
section
variable {P : Program} {T : Tm} {s s1 : St} {l : List AOp} {o : AOp} {v : SV} {K : Kn}
theorem kstep {r : Fc} {T' : Tm} {s' : St} (h1 : FReg P [o] T s [r] T' s') (h0 : ∀ Q, SRN P l T' s' Q → SRN P (o :: l) T s Q) (h : SRegK P l T' s' (cK r K)) : SRegK P (o :: l) T s K := by
  obtain ⟨dr, i, l1, l2, rs, Q⟩ := K
  cases dr with
  | false => exact h0 _ h
  | true =>
    intro hl T0 s0 hr
    cases l2 with
    | nil => cases hl
    | cons d l2 =>
      injection hl with e1 e2
      subst e1
      have := h e2 T0 s0 (by show FReg P ((l1 ++ [d]).map (·.op)) T0 s0 (rs ++ [r]) T' s'; rw [List.map_append]; exact freg_app hr h1)
      show SRC P i (l1 ++ d :: l2) T0 s0 Q
      have e : l1 ++ d :: l2 = (l1 ++ [d]) ++ l2 := by simp
      rw [e]; exact this
theorem kn (hw : wants T o.g = some false) (h : SRegK P l (putT T o.d (.tup [])) s (cK ⟨o.d, .tup [], false, [], [], s.nxt, s.nxt⟩ K)) : SRegK P (o :: l) T s K :=
  kstep (r := ⟨o.d, .tup [], false, [], [], s.nxt, s.nxt⟩) (.cons ⟨rfl, Nat.le_refl _, .inl ⟨hw, rfl, rfl⟩⟩ rfl .nil) (fun Q q => .skip hw q) h
theorem kf {A : Nat → Option Blk} {rd : List Nat} {ch : Ch} {n' : Nat} (hw : wants T o.g = some true) (hb : o.ai.ok = true) (hA : ∀ b x, A b = some x → s.H b = some x ∧ b ∈ rd) (hv : SOp P o.ai T ⟨A, s.nxt⟩ v ⟨updL A ch, n'⟩) (hch : ∀ b x, (b, x) ∈ ch → A b ≠ none ∨ (s.nxt ≤ b ∧ b < n')) (hn : s.nxt ≤ n')
    (h : SRegK P l (putT T o.d v) ⟨updL s.H ch, n'⟩ (cK ⟨o.d, v, false, rd, ch, s.nxt, n'⟩ K)) : SRegK P (o :: l) T s K :=
  kstep (r := ⟨o.d, v, false, rd, ch, s.nxt, n'⟩) (.cons ⟨rfl, hn, .inr ⟨hw, hb, A, fun b x e => ⟨(hA b x e).1, .inr (hA b x e).2⟩, hv, hch⟩⟩ rfl .nil) (fun Q q => .run _ hw hb (hv.frame (fun b x e => (hA b x e).1) hn hch).toR (by rintro _ _ ⟨rfl, rfl⟩; exact q)) h
theorem kr (hw : wants T o.g = some true) (hb : o.ai.ok = true) (hv : SOp P o.ai T s v s) (h : SRegK P l (putT T o.d v) s (cK ⟨o.d, v, true, [], [], s.nxt, s.nxt⟩ K)) : SRegK P (o :: l) T s K :=
  kstep (r := ⟨o.d, v, true, [], [], s.nxt, s.nxt⟩) (.cons ⟨rfl, Nat.le_refl _, .inr ⟨hw, hb, s.H, fun b x e => ⟨e, .inl rfl⟩, hv, fun b x hx => by cases hx⟩⟩ rfl .nil) (fun Q q => .run _ hw hb hv.toR (by rintro _ _ ⟨rfl, rfl⟩; exact q)) h
theorem kp (hw : wants T o.g = some true) (hb : o.ai.ok = true) (hv : SOpP P o.ai T v) (h : SRegK P l (putT T o.d v) s (cK ⟨o.d, v, false, [], [], s.nxt, s.nxt⟩ K)) : SRegK P (o :: l) T s K :=
  kf (A := fun _ => none) (ch := []) hw hb (fun b x e => by cases e) (hv _) (fun b x hx => by cases hx) (Nat.le_refl _) h
theorem kR {R : SV → St → Prop} (hw : wants T o.g = some true) (hb : o.ai.ok = true) (hok : okC K) (hv : SOpR P o.ai T s R) (h : ∀ v s1, R v s1 → SRegK P l (putT T o.d v) s1 (cutK K)) : SRegK P (o :: l) T s K := by
  obtain ⟨dr, i, l1, l2, rs, Q⟩ := K
  cases dr with
  | false => exact .run R hw hb hv h
  | true =>
    intro hl T0 s0 hr
    cases l2 with
    | nil => cases hl
    | cons d l2 =>
      injection hl with e1 e2
      subst e1
      have hok : neO (okF i l1 rs) ∧ cutB i l1 d l2 = true := hok
      obtain ⟨m, h1, h2⟩ := neO_some hok.1
      refine .cut R hr h1 h2 hok.2 hw hb hv (fun v s2 hR => ?_)
      have := h v s2 hR e2 (putT T d.op.d v) s2 .nil
      exact this
theorem SC.regK {nt : Nat} {Q : Exit → Tm → St → Prop} (h : SRegK P l T s ⟨false, 0, [], [], [], fun T' s' => Q .normal T' s'⟩) : SC P nt (.reg l) T s Q := ⟨nofun, fun code hc σ a w ht hh hn => by
  cases hc with
  | reg h1 => exact wp_region_list (srn_sound h _ h1 ht hh hn (fun σ' a' w' T' s' q1 q2 q3 q4 q5 => ⟨σ', T', s', q1, q2, q3, q4, q5⟩))⟩
theorem SC.dregK [Mix P] {nt : Nat} {Q : Exit → Tm → St → Prop} {l : List DOp} (h : SRegK P (l.map (·.op)) T s ⟨true, 0, [], l, [], fun T' s' => Q .normal T' s'⟩) : SC P nt (.dreg l) T s Q :=
  SC.dsrc (by have := h rfl T s .nil; exact this)
end
section
variable {P : Program} {T : Tm} {s s1 : St} {K : Kn} {l : List AOp} {d : Option Nat} {g : Option (Nat × Bool)} {x y z : SO} {v vx vy : SV} {A B m : Int} {k k' : IntKind} {op : BinOp} {ek : EK}
theorem k_no {ai : AI} (h : SRegK P l (putT T d (.tup [])) s (cK ⟨d, .tup [], false, [], [], s.nxt, s.nxt⟩ K)) (hw : wants T g = some false := by rfl) : SRegK P (⟨d, g, ai⟩ :: l) T s K := kn hw h
theorem k_mv (h : SRegK P l (putT T d v) s (cK ⟨d, v, false, [], [], s.nxt, s.nxt⟩ K)) (hx : evO T x = some v := by rfl) (hw : wants T g = some true := by rfl) : SRegK P (⟨d, g, .mv x⟩ :: l) T s K := kp hw rfl (op_mv hx) h
theorem k_pt (h : SRegK P l (putT T d v) s (cK ⟨d, v, false, [], [], s.nxt, s.nxt⟩ K)) (hx : evO T x = some (.b true) := by rfl) (hy : evO T y = some v := by rfl) (hw : wants T g = some true := by rfl) : SRegK P (⟨d, g, .pick x y z⟩ :: l) T s K := kp hw rfl (op_pick_t hx hy) h
theorem k_pf (h : SRegK P l (putT T d v) s (cK ⟨d, v, false, [], [], s.nxt, s.nxt⟩ K)) (hx : evO T x = some (.b false) := by rfl) (hy : evO T z = some v := by rfl) (hw : wants T g = some true := by rfl) : SRegK P (⟨d, g, .pick x y z⟩ :: l) T s K := kp hw rfl (op_pick_f hx hy) h
theorem k_add (h : SRegK P l (putT T d (.i .i64 (A + B))) s (cK ⟨d, .i .i64 (A + B), false, [], [], s.nxt, s.nxt⟩ K)) (hx : evO T x = some (.i .i64 A) := by rfl) (hy : evO T y = some (.i .i64 B) := by rfl) (h1 : -9223372036854775808 ≤ A + B := by omega) (h2 : A + B ≤ 9223372036854775807 := by omega) (hw : wants T g = some true := by rfl) : SRegK P (⟨d, g, .bin .add ek x y⟩ :: l) T s K := kp hw rfl (op_add hx hy h1 h2) h
theorem k_sub (h : SRegK P l (putT T d (.i .i64 (A - B))) s (cK ⟨d, .i .i64 (A - B), false, [], [], s.nxt, s.nxt⟩ K)) (hx : evO T x = some (.i .i64 A) := by rfl) (hy : evO T y = some (.i .i64 B) := by rfl) (h1 : -9223372036854775808 ≤ A - B := by omega) (h2 : A - B ≤ 9223372036854775807 := by omega) (hw : wants T g = some true := by rfl) : SRegK P (⟨d, g, .bin .sub ek x y⟩ :: l) T s K := kp hw rfl (op_sub hx hy h1 h2) h
theorem k_it {b : Bool} (h : SRegK P l (putT T d (.b true)) s (cK ⟨d, .b true, false, [], [], s.nxt, s.nxt⟩ K)) (hx : evO T x = some (.i k A) := by rfl) (hy : evO T y = some (.i k B) := by rfl) (hb : iBin op k A B = some (.b b) := by rfl) (ht : b = true := by first | rfl | assumption | (simp <;> omega)) (hw : wants T g = some true := by rfl) : SRegK P (⟨d, g, .bin op ek x y⟩ :: l) T s K := kp hw rfl (op_int hx hy (by rw [hb, ht])) h
theorem k_if {b : Bool} (h : SRegK P l (putT T d (.b false)) s (cK ⟨d, .b false, false, [], [], s.nxt, s.nxt⟩ K)) (hx : evO T x = some (.i k A) := by rfl) (hy : evO T y = some (.i k B) := by rfl) (hb : iBin op k A B = some (.b b) := by rfl) (ht : b = false := by first | rfl | assumption | (simp <;> omega)) (hw : wants T g = some true := by rfl) : SRegK P (⟨d, g, .bin op ek x y⟩ :: l) T s K := kp hw rfl (op_int hx hy (by rw [hb, ht])) h
theorem k_i (h : SRegK P l (putT T d v) s (cK ⟨d, v, false, [], [], s.nxt, s.nxt⟩ K)) (hx : evO T x = some (.i k A) := by rfl) (hy : evO T y = some (.i k B) := by rfl) (hb : iBin op k A B = some v := by rfl) (hw : wants T g = some true := by rfl) : SRegK P (⟨d, g, .bin op ek x y⟩ :: l) T s K := kp hw rfl (op_int hx hy hb) h
theorem k_st {X Y : List UInt8} {b : Bool} (h : SRegK P l (putT T d (.b true)) s (cK ⟨d, .b true, false, [], [], s.nxt, s.nxt⟩ K)) (hx : evO T x = some (.s X) := by rfl) (hy : evO T y = some (.s Y) := by rfl) (hb : sBin op X Y = some (.b b) := by rfl) (ht : b = true := by first | rfl | assumption) (hw : wants T g = some true := by rfl) : SRegK P (⟨d, g, .bin op ek x y⟩ :: l) T s K := kp hw rfl (op_str hx hy (by rw [hb, ht])) h
theorem k_sf {X Y : List UInt8} {b : Bool} (h : SRegK P l (putT T d (.b false)) s (cK ⟨d, .b false, false, [], [], s.nxt, s.nxt⟩ K)) (hx : evO T x = some (.s X) := by rfl) (hy : evO T y = some (.s Y) := by rfl) (hb : sBin op X Y = some (.b b) := by rfl) (ht : b = false := by first | rfl | assumption) (hw : wants T g = some true := by rfl) : SRegK P (⟨d, g, .bin op ek x y⟩ :: l) T s K := kp hw rfl (op_str hx hy (by rw [hb, ht])) h
theorem k_s {X Y : List UInt8} (h : SRegK P l (putT T d v) s (cK ⟨d, v, false, [], [], s.nxt, s.nxt⟩ K)) (hx : evO T x = some (.s X) := by rfl) (hy : evO T y = some (.s Y) := by rfl) (hb : sBin op X Y = some v := by rfl) (hw : wants T g = some true := by rfl) : SRegK P (⟨d, g, .bin op ek x y⟩ :: l) T s K := kp hw rfl (op_str hx hy hb) h
theorem k_cat {X Y : List UInt8} (h : SRegK P l (putT T d (.s (X ++ Y))) s (cK ⟨d, .s (X ++ Y), false, [], [], s.nxt, s.nxt⟩ K)) (hx : evO T x = some (.s X) := by rfl) (hy : evO T y = some (.s Y) := by rfl) (hl : X.length + Y.length ≤ 9223372036854775807 := by first | omega | (simp <;> omega)) (hw : wants T g = some true := by rfl) : SRegK P (⟨d, g, .bin .add ek x y⟩ :: l) T s K := kp hw rfl (op_cat hx hy hl) h
theorem k_not {t : Bool} (h : SRegK P l (putT T d (.b (!t))) s (cK ⟨d, .b (!t), false, [], [], s.nxt, s.nxt⟩ K)) (hx : evO T x = some (.b t) := by rfl) (hw : wants T g = some true := by rfl) : SRegK P (⟨d, g, .un .not x⟩ :: l) T s K := kp hw rfl (op_not hx) h
theorem k_nn (h : SRegK P l (putT T d v) s (cK ⟨d, v, false, [], [], s.nxt, s.nxt⟩ K)) (hx : evO T x = some .nilp := by rfl) (hy : evO T y = some .nilp := by rfl) (hb : eqOp op true = some v := by rfl) (hw : wants T g = some true := by rfl) : SRegK P (⟨d, g, .bin op .ptr x y⟩ :: l) T s K := kp hw rfl (op_eqnn hx hy hb) h
theorem k_pn {b o : Nat} (h : SRegK P l (putT T d v) s (cK ⟨d, v, false, [], [], s.nxt, s.nxt⟩ K)) (hx : evO T x = some (.p b o) := by rfl) (hy : evO T y = some .nilp := by rfl) (hb : eqOp op false = some v := by rfl) (hw : wants T g = some true := by rfl) : SRegK P (⟨d, g, .bin op .ptr x y⟩ :: l) T s K := kp hw rfl (op_eqpn hx hy hb) h
theorem k_bls {X : List UInt8} (h : SRegK P l (putT T d (.i .i64 X.length)) s (cK ⟨d, .i .i64 X.length, false, [], [], s.nxt, s.nxt⟩ K)) (hx : evO T x = some (.s X) := by rfl) (hw : wants T g = some true := by rfl) : SRegK P (⟨d, g, .bls x⟩ :: l) T s K := kp hw rfl (op_bls hx) h
theorem k_bll {n : Nat} (h : SRegK P l (putT T d (.i .i64 n)) s (cK ⟨d, .i .i64 n, false, [], [], s.nxt, s.nxt⟩ K)) (hx : evO T x = some vx := by rfl) (hn : lenV vx = some n := by rfl) (hw : wants T g = some true := by rfl) : SRegK P (⟨d, g, .bll x⟩ :: l) T s K := kp hw rfl (op_bll hx hn) h
theorem k_bmn (h : SRegK P l (putT T d (.i k (min A B))) s (cK ⟨d, .i k (min A B), false, [], [], s.nxt, s.nxt⟩ K)) (hx : evO T x = some (.i k A) := by rfl) (hy : evO T y = some (.i k' B) := by rfl) (hw : wants T g = some true := by rfl) : SRegK P (⟨d, g, .bmn x y⟩ :: l) T s K := kp hw rfl (op_bmn hx hy) h
theorem k_bmx (h : SRegK P l (putT T d (.i k (max A B))) s (cK ⟨d, .i k (max A B), false, [], [], s.nxt, s.nxt⟩ K)) (hx : evO T x = some (.i k A) := by rfl) (hy : evO T y = some (.i k' B) := by rfl) (hw : wants T g = some true := by rfl) : SRegK P (⟨d, g, .bmx x y⟩ :: l) T s K := kp hw rfl (op_bmx hx hy) h
theorem k_ixs {X : List UInt8} {c : UInt8} {j : Nat} (h : SRegK P l (putT T d (.i .u8 c.toNat)) s (cK ⟨d, .i .u8 c.toNat, false, [], [], s.nxt, s.nxt⟩ K)) (hx : evO T x = some (.s X) := by rfl) (hy : evO T y = some (.i k m) := by rfl) (hm : m = (j : Int) := by (first | rfl | exact (Int.natCast_succ _).symm | exact (Int.natCast_add _ _).symm | exact (Int.natCast_zero).symm | exact (Int.natCast_one).symm | exact natSub1 _ | exact natSub1' _ | (rw [← Int.natCast_sub (by omega)]) | omega)) (hc : X[j]? = some c := by first | assumption | rfl) (hw : wants T g = some true := by rfl) : SRegK P (⟨d, g, .ixs x y⟩ :: l) T s K := kp hw rfl (op_ixs hx hy j hc hm) h
theorem k_fl1 {c : List SV} {n : Nat} (h : SRegK P l (putT T d v) s (cK ⟨d, v, false, [], [], s.nxt, s.nxt⟩ K)) (hx : evO T x = some (.agg c) := by rfl) (hn : c[n]? = some v := by rfl) (hw : wants T g = some true := by rfl) : SRegK P (⟨d, g, .fl1 n x⟩ :: l) T s K := kp hw rfl (op_fl1 hx hn) h
theorem k_fln {c : List SV} {n i : Nat} (h : SRegK P l (putT T d (.agg ((c.drop i).take n))) s (cK ⟨d, .agg ((c.drop i).take n), false, [], [], s.nxt, s.nxt⟩ K)) (hx : evO T x = some (.agg c) := by rfl) (hw : wants T g = some true := by rfl) : SRegK P (⟨d, g, .fln i n x⟩ :: l) T s K := kp hw rfl (op_fln hx) h
theorem k_ext {c : List SV} {n : Nat} (h : SRegK P l (putT T d v) s (cK ⟨d, v, false, [], [], s.nxt, s.nxt⟩ K)) (hx : evO T x = some (.tup c) := by rfl) (hn : c[n]? = some v := by rfl) (hw : wants T g = some true := by rfl) : SRegK P (⟨d, g, .ext x n⟩ :: l) T s K := kp hw rfl (op_ext hx hn) h
theorem k_fa {b o n : Nat} (h : SRegK P l (putT T d (.p b (o + n))) s (cK ⟨d, .p b (o + n), false, [], [], s.nxt, s.nxt⟩ K)) (hx : evO T x = some (.p b o) := by rfl) (hw : wants T g = some true := by rfl) : SRegK P (⟨d, g, .fa n x⟩ :: l) T s K := kp hw rfl (op_fa hx) h
theorem k_fal {c : List SV} {n : Nat} (h : SRegK P l (putT T d (.pl (c.drop n))) s (cK ⟨d, .pl (c.drop n), false, [], [], s.nxt, s.nxt⟩ K)) (hx : evO T x = some (.pl c) := by rfl) (hw : wants T g = some true := by rfl) : SRegK P (⟨d, g, .fa n x⟩ :: l) T s K := kp hw rfl (op_fal hx) h
theorem k_bld {ps : List (Nat × Nat × SO)} {zs z' : List SV} (h : SRegK P l (putT T d (.agg z')) s (cK ⟨d, .agg z', false, [], [], s.nxt, s.nxt⟩ K)) (hb : bldP T ps zs = some z' := by rfl) (hw : wants T g = some true := by rfl) : SRegK P (⟨d, g, .bld zs ps⟩ :: l) T s K := kp hw rfl (op_bld hb) h
theorem k_cvi {n : Int} (h : SRegK P l (putT T d (.i k (k.wrap n))) s (cK ⟨d, .i k (k.wrap n), false, [], [], s.nxt, s.nxt⟩ K)) (hx : evO T x = some (.i k' n) := by rfl) (hw : wants T g = some true := by rfl) : SRegK P (⟨d, g, .cvi k x⟩ :: l) T s K := kp hw rfl (op_cvi hx) h
theorem k_cid {X : List UInt8} (h : SRegK P l (putT T d (.s X)) s (cK ⟨d, .s X, false, [], [], s.nxt, s.nxt⟩ K)) (hx : evO T x = some (.s X) := by rfl) (hw : wants T g = some true := by rfl) : SRegK P (⟨d, g, .cid x⟩ :: l) T s K := kp hw rfl (op_cid hx) h
theorem k_nilc {b o : Nat} (h : SRegK P l (putT T d (.p b o)) s (cK ⟨d, .p b o, false, [], [], s.nxt, s.nxt⟩ K)) (hx : evO T x = some (.p b o) := by rfl) (hw : wants T g = some true := by rfl) : SRegK P (⟨d, g, .nilc x⟩ :: l) T s K := kp hw rfl (op_nilc hx) h
theorem k_mkf {f : Nat} {az : List SO} {vs : List SV} (h : SRegK P l (putT T d (.f f vs)) s (cK ⟨d, .f f vs, false, [], [], s.nxt, s.nxt⟩ K)) (hl : evOs T az = some vs := by rfl) (hw : wants T g = some true := by rfl) : SRegK P (⟨d, g, .mkf f az⟩ :: l) T s K := kp hw rfl (op_mkf hl) h
theorem k_sl {X : List UInt8} {j : Nat} (h : SRegK P l (putT T d (.s (X.take j))) s (cK ⟨d, .s (X.take j), false, [], [], s.nxt, s.nxt⟩ K)) (hx : evO T x = some (.s X) := by rfl) (hy : evO T y = some (.i k m) := by rfl) (hm : m = (j : Int) := by (first | rfl | exact (Int.natCast_succ _).symm | exact (Int.natCast_add _ _).symm | exact (Int.natCast_zero).symm | exact (Int.natCast_one).symm | exact natSub1 _ | exact natSub1' _ | (rw [← Int.natCast_sub (by omega)]) | omega)) (hj : j ≤ X.length := by first | omega | (simp <;> omega)) (hw : wants T g = some true := by rfl) : SRegK P (⟨d, g, .sls x none (some y)⟩ :: l) T s K := kp hw rfl (op_sls hx .no (.at_ hy hm) (Nat.zero_le _) hj) h
theorem k_sh {X : List UInt8} {j : Nat} (h : SRegK P l (putT T d (.s (X.drop j))) s (cK ⟨d, .s (X.drop j), false, [], [], s.nxt, s.nxt⟩ K)) (hx : evO T x = some (.s X) := by rfl) (hy : evO T y = some (.i k m) := by rfl) (hm : m = (j : Int) := by (first | rfl | exact (Int.natCast_succ _).symm | exact (Int.natCast_add _ _).symm | exact (Int.natCast_zero).symm | exact (Int.natCast_one).symm | exact natSub1 _ | exact natSub1' _ | (rw [← Int.natCast_sub (by omega)]) | omega)) (hj : j ≤ X.length := by first | omega | (simp <;> omega)) (hw : wants T g = some true := by rfl) : SRegK P (⟨d, g, .sls x (some y) none⟩ :: l) T s K := kp hw rfl (by have := op_sls (P := P) hx (.at_ hy hm) .no hj (Nat.le_refl _); rwa [List.take_of_length_le (Nat.le_refl _)] at this) h
theorem k_slh {X : List UInt8} {i j : Nat} {m' : Int} (h : SRegK P l (putT T d (.s ((X.take j).drop i))) s (cK ⟨d, .s ((X.take j).drop i), false, [], [], s.nxt, s.nxt⟩ K)) (hx : evO T x = some (.s X) := by rfl) (hy : evO T y = some (.i k m) := by rfl) (hz : evO T z = some (.i k' m') := by rfl) (hm : m = (i : Int) := by (first | rfl | exact (Int.natCast_succ _).symm | exact (Int.natCast_add _ _).symm | exact (Int.natCast_zero).symm | exact (Int.natCast_one).symm | exact natSub1 _ | exact natSub1' _ | (rw [← Int.natCast_sub (by omega)]) | omega)) (hm' : m' = (j : Int) := by (first | rfl | exact (Int.natCast_succ _).symm | exact (Int.natCast_add _ _).symm | exact (Int.natCast_zero).symm | exact (Int.natCast_one).symm | exact natSub1 _ | exact natSub1' _ | (rw [← Int.natCast_sub (by omega)]) | omega)) (hij : i ≤ j := by omega) (hj : j ≤ X.length := by first | omega | (simp <;> omega)) (hw : wants T g = some true := by rfl) : SRegK P (⟨d, g, .sls x (some y) (some z)⟩ :: l) T s K := kp hw rfl (op_sls hx (.at_ hy hm) (.at_ hz hm') hij hj) h
theorem k_ld1 {x : SO} {c : List SV} (h : SRegK P l (putT T d v) s (cK ⟨d, v, true, [], [], s.nxt, s.nxt⟩ K)) (hx : evO T x = some vx := by rfl) (hc : ptrCells s vx = some c := by first | rfl | assumption) (h0 : c[0]? = some v := by first | rfl | assumption) (hw : wants T g = some true := by rfl) : SRegK P (⟨d, g, .ld1 x⟩ :: l) T s K := kr hw rfl (op_ld1 hx hc h0) h
end
end Go.Sy
end
section
namespace Go.Sy
open Go
set_option linter.unusedVariables false
set_option linter.unusedSimpArgs false
mutual
inductive Wk : SV → SV → Prop
  | refl (a : SV) : Wk a a
  | nil : Wk .nils (.lst 0 [])
  | lst {n : Nat} {c c' : List SV} (h : Wks c c') : Wk (.lst n c) (.lst n c')
  | agg {c c' : List SV} (h : Wks c c') : Wk (.agg c) (.agg c')
  | tup {c c' : List SV} (h : Wks c c') : Wk (.tup c) (.tup c')
  | pl {c c' : List SV} (h : Wks c c') : Wk (.pl c) (.pl c')
  | f {n : Nat} {c c' : List SV} (h : Wks c c') : Wk (.f n c) (.f n c')
inductive Wks : List SV → List SV → Prop
  | nil : Wks [] []
  | cons {a b : SV} {l m : List SV} (h : Wk a b) (t : Wks l m) : Wks (a :: l) (b :: m)
end
theorem Wks.refl : ∀ l, Wks l l
  | [] => .nil
  | a :: l => .cons (.refl a) (Wks.refl l)
theorem Wks.append : ∀ {a b c d : List SV}, Wks a b → Wks c d → Wks (a ++ c) (b ++ d)
  | _, _, _, _, .nil, h => h
  | _, _, _, _, .cons h t, k => .cons h (Wks.append t k)
theorem Wks.length : ∀ {a b : List SV}, Wks a b → a.length = b.length
  | _, _, .nil => rfl
  | _, _, .cons h t => by simp [Wks.length t]
mutual
theorem VR.wk {σ : Env} : ∀ {a b : SV} {v : Value}, Wk a b → VR σ a v → VR σ b v
  | _, _, _, .refl a, h => h
  | _, _, _, .nil, h => by cases h; exact .lst0 (fun _ => rfl) (by simp [maxLen]) nofun
  | _, _, _, .lst k, .lst h hx hp hn hc => .lst h (VRs.wk k hx) hp hn hc
  | _, _, _, .lst k, .lst0 h0 hc hm => by cases k; exact .lst0 h0 hc hm
  | _, _, _, .agg k, .agg h => .agg (VRs.wk k h)
  | _, _, _, .tup k, .tup h => .tup (VRs.wk k h)
  | _, _, _, .pl k, .pl h hx hp => .pl h (VRs.wk k hx) hp
  | _, _, _, .f k, .f h => .f (VRs.wk k h)
theorem VRs.wk {σ : Env} : ∀ {a b : List SV} {v : List Value}, Wks a b → VRs σ a v → VRs σ b v
  | _, _, _, .nil, h => h
  | _, _, _, .cons k t, .cons h r => .cons (VR.wk k h) (VRs.wk t r)
end
theorem Wk.one {a b : SV} (h : Wk a b) : b.one = a.one := by cases h <;> rfl
theorem Wks.one : ∀ {a b : List SV}, Wks a b → a.all SV.one = true → b.all SV.one = true
  | _, _, .nil, h => h
  | _, _, .cons k t, h => by
    simp only [List.all_cons, Bool.and_eq_true] at h ⊢
    exact ⟨by rw [k.one]; exact h.1, t.one h.2⟩
mutual
theorem Wk.trans : ∀ {a b c : SV}, Wk a b → Wk b c → Wk a c
  | _, _, _, .refl a, h => h
  | _, _, _, .nil, h => by cases h <;> first | exact .nil | (rename_i h; cases h; exact .nil)
  | _, _, _, .lst k, h => by
    cases h with
    | refl => exact .lst k
    | lst h => exact .lst (Wks.trans k h)
  | _, _, _, .agg k, h => by
    cases h with
    | refl => exact .agg k
    | agg h => exact .agg (Wks.trans k h)
  | _, _, _, .tup k, h => by
    cases h with
    | refl => exact .tup k
    | tup h => exact .tup (Wks.trans k h)
  | _, _, _, .pl k, h => by
    cases h with
    | refl => exact .pl k
    | pl h => exact .pl (Wks.trans k h)
  | _, _, _, .f k, h => by
    cases h with
    | refl => exact .f k
    | f h => exact .f (Wks.trans k h)
theorem Wks.trans : ∀ {a b c : List SV}, Wks a b → Wks b c → Wks a c
  | _, _, _, .nil, h => h
  | _, _, _, .cons k t, .cons h r => .cons (Wk.trans k h) (Wks.trans t r)
end
theorem SCallR.weak {P : Program} {f : Nat} {az : List SV} {s : St} {Q : SV → St → Prop} (h : SCallR P f az s fun r s' => ∃ r', Wk r r' ∧ Q r' s') : SCallR P f az s Q := fun σ w vs hh hv =>
  (h σ w vs hh hv).mono fun x w' ⟨r, s1, σ', h1, h2, r', h3, h4⟩ => ⟨r', s1, σ', h1.wk h3, h2, h4⟩
theorem SCallR.args {P : Program} {f : Nat} {az bs : List SV} {s : St} {Q : SV → St → Prop} (h : SCallR P f bs s Q) (k : Wks az bs) : SCallR P f az s Q := fun σ w vs hh hv => h σ w vs hh (hv.wk k)
theorem SCall.args {P : Program} {f : Nat} {az bs : List SV} {s s1 : St} {r : SV} (h : SCall P f bs s r s1) (k : Wks az bs) : SCall P f az s r s1 := fun σ w vs hh hv => h σ w vs hh (hv.wk k)
theorem SCall.toR {P : Program} {f : Nat} {az : List SV} {s s1 : St} {r : SV} (h : SCall P f az s r s1) : SCallR P f az s fun r' s' => r' = r ∧ s' = s1 := fun σ w vs hh hv => (h σ w vs hh hv).mono fun x w' ⟨σ', h1, h2⟩ => ⟨r, s1, σ', h1, h2, rfl, rfl⟩
theorem SCall.weak {P : Program} {f : Nat} {az : List SV} {s s1 : St} {r r' : SV} (h : SCall P f az s r s1) (k : Wk r r') : SCall P f az s r' s1 := fun σ w vs hh hv => (h σ w vs hh hv).mono fun x w' ⟨σ', h1, h2⟩ => ⟨σ', h1.wk k, h2⟩
inductive BW : Blk → Blk → Prop
  | row {e z m : Nat} {c c' : List SV} (h : Wks (c.take m) c') : BW (.row e z c) (.row e z c')
theorem BW.refl : ∀ k, BW k k
  | .row e z c => .row (m := c.length) (by rw [List.take_length]; exact Wks.refl _)
theorem HR.weak {σ : Env} {s s2 : St} {w : World} (h : HR σ s w) (hn : s.nxt ≤ s2.nxt) (hH : ∀ b k', s2.H b = some k' → ∃ k, s.H b = some k ∧ BW k k') : Good σ s w σ s2 w := by
  refine ⟨.refl _, ⟨fun b k' e => ?_, h.virt, fun b b' k k' r κ κ' e e' => ?_, fun b k r κ e => ?_, h.frz, fun b hb => h.fresh b (Nat.le_trans hn hb), h.lt, h.m⟩, ⟨rfl, rfl, rfl, Nat.le_refl _, fun _ _ _ => rfl⟩, fun b x r κ e a => ?_, hn, fun _ _ => ⟨rfl, rfl⟩, zn_same⟩
  · obtain ⟨k, h1, h2⟩ := hH b k' e
    cases h2 with
    | @row e z m c c' hw =>
      rcases h.blk b _ h1 with ⟨h3, e', z', h4⟩ | ⟨r, κ, o, h3, h4, cc, xs, lo, hi, rfl, h5, h6, h7, h8, h9⟩
      · injection h4 with _ _ h4
        subst h4
        simp only [List.take_nil] at hw
        cases hw
        exact .inl ⟨h3, _, _, rfl⟩
      · refine .inr ⟨r, κ, _, h3, h4, cc, xs.take m, lo, hi, rfl, (h5.take m).wk hw, (List.take_prefix _ _).trans h6, h7, hw.one ?_, h9⟩
        rw [List.all_eq_true] at h8 ⊢
        exact fun x hx => h8 x (List.mem_of_mem_take hx)
  · obtain ⟨_, h1, _⟩ := hH b k e
    obtain ⟨_, h2, _⟩ := hH b' k' e'
    exact h.inj b b' _ _ r κ κ' h1 h2
  · obtain ⟨_, h1, _⟩ := hH b k e
    exact h.apart b _ r κ h1
  · obtain ⟨k, h1, _⟩ := hH b x e
    exact .inr ⟨b, k, κ, h1, a⟩
section
variable {P : Program} {nt : Nat} {T : Tm} {s : St} {Q : Exit → Tm → St → Prop}
theorem SC.weak {c : AC} {s2 : St} (hn : s.nxt ≤ s2.nxt) (hH : ∀ b k', s2.H b = some k' → ∃ k, s.H b = some k ∧ BW k k') (h : SC P nt c T s2 Q) : SC P nt c T s Q := ⟨h.1, fun code hc σ a w ht hh hnt => by
  have hg := hh.weak hn hH
  refine wp_mono (h.2 code hc σ a w ht hg.hr hnt) ?_
  rintro e a' w' ⟨σ2, T', s', q1, q2, q3, q4, q5⟩
  exact ⟨σ2, T', s', q1, q2, q3, hg.trans q4, q5⟩⟩
theorem SC.weakRow {c : AC} {H : Nat → Option Blk} {n b e z m : Nat} {cs cs' : List SV} (hb : H b = some (.row e z cs)) (hw : Wks (cs.take m) cs') (h : SC P nt c T ⟨upd H b (some (.row e z cs')), n⟩ Q) : SC P nt c T ⟨H, n⟩ Q :=
  .weak (s2 := ⟨upd H b (some (.row e z cs')), n⟩) (Nat.le_refl _) (fun y k' e => by
    simp only [upd] at e
    split at e
    · rename_i hy; subst hy
      obtain rfl := Option.some.inj e
      exact ⟨_, hb, .row hw⟩
    · exact ⟨_, e, .refl _⟩) h
theorem SC.mid {c y : AC} {id : Nat} {Q2 : Exit → Tm → St → Prop} (L : List Nat) (M : List SV → St → Prop) (h2 : ∀ vs s', M vs s' → SC P nt y (L.zip vs) s' Q2) (h1 : SC P nt c T s (inb id (thn (fun T' s' => ∃ vs, getL T' L = some vs ∧ M vs s') Q))) : SC P nt c T s (inb id (thn (fun T' s' => SC P nt y T' s' Q2) Q)) := by
  refine h1.mono fun e T' s' h => ?_
  have key : ∀ T' s', (∃ vs, getL T' L = some vs ∧ M vs s') → SC P nt y T' s' Q2 := fun T' s' ⟨vs, g1, g2⟩ => SC.sub (getL_zip L vs g1) (h2 vs s' g2)
  cases e with
  | normal => exact key T' s' h
  | exit id' =>
    simp only [inb] at h ⊢
    cases hb : Nat.beq id' id with
    | true => rw [hb] at h; exact key T' s' h
    | false => rw [hb] at h; exact h
  | _ => exact h
theorem SC.wkT {c : AC} {t : Nat} {v v' : SV} (ht : T.get t = some v) (hv : Wk v v') (h : SC P nt c ((t, v') :: T) s Q) : SC P nt c T s Q := ⟨h.1, fun code hc σ a w hT hh hnt => h.2 code hc σ a w (fun u x e => by
  rw [Tm.get_cons] at e
  split at e
  · rename_i hu
    obtain rfl := Option.some.inj e
    rw [hu]
    exact ⟨(hT t v ht).1, (hT t v ht).2.wk hv⟩
  · exact hT u x e) hh hnt⟩
end
section
variable {P : Program} {T : Tm} {s : St}
theorem rdS_keep {e z : Nat} {b : Nat} {k : Option Blk} {esz n : Nat} {v : SV} {cs : List SV} {s2 : St} (h : rdS esz s v = some (n, cs)) (hH : ∀ b k, s.H b = some k → s2.H b = some k) : rdS esz s2 v = some (n, cs) := by
  cases v <;> simp only [rdS] at h ⊢ <;> try exact h
  split at h
  · rename_i e z cs' hb
    rw [hH _ _ hb]; exact h
  · cases h
theorem op_app0 {e esz bytes : Nat} {str : Bool} {x y : SO} {m : Nat} {vy : SV} {new : List SV} (hx : evO T x = some .nils) (hy : evO T y = some vy) (hr : rdA str esz s vy = some (m, new)) (hs : str = true → esz = 1) (hnl : new.length = m * esz) (h1 : new.all SV.one = true) (h63 : m ≤ 4503599627370496)
    (hfit : (2 * m + 1000) * bytes ≤ 281474976710656) :
    SOp P (.app e esz bytes str x y) T s (.sl (s.nxt + 1) 0 m) { H := upd s.H (s.nxt + 1) (some (.row e esz new)), nxt := s.nxt + 2 } := SOp.ran fun o hcp σ w a hh ho => by
  generalize hop : o.op = op at hcp
  have hg := hh.virtual e esz
  have hn0 := hh.hnone (Nat.le_refl s.nxt)
  have hr' : rdA str esz { H := upd s.H s.nxt (some (.row e esz [])), nxt := s.nxt + 1 } vy = some (m, new) := by
    cases str with
    | true => exact hr
    | false =>
      refine rdS_keep (e := 0) (z := 0) (b := 0) (k := none) hr (fun b k hb => ?_)
      show upd s.H s.nxt _ b = _
      rw [upd_ne]
      · exact hb
      · rintro rfl; rw [hn0] at hb; cases hb
  have heq : (⟨upd (upd (upd s.H s.nxt (some (.row e esz []))) s.nxt none) (s.nxt + 1) (some (.row e esz ([] ++ new))), s.nxt + 1 + 1⟩ : St) = ⟨upd s.H (s.nxt + 1) (some (.row e esz new)), s.nxt + 2⟩ := by
    rw [upd_upd]
    have : upd s.H s.nxt none = s.H := by
      funext y; unfold upd; split
      · rename_i hy; subst hy; exact hn0.symm
      · rfl
    rw [this]; rfl
  have hX : ∀ {q : Value}, VR σ .nils q → VR (σ.virt s.nxt) (.sl s.nxt 0 0) q := fun {q} h => by cases h; exact .sl0 (if_pos rfl)
  cases hcp with
  | app k1 k2 k3 k4 k5 k6 k7 k8 =>
    rename_i c t u z e' i
    obtain ⟨y1, y2, hy1, hy2, hy3⟩ := oL_two k3
    obtain ⟨i', zv, q1, q2, q3, q4, q5⟩ := zOf_sound k7
    rw [k6] at q1
    obtain rfl := Option.some.inj q1
    obtain ⟨r, σ', w', g1, g2, g3⟩ := app_own (ty := o.type) (b := s.nxt) (n := 0) (old := []) k4 k5 (.inl ⟨_, rfl⟩) k6 q2 q5 k8.1 k8.2 hg.hr (hX (oo_sound hy2 hx ho.l)) ((oo_sound hy3 hy ho.r).ext hg.ext) (upd_same _ _ _) (by simp) hr' hs hnl h1 (by omega) (by simpa using hfit)
    rw [Nat.zero_add] at g2
    rw [heq] at g3
    refine ⟨r, σ', w', .inl (run_builtin hop k1 rfl ?_), g2, hg.trans g3⟩
    have : c.argTypes = #[t, u] := by apply Array.ext'; rw [k2]
    rw [this, hy1]
    simpa using g1
  | apps k1 k2 k3 k4 k5 k6 k7 k8 =>
    rename_i c t u z i
    obtain ⟨y1, y2, hy1, hy2, hy3⟩ := oL_two k3
    obtain ⟨i', zv, q1, q2, q3, q4, q5⟩ := zOf_sound k7
    rw [k6] at q1
    obtain rfl := Option.some.inj q1
    obtain ⟨r, σ', w', g1, g2, g3⟩ := app_own (ty := o.type) (b := s.nxt) (n := 0) (old := []) k4 k5 (.inr rfl) k6 q2 q5 k8.1 k8.2 hg.hr (hX (oo_sound hy2 hx ho.l)) ((oo_sound hy3 hy ho.r).ext hg.ext) (upd_same _ _ _) (by simp) hr' hs hnl h1 (by omega) (by simpa using hfit)
    rw [Nat.zero_add] at g2
    rw [heq] at g3
    refine ⟨r, σ', w', .inl (run_builtin hop k1 rfl ?_), g2, hg.trans g3⟩
    have : c.argTypes = #[t, u] := by apply Array.ext'; rw [k2]
    rw [this, hy1]
    simpa using g1
end
theorem VRs.mid {σ : Env} : ∀ {l1 l2 : List SV} {v v' : SV} {xs : List Value}, (∀ x, VR σ v x → VR σ v' x) → VRs σ (l1 ++ v :: l2) xs → VRs σ (l1 ++ v' :: l2) xs
  | [], l2, v, v', _, h, .cons h1 h2 => .cons (h _ h1) h2
  | a :: l1, l2, v, v', _, h, .cons h1 h2 => .cons h1 (VRs.mid h h2)
theorem frz_val {σ : Env} {s : St} {w : World} (hh : HR σ s w) {b n e z : Nat} {cells : List SV} (hb : s.H b = some (.row e z cells)) : ∀ {x : Value}, VR σ (.sl b 0 n) x → ∃ σ', (∀ y, VR σ (.sl b 0 n) y → VR σ' (.lst n cells) y) ∧ Good σ s w σ' ⟨upd s.H b none, s.nxt⟩ w := by
  intro x hx
  rcases hx.sl_inv with ⟨r, κ, c, rfl, ha, hn, hc, _⟩ | ⟨rfl, hv, _, rfl⟩
  · obtain ⟨xs, h1, hg⟩ := hh.freeze hb ha
    refine ⟨_, fun y hy => ?_, hg⟩
    rcases hy.sl_inv with ⟨r', κ', c', rfl, ha', hn', hc', _⟩ | ⟨rfl, hv', _, _⟩
    · rw [ha] at ha'
      obtain ⟨rfl, rfl⟩ := Prod.mk.inj (Option.some.inj ha')
      exact .lst (xs := xs) (zs := xs) (if_pos rfl) (h1.ext hg.ext) (by simp) hn' hc'
    · rw [hh.virt b hv'] at ha; cases ha
  · refine ⟨σ, fun y hy => ?_, Good.fewer (.refl hh) (fun b' k hk => ?_) (Nat.le_refl _)⟩
    · have hcs : cells = [] := by
        rcases hh.blk b _ hb with ⟨_, e', z', he⟩ | ⟨r, κ, o, ha, _⟩
        · injection he
        · rw [hh.virt b hv] at ha; cases ha
      subst hcs
      rcases hy.sl_inv with ⟨r', κ', c', rfl, ha', _⟩ | ⟨rfl, _, _, _⟩
      · rw [hh.virt b hv] at ha'; cases ha'
      · exact .lst0 (fun _ => rfl) (by simp [maxLen]) nofun
    · simp only [upd] at hk
      split at hk
      · cases hk
      · exact hk
theorem SCallR.frz {P : Program} {f : Nat} {az : List SV} {s : St} {Q : SV → St → Prop} (h : SCallR P f az s fun r s' => ∃ b n e z cells, r = .sl b 0 n ∧ s'.H b = some (.row e z cells) ∧ Q (.lst n cells) ⟨upd s'.H b none, s'.nxt⟩) : SCallR P f az s Q := fun σ w vs hh hv =>
  (h σ w vs hh hv).mono fun x w' ⟨r, s1, σ', h1, h2, b, n, e, z, cells, h3, h4, h5⟩ => by
    subst h3
    obtain ⟨σ2, q1, q2⟩ := frz_val h2.hr h4 h1
    exact ⟨_, _, σ2, q1 _ h1, h2.trans q2, h5⟩
theorem SCallR.frzT {P : Program} {f : Nat} {az : List SV} {s : St} {Q : SV → St → Prop} (h : SCallR P f az s fun r s' => ∃ b n e z cells l1 l2, r = .tup (l1 ++ .sl b 0 n :: l2) ∧ s'.H b = some (.row e z cells) ∧ Q (.tup (l1 ++ .lst n cells :: l2)) ⟨upd s'.H b none, s'.nxt⟩) : SCallR P f az s Q := fun σ w vs hh hv =>
  (h σ w vs hh hv).mono fun x w' ⟨r, s1, σ', h1, h2, b, n, e, z, cells, l1, l2, h3, h4, h5⟩ => by
    subst h3
    cases h1 with
    | tup h1 =>
      obtain ⟨ys, zs, rfl, k1, k2⟩ := h1.split
      cases k2 with
      | cons k2 k3 =>
        obtain ⟨σ2, q1, q2⟩ := frz_val h2.hr h4 k2
        exact ⟨_, _, σ2, .tup ((k1.ext q2.ext).append (.cons (q1 _ k2) (k3.ext q2.ext))), h2.trans q2, h5⟩
theorem h_same {H : Nat → Option Blk} {b : Nat} {x y : Option Blk} (h : x = y) : upd H b x b = y := by rw [upd_same]; exact h
theorem h_ne {H : Nat → Option Blk} {b y : Nat} {x r : Option Blk} (hne : y ≠ b) (h : H y = r) : upd H b x y = r := by rw [upd_ne _ _ hne]; exact h
end Go.Sy
end
section
namespace Go.Sy
open Go
set_option linter.unusedVariables false
abbrev A0 : Nat → Option Blk := fun _ => none
abbrev A1 (b : Nat) (x : Blk) : Nat → Option Blk := upd A0 b (some x)
abbrev A2 (b : Nat) (x : Blk) (b' : Nat) (y : Blk) : Nat → Option Blk := upd (A1 b' y) b (some x)
theorem A0_sub {H : Nat → Option Blk} {l : List Nat} : ∀ b x, A0 b = some x → H b = some x ∧ b ∈ l := fun b x e => by cases e
theorem A1_sub {H : Nat → Option Blk} {b : Nat} {x : Blk} (h : H b = some x) : ∀ y z, A1 b x y = some z → H y = some z ∧ y ∈ [b] := fun y z e => by
  simp only [A1, upd] at e
  split at e
  · rename_i hy; subst hy; rw [← e]; exact ⟨h, List.mem_singleton.2 rfl⟩
  · cases e
theorem A2_sub {H : Nat → Option Blk} {b b' : Nat} {x y : Blk} (h : H b = some x) (h' : H b' = some y) : ∀ u z, A2 b x b' y u = some z → H u = some z ∧ u ∈ [b, b'] := fun u z e => by
  simp only [A2, A1, upd] at e
  split at e
  · rename_i hy; subst hy; rw [← e]; exact ⟨h, List.mem_cons_self ..⟩
  · split at e
    · rename_i hy; subst hy; rw [← e]; exact ⟨h', List.mem_cons_of_mem _ (List.mem_singleton.2 rfl)⟩
    · cases e
theorem A1_at (b : Nat) (x : Blk) : A1 b x b = some x := upd_same _ _ _
theorem A2_at (b : Nat) (x : Blk) (b' : Nat) (y : Blk) : A2 b x b' y b = some x := upd_same _ _ _
theorem A2_at' {H : Nat → Option Blk} {b b' : Nat} {x y : Blk} (h : H b = some x) (h' : H b' = some y) : A2 b x b' y b' = some y := by
  by_cases e : b' = b
  · subst e
    rw [h] at h'
    obtain rfl := Option.some.inj h'
    exact upd_same _ _ _
  · rw [A2, upd_ne _ _ e]; exact upd_same _ _ _
theorem ch0 {A : Nat → Option Blk} {n n' : Nat} : ∀ b x, (b, x) ∈ ([] : Ch) → A b ≠ none ∨ (n ≤ b ∧ b < n') := fun b x h => by cases h
theorem chN {A : Nat → Option Blk} {n : Nat} {y : Option Blk} : ∀ b x, (b, x) ∈ ([(n, y)] : Ch) → A b ≠ none ∨ (n ≤ b ∧ b < n + 1) := fun b x h => by
  obtain ⟨rfl, rfl⟩ := Prod.mk.inj (List.mem_singleton.1 h)
  exact .inr ⟨Nat.le_refl _, Nat.lt_succ_self _⟩
theorem chO {A : Nat → Option Blk} {n n' b0 : Nat} {y : Option Blk} (hb : A b0 ≠ none) : ∀ b x, (b, x) ∈ ([(b0, y)] : Ch) → A b ≠ none ∨ (n ≤ b ∧ b < n') := fun b x h => by
  obtain ⟨rfl, rfl⟩ := Prod.mk.inj (List.mem_singleton.1 h)
  exact .inl hb
theorem chON {A : Nat → Option Blk} {n b0 : Nat} {y z : Option Blk} (hb : A b0 ≠ none) : ∀ b x, (b, x) ∈ ([(b0, y), (n, z)] : Ch) → A b ≠ none ∨ (n ≤ b ∧ b < n + 1) := fun b x h => by
  rcases List.mem_cons.1 h with h | h
  · obtain ⟨rfl, rfl⟩ := Prod.mk.inj h
    exact .inl hb
  · exact chN b x h
theorem chM {A : Nat → Option Blk} {n : Nat} {y : Option Blk} : ∀ b x, (b, x) ∈ ([(n + 1, y)] : Ch) → A b ≠ none ∨ (n ≤ b ∧ b < n + 2) := fun b x h => by
  obtain ⟨rfl, rfl⟩ := Prod.mk.inj (List.mem_singleton.1 h)
  exact .inr ⟨Nat.le_succ _, Nat.lt_succ_self _⟩
section
variable {P : Program} {T : Tm} {H : Nat → Option Blk} {n : Nat} {l : List AOp} {d : Option Nat} {g : Option (Nat × Bool)} {x y z : SO} {v vx vy : SV} {A B m m' : Int} {k k' : IntKind} {op : BinOp} {ek : EK} {K : Kn} {b b' o o' e e' esz w j off q : Nat} {c c' cs new old : List SV}
theorem k_ldp (h : SRegK P l (putT T d v) ⟨H, n⟩ (cK ⟨d, v, false, [b], [], n, n⟩ K)) (hx : evO T x = some (.p b o) := by rfl) (hb : H b = some (.row e esz c) := by ((try dsimp only) <;> (repeat first | assumption | with_reducible rfl | exact h_same rfl | refine h_ne (by first | assumption | omega) ?_))) (h0 : c[o]? = some v := by (first | rfl | assumption | (simp only [List.getElem?_drop, Nat.add_zero, Nat.zero_add, Nat.mul_one]; assumption))) (hw : wants T g = some true := by rfl) : SRegK P (⟨d, g, .ld1 x⟩ :: l) T ⟨H, n⟩ K :=
  kf (A := A1 b (.row e esz c)) (ch := []) hw rfl (A1_sub hb) (op_ld1 (s := ⟨A1 b (.row e esz c), n⟩) (cells := c.drop o) hx (by simp only [ptrCells, A1_at]) (by simpa using h0)) ch0 (Nat.le_refl _) h
theorem k_ldl (h : SRegK P l (putT T d v) ⟨H, n⟩ (cK ⟨d, v, false, [], [], n, n⟩ K)) (hx : evO T x = some (.pl c) := by rfl) (h0 : c[0]? = some v := by (first | rfl | assumption | (simp only [List.getElem?_drop, Nat.add_zero, Nat.zero_add, Nat.mul_one]; assumption))) (hw : wants T g = some true := by rfl) : SRegK P (⟨d, g, .ld1 x⟩ :: l) T ⟨H, n⟩ K :=
  kf (A := A0) (ch := []) hw rfl A0_sub (op_ld1 (s := ⟨A0, n⟩) hx rfl h0) ch0 (Nat.le_refl _) h
theorem k_lnp (h : SRegK P l (putT T d (.agg c')) ⟨H, n⟩ (cK ⟨d, .agg c', false, [b], [], n, n⟩ K)) (hx : evO T x = some (.p b o) := by rfl) (hb : H b = some (.row e esz c) := by ((try dsimp only) <;> (repeat first | assumption | with_reducible rfl | exact h_same rfl | refine h_ne (by first | assumption | omega) ?_))) (hn : q ≤ (c.drop o).length := by first | decide | (simp <;> omega)) (hc : (c.drop o).take q = c' := by kernel_rfl) (hw : wants T g = some true := by rfl) : SRegK P (⟨d, g, .ldn q x⟩ :: l) T ⟨H, n⟩ K :=
  kf (A := A1 b (.row e esz c)) (ch := []) hw rfl (A1_sub hb) (hc ▸ op_ldn (s := ⟨A1 b (.row e esz c), n⟩) (cells := c.drop o) hx (by simp only [ptrCells, A1_at]) hn) ch0 (Nat.le_refl _) h
theorem k_lnl (h : SRegK P l (putT T d (.agg c')) ⟨H, n⟩ (cK ⟨d, .agg c', false, [], [], n, n⟩ K)) (hx : evO T x = some (.pl c) := by rfl) (hn : q ≤ c.length := by first | decide | assumption | omega | (simp <;> omega)) (hc : c.take q = c' := by first | assumption | kernel_rfl) (hw : wants T g = some true := by rfl) : SRegK P (⟨d, g, .ldn q x⟩ :: l) T ⟨H, n⟩ K :=
  kf (A := A0) (ch := []) hw rfl A0_sub (hc ▸ op_ldn (s := ⟨A0, n⟩) hx rfl hn) ch0 (Nat.le_refl _) h
theorem k_sto (h : SRegK P l (putT T d (.tup [])) ⟨upd H b (some (.row e esz c')), n⟩ (cK ⟨d, .tup [], false, [b], [(b, some (.row e esz c'))], n, n⟩ K)) (hx : evO T x = some (.p b o) := by rfl) (hb : H b = some (.row e esz c) := by ((try dsimp only) <;> (repeat first | assumption | with_reducible rfl | exact h_same rfl | refine h_ne (by first | assumption | omega) ?_))) (hy : evO T y = some v := by rfl) (hn : (cellsOf v).length = q := by rfl) (h1 : (cellsOf v).all SV.one = true := by rfl) (hf : o + q ≤ c.length := by first | decide | omega | (simp <;> omega)) (hc : lay c o (cellsOf v) = c' := by kernel_rfl) (hw : wants T g = some true := by rfl) : SRegK P (⟨d, g, .st q x y⟩ :: l) T ⟨H, n⟩ K :=
  kf (A := A1 b (.row e esz c)) (ch := [(b, some (.row e esz c'))]) hw rfl (A1_sub hb) (by have := op_st (P := P) (s := ⟨A1 b (.row e esz c), n⟩) hx hy hn (A1_at _ _) h1 hf; rw [hc] at this; exact this) (chO (by rw [A1_at]; exact nofun)) (Nat.le_refl _) h
theorem k_sts (h : SRegK P l (putT T d (.tup [])) ⟨upd H b (some (.row e esz c')), n⟩ (cK ⟨d, .tup [], false, [b], [(b, some (.row e esz c'))], n, n⟩ K)) (hx : evO T x = some (.p b o) := by rfl) (hy : evO T y = some v := by rfl) (hn : (cellsOf v).length = q := by rfl) (h1 : (cellsOf v).all SV.one = true := by rfl) (hf : o + q ≤ c.length := by first | decide | omega | (simp <;> omega)) (hc : lay c o (cellsOf v) = c' := by kernel_rfl) (hw : wants T g = some true := by rfl) : SRegK P (⟨d, g, .st q x y⟩ :: l) T ⟨upd H b (some (.row e esz c)), n⟩ K :=
  k_sto (c := c) (c' := c') (by rw [upd_upd]; exact h) hx (upd_same _ _ _) hy hn h1 hf hc hw
theorem k_box (h : SRegK P l (putT T d (.p n 0)) ⟨upd H n (some (.row e w c)), n + 1⟩ (cK ⟨d, .p n 0, false, [], [(n, some (.row e w c))], n, n + 1⟩ K)) (hx : evO T x = some v := by rfl) (hc : cellsOf v = c := by kernel_rfl) (hz : c.length = w := by rfl) (h1 : c.all SV.one = true := by rfl) (hw : wants T g = some true := by rfl) : SRegK P (⟨d, g, .box e x⟩ :: l) T ⟨H, n⟩ K :=
  kf (A := A0) (ch := [(n, some (.row e w c))]) hw rfl A0_sub (by have := op_box (P := P) (s := ⟨A0, n⟩) (e := e) hx (by rw [hc]; exact h1); rw [hc, hz] at this; exact this) chN (Nat.le_succ _) h
theorem k_alc (h : SRegK P l (putT T d (.p n 0)) ⟨upd H n (some (.row e w c)), n + 1⟩ (cK ⟨d, .p n 0, false, [], [(n, some (.row e w c))], n, n + 1⟩ K)) (hz : c.length = w := by rfl) (h1 : c.all SV.one = true := by rfl) (hw : wants T g = some true := by rfl) : SRegK P (⟨d, g, .alc e c⟩ :: l) T ⟨H, n⟩ K :=
  kf (A := A0) (ch := [(n, some (.row e w c))]) hw rfl A0_sub (by have := op_alc (P := P) (T := T) (s := ⟨A0, n⟩) (e := e) h1; rw [hz] at this; exact this) chN (Nat.le_succ _) h
theorem k_bsl {ps : List (Nat × Nat × SO)} (h : SRegK P l (putT T d (.sl n 0 w)) ⟨upd H n (some (.row e esz c')), n + 1⟩ (cK ⟨d, .sl n 0 w, false, [], [(n, some (.row e esz c'))], n, n + 1⟩ K)) (hc : bldP T ps (repZ c w) = some c' := by kernel_rfl) (h1 : c'.all SV.one = true := by rfl) (hz : c.length = esz := by rfl) (hlm : w ≤ 16777216 := by decide) (hw : wants T g = some true := by rfl) : SRegK P (⟨d, g, .bsl e esz w c ps⟩ :: l) T ⟨H, n⟩ K :=
  kf (A := A0) (ch := [(n, some (.row e esz c'))]) hw rfl A0_sub (op_bsl (s := ⟨A0, n⟩) hc h1 hz hlm) chN (Nat.le_succ _) h
theorem k_ia (h : SRegK P l (putT T d (.p b (off + j * esz))) ⟨H, n⟩ (cK ⟨d, .p b (off + j * esz), false, [], [], n, n⟩ K)) (hx : evO T x = some (.sl b off w) := by rfl) (hy : evO T y = some (.i k m) := by rfl) (hm : m = (j : Int) := by (first | rfl | exact (Int.natCast_succ _).symm | exact (Int.natCast_add _ _).symm | exact (Int.natCast_zero).symm | exact (Int.natCast_one).symm | exact natSub1 _ | exact natSub1' _ | (rw [← Int.natCast_sub (by omega)]) | omega)) (hj : j < w := by first | assumption | omega | decide) (hw : wants T g = some true := by rfl) : SRegK P (⟨d, g, .ia esz x y⟩ :: l) T ⟨H, n⟩ K := kp hw rfl (op_ia hx hy j hm hj) h
theorem k_ial (h : SRegK P l (putT T d (.pl (c.drop (j * esz)))) ⟨H, n⟩ (cK ⟨d, .pl (c.drop (j * esz)), false, [], [], n, n⟩ K)) (hx : evO T x = some (.lst w c) := by rfl) (hy : evO T y = some (.i k m) := by rfl) (hm : m = (j : Int) := by (first | rfl | exact (Int.natCast_succ _).symm | exact (Int.natCast_add _ _).symm | exact (Int.natCast_zero).symm | exact (Int.natCast_one).symm | exact natSub1 _ | exact natSub1' _ | (rw [← Int.natCast_sub (by omega)]) | omega)) (hj : j < w := by first | assumption | omega | decide) (hw : wants T g = some true := by rfl) : SRegK P (⟨d, g, .ia esz x y⟩ :: l) T ⟨H, n⟩ K := kp hw rfl (op_ial hx hy j hm hj) h
theorem k_iaa (h : SRegK P l (putT T d (.p b (off + j * esz))) ⟨H, n⟩ (cK ⟨d, .p b (off + j * esz), false, [], [], n, n⟩ K)) (hx : evO T x = some (.p b off) := by rfl) (hy : evO T y = some (.i k m) := by rfl) (hm : m = (j : Int) := by (first | rfl | exact (Int.natCast_succ _).symm | exact (Int.natCast_add _ _).symm | exact (Int.natCast_zero).symm | exact (Int.natCast_one).symm | exact natSub1 _ | exact natSub1' _ | (rw [← Int.natCast_sub (by omega)]) | omega)) (hj : j < w := by first | assumption | omega | decide) (hw : wants T g = some true := by rfl) : SRegK P (⟨d, g, .iaa w esz x y⟩ :: l) T ⟨H, n⟩ K := kp hw rfl (op_iaa hx hy j hm hj) h
theorem k_fh (h : SRegK P l (putT T d (.lst j c')) ⟨H, n⟩ (cK ⟨d, .lst j c', false, [], [], n, n⟩ K)) (hx : evO T x = some (.lst w c) := by rfl) (hy : evO T y = some (.i k m) := by rfl) (hm : m = (j : Int) := by (first | rfl | exact (Int.natCast_succ _).symm | exact (Int.natCast_add _ _).symm | exact (Int.natCast_zero).symm | exact (Int.natCast_one).symm | exact natSub1 _ | exact natSub1' _ | (rw [← Int.natCast_sub (by omega)]) | omega)) (hj : j ≤ w := by first | assumption | omega | decide) (hc : c.take (j * esz) = c' := by first | assumption | kernel_rfl) (hw : wants T g = some true := by rfl) : SRegK P (⟨d, g, .sll esz x none (some y) none⟩ :: l) T ⟨H, n⟩ K := kp hw rfl (by have := op_sll (P := P) (esz := esz) hx .no (.at_ hy hm) (Nat.zero_le _) hj; simpa [hc] using this) h
theorem k_fl (h : SRegK P l (putT T d (.lst (w - j) c')) ⟨H, n⟩ (cK ⟨d, .lst (w - j) c', false, [], [], n, n⟩ K)) (hx : evO T x = some (.lst w c) := by rfl) (hcl : c.length = w * esz := by first | assumption | rfl | simp) (hy : evO T y = some (.i k m) := by rfl) (hm : m = (j : Int) := by (first | rfl | exact (Int.natCast_succ _).symm | exact (Int.natCast_add _ _).symm | exact (Int.natCast_zero).symm | exact (Int.natCast_one).symm | exact natSub1 _ | exact natSub1' _ | (rw [← Int.natCast_sub (by omega)]) | omega)) (hj : j ≤ w := by first | assumption | omega | decide) (hc : c.drop (j * esz) = c' := by first | assumption | kernel_rfl) (hw : wants T g = some true := by rfl) : SRegK P (⟨d, g, .sll esz x (some y) none none⟩ :: l) T ⟨H, n⟩ K := kp hw rfl (by have := op_sll (P := P) (esz := esz) hx (.at_ hy hm) .no hj (Nat.le_refl _); rw [List.take_of_length_le (by omega), hc] at this; exact this) h
theorem k_flh {i : Nat} (h : SRegK P l (putT T d (.lst (j - i) c')) ⟨H, n⟩ (cK ⟨d, .lst (j - i) c', false, [], [], n, n⟩ K)) (hx : evO T x = some (.lst w c) := by rfl) (hy : evO T y = some (.i k m) := by rfl) (hm : m = (i : Int) := by (first | rfl | exact (Int.natCast_succ _).symm | exact (Int.natCast_add _ _).symm | exact (Int.natCast_zero).symm | exact (Int.natCast_one).symm | exact natSub1 _ | exact natSub1' _ | (rw [← Int.natCast_sub (by omega)]) | omega)) (hz : evO T z = some (.i k' m') := by rfl) (hm' : m' = (j : Int) := by (first | rfl | exact (Int.natCast_succ _).symm | exact (Int.natCast_add _ _).symm | exact (Int.natCast_zero).symm | exact (Int.natCast_one).symm | exact natSub1 _ | exact natSub1' _ | (rw [← Int.natCast_sub (by omega)]) | omega)) (hij : i ≤ j := by first | assumption | omega | decide) (hj : j ≤ w := by first | assumption | omega | decide) (hc : (c.take (j * esz)).drop (i * esz) = c' := by first | assumption | kernel_rfl) (hw : wants T g = some true := by rfl) : SRegK P (⟨d, g, .sll esz x (some y) (some z) none⟩ :: l) T ⟨H, n⟩ K := kp hw rfl (by have := op_sll (P := P) (esz := esz) hx (.at_ hy hm) (.at_ hz hm') hij hj; rw [hc] at this; exact this) h
theorem k_oa (h : SRegK P l (putT T d (.sl b off w)) ⟨H, n⟩ (cK ⟨d, .sl b off w, false, [], [], n, n⟩ K)) (hx : evO T x = some (.sl b off w) := by rfl) (hz : 0 < esz := by decide) (hw : wants T g = some true := by rfl) : SRegK P (⟨d, g, .sll esz x none none none⟩ :: l) T ⟨H, n⟩ K := kp hw rfl (by have := op_slo (P := P) (esz := esz) hx .no .no (Nat.zero_le _) (Nat.le_refl _) (.inr rfl) hz; simpa using this) h
theorem k_oh (h : SRegK P l (putT T d (.sl b off j)) ⟨H, n⟩ (cK ⟨d, .sl b off j, false, [], [], n, n⟩ K)) (hx : evO T x = some (.sl b off w) := by rfl) (hy : evO T y = some (.i k m) := by rfl) (hm : m = (j : Int) := by (first | rfl | exact (Int.natCast_succ _).symm | exact (Int.natCast_add _ _).symm | exact (Int.natCast_zero).symm | exact (Int.natCast_one).symm | exact natSub1 _ | exact natSub1' _ | (rw [← Int.natCast_sub (by omega)]) | omega)) (hj : j ≤ w := by first | assumption | omega | decide) (hz : 0 < esz := by decide) (hw : wants T g = some true := by rfl) : SRegK P (⟨d, g, .sll esz x none (some y) none⟩ :: l) T ⟨H, n⟩ K := kp hw rfl (by have := op_slo (P := P) (esz := esz) hx .no (.at_ hy hm) (Nat.zero_le _) hj (.inr rfl) hz; simpa using this) h
theorem k_ol (h : SRegK P l (putT T d (.sl b (off + j * esz) (w - j))) ⟨H, n⟩ (cK ⟨d, .sl b (off + j * esz) (w - j), false, [], [], n, n⟩ K)) (hx : evO T x = some (.sl b off w) := by rfl) (hy : evO T y = some (.i k m) := by rfl) (hm : m = (j : Int) := by (first | rfl | exact (Int.natCast_succ _).symm | exact (Int.natCast_add _ _).symm | exact (Int.natCast_zero).symm | exact (Int.natCast_one).symm | exact natSub1 _ | exact natSub1' _ | (rw [← Int.natCast_sub (by omega)]) | omega)) (hj : j < w := by first | assumption | omega | decide) (hz : 0 < esz := by decide) (hw : wants T g = some true := by rfl) : SRegK P (⟨d, g, .sll esz x (some y) none none⟩ :: l) T ⟨H, n⟩ K := kp hw rfl (op_slo (P := P) (esz := esz) hx (.at_ hy hm) .no (Nat.le_of_lt hj) (Nat.le_refl _) (.inl hj) hz) h
theorem rd_own (hb : H b = some (.row e e' c)) (hc : (c.drop off).take (w * esz) = new) : rdA false esz ⟨H, n⟩ (.sl b off w) = some (w, new) := by simp only [rdA, rdS, hb, hc]
theorem k_appo {bytes r : Nat} (h : SRegK P l (putT T d (.sl n 0 (w + r))) ⟨upd (upd H b none) n (some (.row e esz c')), n + 1⟩ (cK ⟨d, .sl n 0 (w + r), false, [b, b'], [(b, none), (n, some (.row e esz c'))], n, n + 1⟩ K)) (hx : evO T x = some (.sl b 0 w) := by rfl) (hy : evO T y = some (.sl b' off r) := by rfl) (hb : H b = some (.row e esz old) := by ((try dsimp only) <;> (repeat first | assumption | with_reducible rfl | exact h_same rfl | refine h_ne (by first | assumption | omega) ?_))) (hb' : H b' = some (.row e' q cs) := by ((try dsimp only) <;> (repeat first | assumption | with_reducible rfl | exact h_same rfl | refine h_ne (by first | assumption | omega) ?_))) (hr : (cs.drop off).take (r * esz) = new := by kernel_rfl) (hl : old.length = w * esz := by (first | rfl | assumption | (simp; done) | (simp only [List.length_append, List.length_take, List.length_drop, List.length_cons, List.length_nil, List.length_map] <;> omega) | (simp <;> omega))) (hnl : new.length = r * esz := by (first | rfl | assumption | (simp; done) | (simp only [List.length_append, List.length_take, List.length_drop, List.length_cons, List.length_nil, List.length_map] <;> omega) | (simp <;> omega))) (h1 : new.all SV.one = true := by (first | rfl | assumption | (simp only [List.all_append, List.all_cons, List.all_nil, Bool.and_eq_true, Bool.and_true]; refine ⟨?_, ?_⟩ <;> first | rfl | assumption | exact ⟨rfl, by assumption⟩))) (h63 : w + r ≤ 4503599627370496 := by first | omega | (simp <;> omega)) (hfit : (2 * (w + r) + 1000) * bytes ≤ 281474976710656 := by first | omega | (simp <;> omega)) (hc : old ++ new = c' := by kernel_rfl) (hw : wants T g = some true := by rfl) : SRegK P (⟨d, g, .app e esz bytes false x y⟩ :: l) T ⟨H, n⟩ K :=
  kf (A := A2 b (.row e esz old) b' (.row e' q cs)) (rd := [b, b']) (ch := [(b, none), (n, some (.row e esz c'))]) hw rfl (A2_sub hb hb') (by have := op_app (P := P) (s := ⟨A2 b (.row e esz old) b' (.row e' q cs), n⟩) (str := false) hx hy (A2_at _ _ _ _) hl (rd_own (A2_at' hb hb') hr) nofun hnl h1 h63 hfit; rw [hc] at this; exact this) (chON (by rw [A2_at]; exact nofun)) (Nat.le_succ _) h
theorem k_app {bytes r : Nat} {str : Bool} (h : SRegK P l (putT T d (.sl n 0 (w + r))) ⟨upd (upd H b none) n (some (.row e esz c')), n + 1⟩ (cK ⟨d, .sl n 0 (w + r), false, [b], [(b, none), (n, some (.row e esz c'))], n, n + 1⟩ K)) (hx : evO T x = some (.sl b 0 w) := by rfl) (hy : evO T y = some vy := by rfl) (hb : H b = some (.row e esz old) := by ((try dsimp only) <;> (repeat first | assumption | with_reducible rfl | exact h_same rfl | refine h_ne (by first | assumption | omega) ?_))) (hr : rdA str esz ⟨A1 b (.row e esz old), n⟩ vy = some (r, new) := by rfl) (hl : old.length = w * esz := by (first | rfl | assumption | (simp; done) | (simp only [List.length_append, List.length_take, List.length_drop, List.length_cons, List.length_nil, List.length_map] <;> omega) | (simp <;> omega))) (hnl : new.length = r * esz := by (first | rfl | assumption | (simp; done) | (simp only [List.length_append, List.length_take, List.length_drop, List.length_cons, List.length_nil, List.length_map] <;> omega) | (simp <;> omega))) (h1 : new.all SV.one = true := by (first | rfl | assumption | (simp only [List.all_append, List.all_cons, List.all_nil, Bool.and_eq_true, Bool.and_true]; refine ⟨?_, ?_⟩ <;> first | rfl | assumption | exact ⟨rfl, by assumption⟩))) (h63 : w + r ≤ 4503599627370496 := by first | omega | (simp <;> omega)) (hfit : (2 * (w + r) + 1000) * bytes ≤ 281474976710656 := by first | omega | (simp <;> omega)) (hc : old ++ new = c' := by kernel_rfl) (hs : str = true → esz = 1 := by first | exact nofun | exact fun _ => rfl) (hw : wants T g = some true := by rfl) : SRegK P (⟨d, g, .app e esz bytes str x y⟩ :: l) T ⟨H, n⟩ K :=
  kf (A := A1 b (.row e esz old)) (rd := [b]) (ch := [(b, none), (n, some (.row e esz c'))]) hw rfl (A1_sub hb) (by have := op_app (P := P) (s := ⟨A1 b (.row e esz old), n⟩) hx hy (A1_at _ _) hl hr hs hnl h1 h63 hfit; rw [hc] at this; exact this) (chON (by rw [A1_at]; exact nofun)) (Nat.le_succ _) h
theorem k_app0o {bytes r : Nat} (h : SRegK P l (putT T d (.sl (n + 1) 0 r)) ⟨upd H (n + 1) (some (.row e esz new)), n + 2⟩ (cK ⟨d, .sl (n + 1) 0 r, false, [b'], [(n + 1, some (.row e esz new))], n, n + 2⟩ K)) (hx : evO T x = some .nils := by rfl) (hy : evO T y = some (.sl b' off r) := by rfl) (hb' : H b' = some (.row e' q cs) := by ((try dsimp only) <;> (repeat first | assumption | with_reducible rfl | exact h_same rfl | refine h_ne (by first | assumption | omega) ?_))) (hr : (cs.drop off).take (r * esz) = new := by kernel_rfl) (hnl : new.length = r * esz := by (first | rfl | assumption | (simp; done) | (simp only [List.length_append, List.length_take, List.length_drop, List.length_cons, List.length_nil, List.length_map] <;> omega) | (simp <;> omega))) (h1 : new.all SV.one = true := by (first | rfl | assumption | (simp only [List.all_append, List.all_cons, List.all_nil, Bool.and_eq_true, Bool.and_true]; refine ⟨?_, ?_⟩ <;> first | rfl | assumption | exact ⟨rfl, by assumption⟩))) (h63 : r ≤ 4503599627370496 := by first | omega | (simp <;> omega)) (hfit : (2 * r + 1000) * bytes ≤ 281474976710656 := by first | omega | (simp <;> omega)) (hw : wants T g = some true := by rfl) : SRegK P (⟨d, g, .app e esz bytes false x y⟩ :: l) T ⟨H, n⟩ K :=
  kf (A := A1 b' (.row e' q cs)) (rd := [b']) (ch := [(n + 1, some (.row e esz new))]) hw rfl (A1_sub hb') (op_app0 (P := P) (s := ⟨A1 b' (.row e' q cs), n⟩) (str := false) hx hy (rd_own (A1_at _ _) hr) nofun hnl h1 h63 hfit) chM (by show n ≤ n + 2; omega) h
theorem k_app0 {bytes r : Nat} {str : Bool} (h : SRegK P l (putT T d (.sl (n + 1) 0 r)) ⟨upd H (n + 1) (some (.row e esz new)), n + 2⟩ (cK ⟨d, .sl (n + 1) 0 r, false, [], [(n + 1, some (.row e esz new))], n, n + 2⟩ K)) (hx : evO T x = some .nils := by rfl) (hy : evO T y = some vy := by rfl) (hr : rdA str esz ⟨A0, n⟩ vy = some (r, new) := by rfl) (hnl : new.length = r * esz := by (first | rfl | assumption | (simp; done) | (simp only [List.length_append, List.length_take, List.length_drop, List.length_cons, List.length_nil, List.length_map] <;> omega) | (simp <;> omega))) (h1 : new.all SV.one = true := by (first | rfl | assumption | (simp only [List.all_append, List.all_cons, List.all_nil, Bool.and_eq_true, Bool.and_true]; refine ⟨?_, ?_⟩ <;> first | rfl | assumption | exact ⟨rfl, by assumption⟩))) (h63 : r ≤ 4503599627370496 := by first | omega | (simp <;> omega)) (hfit : (2 * r + 1000) * bytes ≤ 281474976710656 := by first | omega | (simp <;> omega)) (hs : str = true → esz = 1 := by first | exact nofun | exact fun _ => rfl) (hw : wants T g = some true := by rfl) : SRegK P (⟨d, g, .app e esz bytes str x y⟩ :: l) T ⟨H, n⟩ K :=
  kf (A := A0) (ch := [(n + 1, some (.row e esz new))]) hw rfl A0_sub (op_app0 (P := P) (s := ⟨A0, n⟩) hx hy hr hs hnl h1 h63 hfit) chM (by show n ≤ n + 2; omega) h
theorem k_mks {bytes i : Nat} (h : SRegK P l (putT T d (.sl n 0 i)) ⟨upd H n (some (.row e esz (repZ c i))), n + 1⟩ (cK ⟨d, .sl n 0 i, false, [], [(n, some (.row e esz (repZ c i)))], n, n + 1⟩ K)) (hx : evO T x = some (.i k m) := by rfl) (hy : evO T y = some (.i k' m') := by rfl) (hm : m = (i : Int) := by (first | rfl | exact (Int.natCast_succ _).symm | exact (Int.natCast_add _ _).symm | exact (Int.natCast_zero).symm | exact (Int.natCast_one).symm | exact natSub1 _ | exact natSub1' _ | (rw [← Int.natCast_sub (by omega)]) | omega)) (hm' : m' = (j : Int) := by (first | rfl | exact (Int.natCast_succ _).symm | exact (Int.natCast_add _ _).symm | exact (Int.natCast_zero).symm | exact (Int.natCast_one).symm | exact natSub1 _ | exact natSub1' _ | (rw [← Int.natCast_sub (by omega)]) | omega)) (hij : i ≤ j := by first | exact Nat.le_refl _ | omega) (hb : bytes * j ≤ 281474976710656 := by omega) (hj : j ≤ maxLen := by simp only [maxLen]; omega) (h1 : c.all SV.one = true := by rfl) (hw : wants T g = some true := by rfl) : SRegK P (⟨d, g, .mks e esz bytes c x y⟩ :: l) T ⟨H, n⟩ K :=
  kf (A := A0) (ch := [(n, some (.row e esz (repZ c i)))]) hw rfl A0_sub (op_mks (P := P) (s := ⟨A0, n⟩) hx hy i j hm hm' hij hb hj h1) chN (Nat.le_succ _) h
theorem k_cbs {X : List UInt8} (h : SRegK P l (putT T d (.sl n 0 X.length)) ⟨upd H n (some (.row e 1 (X.map bSV))), n + 1⟩ (cK ⟨d, .sl n 0 X.length, false, [], [(n, some (.row e 1 (X.map bSV)))], n, n + 1⟩ K)) (hx : evO T x = some (.s X) := by rfl) (hlt : X.length < 1099511627776 := by first | omega | (simp <;> omega)) (hw : wants T g = some true := by rfl) : SRegK P (⟨d, g, .cbs e x⟩ :: l) T ⟨H, n⟩ K := kf (A := A0) (ch := [(n, some (.row e 1 (X.map bSV)))]) hw rfl A0_sub (op_cbs (s := ⟨A0, n⟩) hx hlt) chN (Nat.le_succ _) h
theorem k_csb {X : List UInt8} (h : SRegK P l (putT T d (.s X)) ⟨H, n⟩ (cK ⟨d, .s X, false, [b], [], n, n⟩ K)) (hx : evO T x = some (.sl b off w) := by rfl) (hb : H b = some (.row e esz c) := by ((try dsimp only) <;> (repeat first | assumption | with_reducible rfl | exact h_same rfl | refine h_ne (by first | assumption | omega) ?_))) (hc : (c.drop off).take w = X.map bSV := by first | assumption | kernel_rfl) (hn : X.length = w := by first | assumption | rfl | simp) (hw : wants T g = some true := by rfl) : SRegK P (⟨d, g, .csb x⟩ :: l) T ⟨H, n⟩ K := kf (A := A1 b (.row e esz c)) (ch := []) hw rfl (A1_sub hb) (op_csb (P := P) (s := ⟨A1 b (.row e esz c), n⟩) hx (by simp only [rdS, A1_at, Nat.mul_one, hc]) hn) ch0 (Nat.le_refl _) h
theorem k_eqb {X Y : Bool} (h : SRegK P l (putT T d v) ⟨H, n⟩ (cK ⟨d, v, false, [], [], n, n⟩ K)) (hx : evO T x = some (.b X) := by rfl) (hy : evO T y = some (.b Y) := by rfl) (hb : eqOp op (X == Y) = some v := by rfl) (hw : wants T g = some true := by rfl) : SRegK P (⟨d, g, .bin op .bool x y⟩ :: l) T ⟨H, n⟩ K := kp hw rfl (op_eqb hx hy hb) h
theorem k_pp (h : SRegK P l (putT T d v) ⟨H, n⟩ (cK ⟨d, v, false, [], [], n, n⟩ K)) (hx : evO T x = some (.p b o) := by rfl) (hy : evO T y = some (.p b o') := by rfl) (hb : eqOp op (decide (o = o')) = some v := by rfl) (hw : wants T g = some true := by rfl) : SRegK P (⟨d, g, .bin op .ptr x y⟩ :: l) T ⟨H, n⟩ K := kp hw rfl (op_eqpp hx hy hb) h
theorem k_npp (h : SRegK P l (putT T d v) ⟨H, n⟩ (cK ⟨d, v, false, [b, b'], [], n, n⟩ K)) (hne : b ≠ b') (hx : evO T x = some (.p b o) := by rfl) (hy : evO T y = some (.p b' o') := by rfl) (g1 : H b = some (.row e esz c) := by ((try dsimp only) <;> (repeat first | assumption | with_reducible rfl | exact h_same rfl | refine h_ne (by first | assumption | omega) ?_))) (g2 : H b' = some (.row e' w c') := by ((try dsimp only) <;> (repeat first | assumption | with_reducible rfl | exact h_same rfl | refine h_ne (by first | assumption | omega) ?_))) (hz : esz ≠ 1 := by decide) (hz' : w ≠ 1 := by decide) (hb : eqOp op false = some v := by rfl) (hw : wants T g = some true := by rfl) : SRegK P (⟨d, g, .bin op .ptr x y⟩ :: l) T ⟨H, n⟩ K := kf (A := A2 b (.row e esz c) b' (.row e' w c')) (rd := [b, b']) (ch := []) hw rfl (A2_sub g1 g2) (op_nepp (s := ⟨A2 b (.row e esz c) b' (.row e' w c'), n⟩) hx hy hne (A2_at _ _ _ _) (A2_at' g1 g2) hz hz' hb) ch0 (Nat.le_refl _) h
theorem k_mkm {f : Nat} {az : List SO} {vs : List SV} (h : SRegK P l (putT T d (.fm f vs)) ⟨H, n⟩ (cK ⟨d, .fm f vs, false, [], [], n, n⟩ K)) (hl : evOs T az = some vs := by rfl) (hw : wants T g = some true := by rfl) : SRegK P (⟨d, g, .mkm f az⟩ :: l) T ⟨H, n⟩ K := kp hw rfl (op_mkm hl) h
theorem k_call {f : Nat} {az : List SO} {vs : List SV} {r : SV} (hc : SCall P f vs ⟨A0, n⟩ r ⟨A0, n⟩) (h : SRegK P l (putT T d r) ⟨H, n⟩ (cK ⟨d, r, false, [], [], n, n⟩ K)) (ha : evOs T az = some vs := by rfl) (hw : wants T g = some true := by rfl) : SRegK P (⟨d, g, .call f az⟩ :: l) T ⟨H, n⟩ K := kf (A := A0) (ch := []) hw rfl A0_sub (op_call ha hc) ch0 (Nat.le_refl _) h
theorem k_call1 {f : Nat} {az : List SO} {vs : List SV} {r : SV} {row : Blk} (hb : H b = some row) (hc : SCall P f vs ⟨A1 b row, n⟩ r ⟨A1 b row, n⟩) (h : SRegK P l (putT T d r) ⟨H, n⟩ (cK ⟨d, r, false, [b], [], n, n⟩ K)) (ha : evOs T az = some vs := by rfl) (hw : wants T g = some true := by rfl) : SRegK P (⟨d, g, .call f az⟩ :: l) T ⟨H, n⟩ K := kf (A := A1 b row) (ch := []) hw rfl (A1_sub hb) (op_call ha hc) ch0 (Nat.le_refl _) h
theorem k_call2 {f : Nat} {az : List SO} {vs : List SV} {r : SV} {row row' : Blk} (hb : H b = some row) (hb' : H b' = some row') (hc : SCall P f vs ⟨A2 b row b' row', n⟩ r ⟨A2 b row b' row', n⟩) (h : SRegK P l (putT T d r) ⟨H, n⟩ (cK ⟨d, r, false, [b, b'], [], n, n⟩ K)) (ha : evOs T az = some vs := by rfl) (hw : wants T g = some true := by rfl) : SRegK P (⟨d, g, .call f az⟩ :: l) T ⟨H, n⟩ K := kf (A := A2 b row b' row') (rd := [b, b']) (ch := []) hw rfl (A2_sub hb hb') (op_call ha hc) ch0 (Nat.le_refl _) h
theorem k_callA {f : Nat} {az : List SO} {vs : List SV} {r : SV} (hc : SCall P f vs ⟨H, n⟩ r ⟨H, n⟩) (h : SRegK P l (putT T d r) ⟨H, n⟩ (cK ⟨d, r, true, [], [], n, n⟩ K)) (ha : evOs T az = some vs := by rfl) (hw : wants T g = some true := by rfl) : SRegK P (⟨d, g, .call f az⟩ :: l) T ⟨H, n⟩ K := kr hw rfl (op_call ha hc) h
theorem k_calv {f : Nat} {az : List SO} {vs fs : List SV} {r : SV} (hc : SCall P f (vs ++ fs) ⟨A0, n⟩ r ⟨A0, n⟩) (h : SRegK P l (putT T d r) ⟨H, n⟩ (cK ⟨d, r, false, [], [], n, n⟩ K)) (hx : evO T x = some (.f f fs) := by rfl) (ha : evOs T az = some vs := by rfl) (hw : wants T g = some true := by rfl) : SRegK P (⟨d, g, .calv x az⟩ :: l) T ⟨H, n⟩ K := kf (A := A0) (ch := []) hw rfl A0_sub (op_calv hx ha hc) ch0 (Nat.le_refl _) h
end
section
variable {P : Program} {T : Tm} {s s1 : St} {l : List AOp} {d : Option Nat} {g : Option (Nat × Bool)} {K : Kn} {f : Nat} {x y : SO} {az : List SO} {vs cs : List SV} {r : SV} {R : SV → St → Prop}
theorem k_callR (hc : SCallR P f vs s R) (h : ∀ r s1, R r s1 → SRegK P l (putT T d r) s1 (cutK K)) (ha : evOs T az = some vs := by rfl) (hok : okC K) (hw : wants T g = some true := by rfl) : SRegK P (⟨d, g, .call f az⟩ :: l) T s K := kR hw rfl hok (op_callR ha hc) h
theorem k_calvR (hc : SCallR P f (vs ++ cs) s R) (h : ∀ r s1, R r s1 → SRegK P l (putT T d r) s1 (cutK K)) (hx : evO T x = some (.f f cs) := by rfl) (ha : evOs T az = some vs := by rfl) (hok : okC K) (hw : wants T g = some true := by rfl) : SRegK P (⟨d, g, .calv x az⟩ :: l) T s K := kR hw rfl hok (op_calvR hx ha hc) h
end
end Go.Sy
end
section
namespace Go.Kb
open Go.RowKit
structure RV (w : World) (size : Nat) (A : Option Addr) (n c : Nat) (xs : List Value) : Prop where
  len : xs.length = n * size
  cap : n ≤ c
  nil : A = none → n = 0 ∧ c = 0
  cell : ∀ ad, A = some ad → ∀ j u, xs[j]? = some u → w.cell? (ad.add j) = some u
  one : ∀ u ∈ xs, u.oneCell' = true
theorem add_block (ad : Addr) (j : Nat) : (ad.add j).block = ad.block := by unfold Addr.add; split <;> rfl
theorem RV.grown {w w1 : World} {size : Nat} {A : Option Addr} {n c : Nat} {xs : List Value} (h : RV w size A n c xs) {row : Option Nat}
    (hg : w.grownBy w1 row) (hne : ∀ ad, A = some ad → some ad.block ≠ row) : RV w1 size A n c xs :=
  ⟨h.len, h.cap, h.nil, fun ad e j u hu => hg.cell (h.cell ad e j u hu) (by rw [add_block]; exact hne ad e), h.one⟩
theorem RV.below {w w1 : World} {size : Nat} {A : Option Addr} {n c : Nat} {xs : List Value} (h : RV w size A n c xs)
    (hb : Below w.heap.size w w1) : RV w1 size A n c xs :=
  h.grown (row := none) ⟨hb.os, hb.tape, hb.output, hb.size, fun i hi _ => hb.block i hi⟩ (fun _ _ => by simp)
theorem RV.low {w0 w1 : World} {size : Nat} {A : Option Addr} {n c : Nat} {xs : List Value} (h : RV w0 size A n c xs)
    (hb : Below w0.heap.size w0 w1) : RV w1 size A n c xs := h.below hb
theorem below_of_grown {w w1 : World} (h : w.grownBy w1 none) : Below w.heap.size w w1 :=
  ⟨h.os, h.tape, h.output, h.size, fun i hi => h.block i hi (by simp)⟩
theorem grown_of_below {w w1 : World} (h : Below w.heap.size w w1) (row : Option Nat) : w.grownBy w1 row :=
  ⟨h.os, h.tape, h.output, h.size, fun i hi _ => h.block i hi⟩
theorem RV.take {w : World} {size : Nat} {A : Option Addr} {n c : Nat} {xs : List Value} (h : RV w size A n c xs) (k d : Nat) (hk : k ≤ n) (hd : k ≤ d) (hn : A = none → d = 0) :
    RV w size A k d (xs.take (k * size)) :=
  ⟨by rw [List.length_take, h.len]; exact Nat.min_eq_left (Nat.mul_le_mul_right _ hk), hd, fun e => ⟨by have := (h.nil e).1; omega, hn e⟩,
   (fun ad e j u hu => by
     rw [List.getElem?_take] at hu
     split at hu
     · exact h.cell ad e j u hu
     · cases hu),
   fun u hu => h.one u (List.mem_of_mem_take hu)⟩
theorem add_add (ad : Addr) (i j : Nat) : (ad.add i).add j = ad.add (i + j) := by
  unfold Addr.add
  by_cases hi : i = 0
  · subst hi; simp
  · by_cases hj : j = 0
    · subst hj; simp
    · rw [if_neg hi, if_neg hj, if_neg (by omega)]; simp [Nat.add_assoc]
theorem RV.drop {w : World} {size : Nat} {A : Option Addr} {n c : Nat} {xs : List Value} (h : RV w size A n c xs) (k : Nat) (d : Nat) (hd : n - k ≤ d) (B : Option Addr)
    (hB : ∀ ad, A = some ad → n ≤ k ∨ B = some (ad.add (k * size))) (hn : B = none → n ≤ k ∧ d = 0) : RV w size B (n - k) d (xs.drop (k * size)) :=
  ⟨(by rw [List.length_drop, h.len, Nat.sub_mul]), hd, (fun e => by have := hn e; omega),
   (fun ad e j u hu => by
     have hlt : j < n * size - k * size := by
       have := (List.getElem?_eq_some_iff.1 hu).1
       rwa [List.length_drop, h.len] at this
     have hkn : ¬ n ≤ k := by
       intro hle
       have := Nat.mul_le_mul_right size hle
       omega
     rw [List.getElem?_drop] at hu
     cases hA : A with
     | none => have := (h.nil hA).1; omega
     | some a0 =>
       rcases hB a0 hA with hh | hh
       · exact absurd hh hkn
       · rw [hh] at e
         injection e with e
         subst e
         have : (a0.add (k * size)).add j = a0.add (k * size + j) := by
           unfold Addr.add
           by_cases hi : k * size = 0
           · rw [hi]; simp
           · by_cases hj : j = 0
             · subst hj; simp
             · rw [if_neg hi, if_neg hj, if_neg (by omega)]; simp [Nat.add_assoc]
         rw [this]
         exact h.cell a0 hA _ u hu),
   fun u hu => h.one u (List.mem_of_mem_drop hu)⟩
theorem own_rv {w : World} {base n : Nat} {e : TypeId} {size : Nat} {v : Value} {xs : List Value} (h : w.ownsRow base e size v n xs) (h1 : ∀ u ∈ xs, u.oneCell' = true) :
    ∃ A c, v = .slice A n c ∧ RV w size A n c xs ∧ c ≤ maxLen ∧ (∀ ad, A = some ad → base ≤ ad.block ∧ ad.block < w.heap.size ∧ ad = ⟨ad.block, 0, none⟩) := by
  rcases h.2 with ⟨rfl, rfl⟩ | ⟨g, cap, cur, rfl, hb, hh, hn, hc, _⟩
  · exact ⟨none, 0, rfl, ⟨h.1, Nat.le_refl _, fun _ => ⟨rfl, rfl⟩, (fun _ e => by cases e), h1⟩, by simp [maxLen], (fun _ e => by cases e)⟩
  · refine ⟨some ⟨g, 0, none⟩, cap, rfl, ⟨h.1, hn, (fun e => by cases e), fun ad e j u hu => ?_, h1⟩, hc, fun ad e => ?_⟩
    · injection e with e
      subst e
      exact h.cells (g := g) rfl j u hu
    · injection e with e
      subst e
      exact ⟨hb, (Array.getElem?_eq_some_iff.1 hh).1, rfl⟩
theorem own_form {w : World} {base n : Nat} {e : TypeId} {size : Nat} {v : Value} {xs : List Value} (h : w.ownsRow base e size v n xs) :
    ∃ A c, v = .slice A n c ∧ n ≤ c ∧ c ≤ maxLen := by
  rcases h.2 with ⟨rfl, rfl⟩ | ⟨g, cap, cur, rfl, hb, hh, hn, hc, _⟩
  · exact ⟨none, 0, rfl, Nat.le_refl _, by simp [maxLen]⟩
  · exact ⟨_, cap, rfl, hn, hc⟩
theorem wpList_ap {P : Program} {w : World} {ops : Array Oper} {rest : List Oper} {o : Oper} {a : Act} {Q : Exit → Act → World → Prop} (hgd : o.guard = none) (s x : Operand) (t : TypeId)
    (ho : o.op = .call { callee := .builtin .append, args := #[s, x], argTypes := #[t, t] })
    (base : Nat) (e : TypeId) (i : TypeInfo) (z : Value) (size bytes : Nat) (ht : P.underlying t = some (.slice e)) (hi : P.info? e = some i) (hz : i.zero = some z)
    (hsize : i.size = size) (hby : i.bytes = bytes) (hzs : z.cells.size = size) (hsz : 0 < size)
    (v : Value) (hs : a.eval s = v) (A : Option Addr) (m c : Nat) (hx : a.eval x = .slice A m c)
    (n : Nat) (xs : List Value) (hown : w.ownsRow base e size v n xs)
    (news : List Value) (hR : RV w size A m c news)
    (h63 : n + m ≤ maxLen) (hbytes : (n + m) * bytes ≤ 140737488355328) (hbase : base ≤ w.heap.size)
    (h : ∀ A' c' w', w'.ownsRow base e size (.slice A' (n + m) c') (n + m) (xs ++ news) → w.grownBy w' v.ownBlock → wpList P ops Q rest (a.put o.dst (.slice A' (n + m) c')) w') : wpList P ops Q (o :: rest) a w := by
  cases A with
  | some ad =>
    refine wpList_append_own w hgd s x t ho base e i z size bytes ht hi hz hsize hby hzs hsz v n xs hs hown ad m c news hx hR.len (hR.cell ad rfl) hR.one h63 hbytes hbase ?_
    intro v' w' h1 h2 _
    obtain ⟨A', c', rfl, _⟩ := own_form h1
    exact h A' c' w' h1 h2
  | none =>
    obtain ⟨rfl, rfl⟩ := hR.nil rfl
    obtain rfl : news = [] := List.eq_nil_of_length_eq_zero (by simpa using hR.len)
    refine wpList_plain hgd fun K hK' => ?_
    have hrun := run_append_owned_none (P := P) w base t o.type e i size ht hi v n xs hown
    unfold Oper.wp
    simp [execOp, ho, resolve, invoke, builtin, hs, hx, hrun, Result.andThen]
    obtain ⟨A', c', rfl, _⟩ := own_form hown
    exact hK' _ _ (by simpa using h A' c' w (by simpa using hown) (World.grownBy.refl _ _))
theorem bthen {B : Nat} {w w1 w2 : World} (h : Below B w w1) (hB : B ≤ w.heap.size) (k : Below w1.heap.size w1 w2) : Below B w w2 :=
  h.trans (k.mono (Nat.le_trans hB h.size))
theorem balloc {B : Nat} {w w1 : World} (h : Below B w w1) (hB : B ≤ w.heap.size) (o : Obj) : Below B w (w1.alloc o) := h.alloc (Nat.le_trans hB h.size) o
theorem bdrewN {B : Nat} {w W : World} (h : Below B w W) (n : Nat) : Below B w (W.drewN n) := ⟨h.os, h.tape, h.output, h.size, h.block⟩
theorem bdrew {B : Nat} {w W : World} (h : Below B w W) : Below B w W.drew := h.drew
@[go_sem] theorem kmax (ats : Array TypeId) (ty : TypeId) (k k' : IntKind) (x y : Int) : Builtin.max_ ats ty #[.int k x, .int k' y] = pure (.int k (max x y)) := by
  simp only [Builtin.max_, List.foldlM_cons, List.foldlM_nil, Builtin.max2, gt_iff_lt]
  have : (if x < y then y else x) = max x y := by split <;> omega
  rw [this]
  rfl
@[go_sem] theorem kmin (ats : Array TypeId) (ty : TypeId) (k k' : IntKind) (x y : Int) : Builtin.min_ ats ty #[.int k x, .int k' y] = pure (.int k (min x y)) := by
  simp only [Builtin.min_, List.foldlM_cons, List.foldlM_nil, Builtin.min2]
  have : (if y < x then y else x) = min x y := by split <;> omega
  rw [this]
  rfl
theorem cell_alloc' {w : World} {a : Addr} {v : Value} (h : w.cell? a = some v) (o : Obj) : (w.alloc o).cell? a = some v :=
  (((Below.refl w.heap.size w).alloc (Nat.le_refl _) o).cell (World.block_lt_of_cell? w a h)).trans h
theorem bl_app (a b : ByteArray) : (a ++ b).data.toList = a.data.toList ++ b.data.toList := by
  rw [ByteArray.data_append, Array.toList_append]
theorem bl_extract (s : ByteArray) (i j : Nat) : (s.extract i j).data.toList = (s.data.toList.take j).drop i := by
  rw [ByteArray.data_extract, Array.toList_extract, List.extract_eq_take_drop, List.drop_take]
theorem bl_len (s : ByteArray) : s.data.toList.length = s.size := rfl
theorem bl_ext {a b : ByteArray} (h : a.data.toList = b.data.toList) : a = b := by
  cases a; cases b
  simp only at h
  congr
  exact Array.toList_inj.1 h
theorem rv_at {w : World} {g : Nat} {cs : List Value} {t : TypeId} {fr : Nat × Nat} (h : w.heap[g]? = some (.cells cs.toArray t fr)) (h1 : ∀ u ∈ cs, u.oneCell' = true) (size n : Nat) (hn : cs.length = n * size) (c : Nat) (hc : n ≤ c) :
    RV w size (some ⟨g, 0, none⟩) n c cs :=
  ⟨hn, hc, (fun e => by cases e), (fun ad e j u hu => by
    injection e with e
    subst e
    have ha : (⟨g, 0, none⟩ : Addr).add j = ⟨g, j, none⟩ := by unfold Addr.add; split <;> simp_all
    rw [ha]
    simp [World.cell?, h]
    simpa using hu), h1⟩
def eB (b : UInt8) : Value := .int .u8 b.toNat
theorem eB_one (l : List UInt8) : ∀ u ∈ l.map eB, u.oneCell' = true := by
  intro u hu
  obtain ⟨_, _, rfl⟩ := List.mem_map.1 hu
  rfl
theorem wpList_strbytes {P : Program} {w : World} {ops : Array Oper} {rest : List Oper} {o : Oper} {a : Act} {Q : Exit → Act → World → Prop} (hgd : o.guard = none) (src dst : TypeId) (x : Operand)
    (ho : o.op = .convert src dst x) (e : TypeId) {u : TypeDesc} (hs : P.underlying src = some u) (hd : P.underlying dst = some (.slice e)) (he : P.underlying e = some (.int .u8))
    (s : ByteArray) (hx : a.eval x = .string s)
    (h : ∀ c' w', RV w' 1 (some ⟨w.heap.size, 0, none⟩) s.size c' (s.data.toList.map eB) → Below w.heap.size w w' → w'.heap.size = w.heap.size + 1 → wpList P ops Q rest (a.put o.dst (.slice (some ⟨w.heap.size, 0, none⟩) s.size c')) w') : wpList P ops Q (o :: rest) a w := by
  refine wpList_plain hgd fun K hK' => ?_
  have hrun := Lib.run_convert_string_bytes (P := P) w src dst e s hs hd he
  unfold Oper.wp
  simp [execOp, ho, hx, hrun, Result.andThen]
  refine hK' _ _ (h _ _ ⟨(by rw [List.length_map, Nat.mul_one]; rfl), grownCap_ge _ _ _ _, (fun e => by cases e), fun ad e j u hu => ?_, eB_one _⟩ ⟨rfl, rfl, rfl, by rw [Lib.bytesWorld_size]; omega, fun k hk => Lib.bytesWorld_at_old _ _ _ _ hk⟩ (Lib.bytesWorld_size _ _ _))
  injection e with e
  subst e
  have hj : j < s.size := by have := (List.getElem?_eq_some_iff.1 hu).1; rw [List.length_map] at this; exact this
  have ha : (⟨w.heap.size, 0, none⟩ : Addr).add j = ⟨w.heap.size, j, none⟩ := by unfold Addr.add; split <;> simp_all
  rw [ha, Lib.bytesWorld_cell _ _ _ _ hj, ← hu, List.getElem?_map]
  have hj' : j < s.data.toList.length := hj
  rw [List.getElem?_eq_getElem hj', List.getD_eq_getElem?_getD, List.getElem?_eq_getElem hj']
  rfl
theorem run_bytes_str {P : Program} {w : World} (src dst e : TypeId) (hs : P.underlying src = some (.slice e)) (he : P.underlying e = some (.int .u8)) (hd : P.underlying dst = some .string)
    {A : Option Addr} {n c : Nat} {l : List UInt8} (hR : RV w 1 A n c (l.map eB)) : (convert src dst (.slice A n c)).run P w = .ok (.string ⟨l.toArray⟩) w := by
  have hl : l.length = n := by have := hR.len; simpa using this
  cases A with
  | none =>
    obtain ⟨rfl, rfl⟩ := hR.nil rfl
    obtain rfl : l = [] := List.eq_nil_of_length_eq_zero hl
    exact run_convert_bytes_nil w src e hs he 0 0 dst hd
  | some ad =>
    have hcs := run_convert_bytes_string (P := P) w src dst e (some ad) n c hs he
    have hl2 : (loadCells ad n).run P w = .ok ((l.map fun b => (b.toNat : Int)).map (Value.int .u8)).toArray w := by
      have := run_loadCells_list (P := P) w ad (l.map eB) (fun j v hj => hR.cell ad rfl j v hj)
      simp only [List.length_map, hl] at this
      rw [this, List.map_map]
      rfl
    rw [hcs hd, run_bytesToString w ad n c _ hl2, foldl_push_bytes]
    congr 2
    simp [ByteArray.empty, ByteArray.emptyWithCapacity, Function.comp_def]
    rfl
end Go.Kb
end
section
open Go Go.RowKit Go.Kb
namespace Go.Tr
inductive Tr where
  | nil : Tr
  | cons (name : ByteArray) (kid : Tr) (rest : Tr) : Tr
def Tr.len : Tr → Nat
  | .nil => 0
  | .cons _ _ r => r.len + 1
structure EV where
  nm : ByteArray
  A : Option Addr
  n : Nat
  c : Nat
def encV (x : EV) : List Value := [.string x.nm, .slice x.A x.n x.c]
def cellsV (l : List EV) : List Value := l.flatMap encV
theorem cellsV_nil : cellsV [] = [] := rfl
theorem cellsV_cons (x : EV) (l : List EV) : cellsV (x :: l) = .string x.nm :: .slice x.A x.n x.c :: cellsV l := rfl
theorem cellsV_length (l : List EV) : (cellsV l).length = l.length * 2 := by
  induction l with
  | nil => rfl
  | cons x l ih => rw [cellsV_cons]; simp only [List.length_cons, ih]; omega
theorem cellsV_append (a b : List EV) : cellsV (a ++ b) = cellsV a ++ cellsV b := by simp [cellsV]
theorem cellsV_one (l : List EV) : ∀ u ∈ cellsV l, u.oneCell' = true := by
  intro u hu
  simp only [cellsV, List.mem_flatMap] at hu
  obtain ⟨x, _, hu⟩ := hu
  simp only [encV, List.mem_cons, List.not_mem_nil, or_false] at hu
  rcases hu with rfl | rfl <;> rfl
theorem cellsV_get (l : List EV) : ∀ (k : Nat) (x : EV), l[k]? = some x → (cellsV l)[k * 2]? = some (.string x.nm) ∧ (cellsV l)[k * 2 + 1]? = some (.slice x.A x.n x.c) := by
  induction l with
  | nil => intro k x h; simp at h
  | cons y l ih =>
    intro k x h
    cases k with
    | zero => simp at h; subst h; simp [cellsV_cons]
    | succ k =>
      simp only [List.getElem?_cons_succ] at h
      have := ih k x h
      rw [cellsV_cons, show (k + 1) * 2 = k * 2 + 1 + 1 by omega, show k * 2 + 1 + 1 + 1 = (k * 2 + 1) + 1 + 1 by omega]
      simpa using this
theorem cellsV_take : ∀ (l : List EV) (k : Nat), cellsV (l.take k) = (cellsV l).take (k * 2) := by
  intro l
  induction l with
  | nil => intro k; simp [cellsV]
  | cons x l ih =>
    intro k
    cases k with
    | zero => simp [cellsV]
    | succ k => rw [List.take_succ_cons, cellsV_cons, cellsV_cons, ih, show (k + 1) * 2 = k * 2 + 1 + 1 by omega, List.take_succ_cons, List.take_succ_cons]
theorem cellsV_drop : ∀ (l : List EV) (k : Nat), cellsV (l.drop k) = (cellsV l).drop (k * 2) := by
  intro l
  induction l with
  | nil => intro k; simp [cellsV]
  | cons x l ih =>
    intro k
    cases k with
    | zero => simp
    | succ k => rw [List.drop_succ_cons, cellsV_cons, ih, show (k + 1) * 2 = k * 2 + 1 + 1 by omega, List.drop_succ_cons, List.drop_succ_cons]
def KidsAt (S : Nat → Prop) (w : World) : Tr → List EV → Prop
  | .nil, xs => xs = []
  | .cons nm k r, xs => ∃ A n c ys rs, xs = ⟨nm, A, n, c⟩ :: rs ∧ RV w 2 A n c (cellsV ys) ∧ (∀ ad, A = some ad → S ad.block) ∧ c ≤ maxLen ∧ KidsAt S w k ys ∧ KidsAt S w r rs
def TV (S : Nat → Prop) (w : World) (t : Tr) (A : Option Addr) (n c : Nat) : Prop :=
  ∃ xs, RV w 2 A n c (cellsV xs) ∧ (∀ ad, A = some ad → S ad.block) ∧ c ≤ maxLen ∧ KidsAt S w t xs
theorem RV.agree {w w' : World} {size : Nat} {A : Option Addr} {n c : Nat} {xs : List Value} (h : RV w size A n c xs) (hag : ∀ ad, A = some ad → w'.heap[ad.block]? = w.heap[ad.block]?) : RV w' size A n c xs :=
  ⟨h.len, h.cap, h.nil, fun ad e j u hu => by
    rw [World.cell?_of_block (w := w) (by rw [add_block]; exact hag ad e)]
    exact h.cell ad e j u hu, h.one⟩
theorem KidsAt.move {S S' : Nat → Prop} {w w' : World} (hag : ∀ b, S b → w'.heap[b]? = w.heap[b]?) (hS : ∀ b, S b → S' b) : ∀ {t : Tr} {xs : List EV}, KidsAt S w t xs → KidsAt S' w' t xs := by
  intro t
  induction t with
  | nil => intro xs h; exact h
  | cons nm k r ihk ihr =>
    rintro xs ⟨A, n, c, ys, rs, e, hR, hb, hc, hk, hr⟩
    exact ⟨A, n, c, ys, rs, e, RV.agree hR fun ad ea => hag _ (hb ad ea), fun ad ea => hS _ (hb ad ea), hc, ihk hk, ihr hr⟩
theorem TV.move {S S' : Nat → Prop} {w w' : World} {t : Tr} {A : Option Addr} {n c : Nat} (h : TV S w t A n c) (hag : ∀ b, S b → w'.heap[b]? = w.heap[b]?) (hS : ∀ b, S b → S' b) : TV S' w' t A n c := by
  obtain ⟨xs, hR, hb, hc, hk⟩ := h
  exact ⟨xs, RV.agree hR fun ad ea => hag _ (hb ad ea), fun ad ea => hS _ (hb ad ea), hc, hk.move hag hS⟩
theorem TV.below {S : Nat → Prop} {w w' : World} {t : Tr} {A : Option Addr} {n c : Nat} (h : TV S w t A n c) (hS : ∀ b, S b → b < w.heap.size) (hb : Below w.heap.size w w') : TV S w' t A n c :=
  h.move (fun b hb' => hb.block b (hS b hb')) fun _ hb' => hb'
theorem KidsAt.len {S : Nat → Prop} {w : World} : ∀ {t : Tr} {xs : List EV}, KidsAt S w t xs → xs.length = t.len := by
  intro t
  induction t with
  | nil => rintro xs rfl; rfl
  | cons nm k r _ ihr =>
    rintro xs ⟨A, n, c, ys, rs, rfl, _, _, _, _, hr⟩
    simp only [List.length_cons, Tr.len, ihr hr]
theorem TV.len {S : Nat → Prop} {w : World} {t : Tr} {A : Option Addr} {n c : Nat} (h : TV S w t A n c) : n = t.len := by
  obtain ⟨xs, hR, _, _, hk⟩ := h
  have h1 := hR.len
  have h2 := hk.len
  rw [cellsV_length] at h1
  omega
def Tr.at? : Tr → Nat → Option (ByteArray × Tr)
  | .nil, _ => none
  | .cons nm k _, 0 => some (nm, k)
  | .cons _ _ r, i + 1 => r.at? i
theorem KidsAt.get {S : Nat → Prop} {w : World} : ∀ {t : Tr} {xs : List EV}, KidsAt S w t xs → ∀ (i : Nat), i < t.len →
    ∃ x nm k, xs[i]? = some x ∧ t.at? i = some (nm, k) ∧ x.nm = nm ∧ TV S w k x.A x.n x.c := by
  intro t
  induction t with
  | nil => intro xs _ i hi; exact absurd hi (Nat.not_lt_zero _)
  | cons nm k r _ ihr =>
    rintro xs ⟨A, n, c, ys, rs, rfl, hR, hb, hc, hk, hr⟩ i hi
    cases i with
    | zero => exact ⟨⟨nm, A, n, c⟩, nm, k, rfl, rfl, rfl, ys, hR, hb, hc, hk⟩
    | succ i =>
      obtain ⟨x, nm', k', h1, h2, h3, h4⟩ := ihr hr i (by simp only [Tr.len] at hi; omega)
      exact ⟨x, nm', k', by simpa using h1, h2, h3, h4⟩
theorem readV {w : World} {A : Option Addr} {n c : Nat} {l : List EV} (h : RV w 2 A n c (cellsV l)) (k : Nat) (x : EV) (hx : l[k]? = some x) :
    ∃ ad, A = some ad ∧ w.cell? (ad.add (k * 2)) = some (.string x.nm) ∧ w.cell? ⟨(ad.add (k * 2)).block, (ad.add (k * 2)).off + 1, none⟩ = some (.slice x.A x.n x.c) := by
  have hk : k < l.length := (List.getElem?_eq_some_iff.1 hx).1
  have hl : l.length = n := by have := h.len; rw [cellsV_length] at this; omega
  cases A with
  | none => have := (h.nil rfl).1; omega
  | some ad =>
    have g1 : (⟨(ad.add (k * 2)).block, (ad.add (k * 2)).off + 1, none⟩ : Addr) = ad.add (k * 2 + 1) := by
      unfold Addr.add
      by_cases h0 : k * 2 = 0
      · rw [if_pos h0, h0, if_neg (by omega)]
      · rw [if_neg h0, if_neg (by omega)]; simp [Nat.add_assoc]
    obtain ⟨c1, c2⟩ := cellsV_get l k x hx
    refine ⟨ad, rfl, h.cell ad rfl _ _ c1, ?_⟩
    rw [g1]
    exact h.cell ad rfl _ _ c2
def Tr.size : Tr → Nat
  | .nil => 0
  | .cons _ k r => k.size + r.size + 1
theorem Tr.len_le (t : Tr) : t.len ≤ t.size := by
  induction t with
  | nil => exact Nat.le_refl _
  | cons nm k r _ ih => simp only [Tr.len, Tr.size]; omega
theorem Tr.at_lt {nm : ByteArray} {k : Tr} : ∀ {t : Tr} {i : Nat}, t.at? i = some (nm, k) → k.size < t.size := by
  intro t
  induction t with
  | nil => intro i h; simp [Tr.at?] at h
  | cons nm' k' r _ ih =>
    intro i h
    cases i with
    | zero => simp only [Tr.at?, Option.some.injEq, Prod.mk.injEq] at h; obtain ⟨_, rfl⟩ := h; simp only [Tr.size]; omega
    | succ i => have := ih h; simp only [Tr.size]; omega
theorem KidsAt.of_get {S : Nat → Prop} {w : World} : ∀ {t : Tr} {xs : List EV}, xs.length = t.len → (∀ i x nm k, xs[i]? = some x → t.at? i = some (nm, k) → x.nm = nm ∧ TV S w k x.A x.n x.c) → KidsAt S w t xs := by
  intro t
  induction t with
  | nil => intro xs h _; exact List.eq_nil_of_length_eq_zero h
  | cons nm k r _ ihr =>
    intro xs h hg
    cases xs with
    | nil => simp [Tr.len] at h
    | cons x xs =>
      obtain ⟨e, ys, hR, hb, hc, hk⟩ := hg 0 x nm k rfl rfl
      obtain ⟨nm', A, n, c⟩ := x
      simp only at e
      subst e
      refine ⟨A, n, c, ys, xs, rfl, hR, hb, hc, hk, ihr (by simpa [Tr.len] using h) fun i x nm k h1 h2 => hg (i + 1) x nm k (by simpa using h1) h2⟩
theorem cellsV_set : ∀ (l : List EV) (k : Nat) (x : EV), cellsV (l.set k x) = ((cellsV l).set (k * 2) (.string x.nm)).set (k * 2 + 1) (.slice x.A x.n x.c) := by
  intro l
  induction l with
  | nil => intro k x; rfl
  | cons y l ih =>
    intro k x
    cases k with
    | zero => rfl
    | succ k =>
      rw [List.set_cons_succ, cellsV_cons, cellsV_cons, ih, show (k + 1) * 2 = k * 2 + 1 + 1 by omega, show k * 2 + 1 + 1 + 1 = (k * 2 + 1) + 1 + 1 by omega]
      simp only [List.set_cons_succ]
theorem own_store {w1 : World} {base g n c : Nat} {E : TypeId} {xs : List EV} (h : w1.ownsRow base E 2 (.slice (some ⟨g, 0, none⟩) n c) n (cellsV xs)) (k : Nat) (x : EV) :
    ((w1.setCell ⟨g, k * 2, none⟩ (.string x.nm)).setCell ⟨g, k * 2 + 1, none⟩ (.slice x.A x.n x.c)).ownsRow base E 2 (.slice (some ⟨g, 0, none⟩) n c) n (cellsV (xs.set k x)) ∧
    w1.grownBy ((w1.setCell ⟨g, k * 2, none⟩ (.string x.nm)).setCell ⟨g, k * 2 + 1, none⟩ (.slice x.A x.n x.c)) (some g) ∧
    ((w1.setCell ⟨g, k * 2, none⟩ (.string x.nm)).setCell ⟨g, k * 2 + 1, none⟩ (.slice x.A x.n x.c)).heap.size = w1.heap.size := by
  obtain ⟨h1, g1⟩ := h.stored (k * 2) (.string x.nm)
  obtain ⟨h2, g2⟩ := h1.stored (k * 2 + 1) (.slice x.A x.n x.c)
  refine ⟨?_, g1.trans g2, by simp⟩
  rw [cellsV_set]
  exact h2
def OwnPost (E : TypeId) (w : World) (t : Tr) (e : Ending) (w' : World) : Prop :=
  ∃ xs : List EV, e = .returned (.slice (some ⟨w.heap.size, 0, none⟩) t.len t.len) ∧ Below w.heap.size w w' ∧ w.heap.size < w'.heap.size ∧ w'.ownsRow w.heap.size E 2 (.slice (some ⟨w.heap.size, 0, none⟩) t.len t.len) t.len (cellsV xs) ∧
    KidsAt (fun b => w.heap.size < b ∧ b < w'.heap.size) w' t xs
end Go.Tr
end
section
open Go Go.RowKit Go.Kb
namespace Go.Tr
def ltB (a b : ByteArray) : Bool := Op.bytesLess a.data.toList b.data.toList
theorem less_irrefl : ∀ a : List UInt8, Op.bytesLess a a = false
  | [] => rfl
  | x :: a => by simp [Op.bytesLess, less_irrefl a, UInt8.lt_irrefl]
theorem less_trans : ∀ a b c : List UInt8, Op.bytesLess a b = true → Op.bytesLess b c = true → Op.bytesLess a c = true
  | _, [], _, h, _ => by simp [Op.bytesLess] at h
  | _, _ :: _, [], _, h => by simp [Op.bytesLess] at h
  | [], _ :: _, _ :: _, _, _ => rfl
  | x :: a, y :: b, z :: c, h, g => by
    simp only [Op.bytesLess, Bool.or_eq_true, decide_eq_true_eq, Bool.and_eq_true, beq_iff_eq] at h g ⊢
    rcases h with h | ⟨rfl, h⟩
    · rcases g with g | ⟨rfl, g⟩
      · exact .inl (UInt8.lt_trans h g)
      · exact .inl h
    · rcases g with g | ⟨rfl, g⟩
      · exact .inl g
      · exact .inr ⟨rfl, less_trans a b c h g⟩
theorem cmp_less : ∀ a b : List UInt8, Lib.compareBytes a b = if Op.bytesLess a b then -1 else if a = b then 0 else 1
  | [], [] => rfl
  | [], _ :: _ => rfl
  | _ :: _, [] => rfl
  | x :: a, y :: b => by
    have ih := cmp_less a b
    unfold Lib.compareBytes
    rw [ih]
    simp only [Op.bytesLess]
    by_cases h1 : x < y
    · simp [h1]
    · by_cases h2 : y < x
      · have hne : ¬ x = y := fun e => by subst e; exact UInt8.lt_irrefl _ h2
        simp [h1, h2, hne]
      · have hxy : x = y := UInt8.le_antisymm (UInt8.not_lt.1 h2) (UInt8.not_lt.1 h1)
        subst hxy
        simp [h1]
theorem less_eq_or (a b : List UInt8) : Op.bytesLess a b = true ∨ a = b ∨ Op.bytesLess b a = true := by
  induction a generalizing b with
  | nil => cases b with
    | nil => exact .inr (.inl rfl)
    | cons y b => exact .inl rfl
  | cons x a ih => cases b with
    | nil => exact .inr (.inr rfl)
    | cons y b =>
      simp only [Op.bytesLess, Bool.or_eq_true, decide_eq_true_eq, Bool.and_eq_true, beq_iff_eq, List.cons.injEq]
      by_cases h1 : x < y
      · exact .inl (.inl h1)
      · by_cases h2 : y < x
        · exact .inr (.inr (.inl h2))
        · have hxy : x = y := UInt8.le_antisymm (UInt8.not_lt.1 h2) (UInt8.not_lt.1 h1)
          subst hxy
          rcases ih b with h | h | h
          · exact .inl (.inr ⟨rfl, h⟩)
          · exact .inr (.inl ⟨rfl, h⟩)
          · exact .inr (.inr (.inr ⟨rfl, h⟩))
theorem lt_irrefl (a : ByteArray) : ltB a a = false := less_irrefl _
theorem lt_trans {a b c : ByteArray} (h : ltB a b = true) (g : ltB b c = true) : ltB a c = true := less_trans _ _ _ h g
theorem lt_tri (a b : ByteArray) : ltB a b = true ∨ a = b ∨ ltB b a = true := by
  rcases less_eq_or a.data.toList b.data.toList with h | h | h
  · exact .inl h
  · exact .inr (.inl (bl_ext h))
  · exact .inr (.inr h)
theorem cmp_ltB (a b : ByteArray) : Lib.compareBytes a.data.toList b.data.toList = if ltB a b then -1 else if a = b then 0 else 1 := by
  rw [cmp_less]
  by_cases h : a = b
  · subst h; simp [lt_irrefl, less_irrefl]
  · have : ¬ a.data.toList = b.data.toList := fun e => h (bl_ext e)
    simp only [h, this, if_false]
    rfl
def posL : List ByteArray → ByteArray → Nat
  | [], _ => 0
  | a :: l, nm => if ltB a nm then posL l nm + 1 else 0
def hasL (l : List ByteArray) (nm : ByteArray) : Bool := match l[posL l nm]? with | some a => a.data.toList == nm.data.toList | none => false
theorem posL_le (l : List ByteArray) (nm : ByteArray) : posL l nm ≤ l.length := by
  induction l with
  | nil => exact Nat.le_refl _
  | cons a l ih => unfold posL; split <;> simp only [List.length_cons] <;> omega
theorem posL_eq {l : List ByteArray} {nm : ByteArray} : ∀ {i : Nat}, i ≤ l.length → (∀ k a, k < i → l[k]? = some a → ltB a nm = true) → (∀ a, l[i]? = some a → ltB a nm = false) → posL l nm = i := by
  induction l with
  | nil => intro i h _ _; simp at h; subst h; rfl
  | cons a l ih =>
    intro i h h1 h2
    cases i with
    | zero => rw [posL, if_neg (by rw [h2 a rfl]; decide)]
    | succ i =>
      rw [posL, if_pos (h1 0 a (by omega) rfl), ih (by simp at h; omega) (fun k b hk hb => h1 (k + 1) b (by omega) (by simpa using hb)) (fun b hb => h2 b (by simpa using hb))]
theorem hasL_at {l : List ByteArray} {nm a : ByteArray} {i : Nat} (hp : posL l nm = i) (ha : l[i]? = some a) (hl : ltB a nm = false) : decide (Lib.compareBytes a.data.toList nm.data.toList = 0) = hasL l nm := by
  rw [cmp_ltB, if_neg (by rw [hl]; decide), hasL, hp, ha]
  by_cases he : a = nm
  · subst he; simp
  · have h1 : (a.data.toList == nm.data.toList) = false := by
      rw [beq_eq_false_iff_ne]
      exact fun e => he (bl_ext e)
    simp only [h1, if_neg he]
    decide
theorem hasL_no {l : List ByteArray} {nm : ByteArray} (hp : posL l nm = l.length) : hasL l nm = false := by
  rw [hasL, hp, List.getElem?_eq_none (Nat.le_refl _)]
theorem hasL_iff {l : List ByteArray} {nm : ByteArray} : hasL l nm = true ↔ l[posL l nm]? = some nm := by
  unfold hasL
  split
  · rename_i a h
    rw [h]
    simp only [beq_iff_eq, Option.some.injEq]
    exact ⟨bl_ext, fun e => by rw [e]⟩
  · rename_i h
    rw [h]
    simp
def Srt (l : List ByteArray) : Prop := l.Pairwise fun a b => ltB a b = true
theorem Srt.lt {l : List ByteArray} (h : Srt l) {i j : Nat} {a b : ByteArray} (hij : i < j) (ha : l[i]? = some a) (hb : l[j]? = some b) : ltB a b = true := by
  obtain ⟨hi, rfl⟩ := List.getElem?_eq_some_iff.1 ha
  obtain ⟨hj, rfl⟩ := List.getElem?_eq_some_iff.1 hb
  exact List.pairwise_iff_getElem.1 h i j hi hj hij
theorem Srt.up {l : List ByteArray} (h : Srt l) {i j : Nat} {a b nm : ByteArray} (hij : i ≤ j) (ha : l[i]? = some a) (hb : l[j]? = some b) (hn : ltB a nm = false) : ltB b nm = false := by
  rcases Nat.lt_or_eq_of_le hij with hij | rfl
  · cases hb' : ltB b nm with
    | false => rfl
    | true => rw [lt_trans (h.lt hij ha hb) hb'] at hn; cases hn
  · rw [ha] at hb; injection hb with hb; subst hb; exact hn
theorem Srt.down {l : List ByteArray} (h : Srt l) {i j : Nat} {a b nm : ByteArray} (hij : i ≤ j) (ha : l[i]? = some a) (hb : l[j]? = some b) (hn : ltB b nm = true) : ltB a nm = true := by
  rcases Nat.lt_or_eq_of_le hij with hij | rfl
  · exact lt_trans (h.lt hij ha hb) hn
  · rw [ha] at hb; injection hb with hb; subst hb; exact hn
def namesV (xs : List EV) : List ByteArray := xs.map EV.nm
end Go.Tr
end
section
open Go Go.RowKit Go.Kb
namespace Go.Tr
def Tr.names : Tr → List ByteArray
  | .nil => []
  | .cons nm _ r => nm :: r.names
theorem Tr.names_length (t : Tr) : t.names.length = t.len := by
  induction t with
  | nil => rfl
  | cons nm k r _ ih => simp only [Tr.names, List.length_cons, ih, Tr.len]
theorem Tr.names_get {t : Tr} : ∀ {i : Nat}, t.names[i]? = (t.at? i).map Prod.fst := by
  induction t with
  | nil => intro i; rfl
  | cons nm k r _ ih =>
    intro i
    cases i with
    | zero => rfl
    | succ i => simp only [Tr.names, List.getElem?_cons_succ, ih, Tr.at?]
theorem Tr.at_some (t : Tr) : ∀ {i : Nat}, i < t.len → ∃ nm k, t.at? i = some (nm, k) := by
  induction t with
  | nil => intro i h; exact absurd h (Nat.not_lt_zero _)
  | cons nm k r _ ih =>
    intro i h
    cases i with
    | zero => exact ⟨nm, k, rfl⟩
    | succ i => exact ih (by simp only [Tr.len] at h; omega)
theorem KidsAt.names {S : Nat → Prop} {w : World} : ∀ {t : Tr} {xs : List EV}, KidsAt S w t xs → namesV xs = t.names := by
  intro t
  induction t with
  | nil => rintro xs rfl; rfl
  | cons nm k r _ ihr =>
    rintro xs ⟨A, n, c, ys, rs, rfl, _, _, _, _, hr⟩
    have := ihr hr
    simp only [namesV, List.map_cons, Tr.names] at this ⊢
    rw [this]
def Tr.ok : Tr → Prop
  | .nil => True
  | .cons nm k r => (∀ b ∈ r.names, ltB nm b = true) ∧ k.ok ∧ r.ok
theorem Tr.ok.srt : ∀ {t : Tr}, t.ok → Srt t.names := by
  intro t
  induction t with
  | nil => intro _; exact List.Pairwise.nil
  | cons nm k r _ ih => intro h; exact List.Pairwise.cons h.1 (ih h.2.2)
theorem Tr.ok.kid : ∀ {t : Tr}, t.ok → ∀ {i nm k}, t.at? i = some (nm, k) → k.ok := by
  intro t
  induction t with
  | nil => intro _ i nm k h; simp [Tr.at?] at h
  | cons nm' k' r _ ih =>
    intro h i nm k hi
    cases i with
    | zero => simp only [Tr.at?, Option.some.injEq, Prod.mk.injEq] at hi; obtain ⟨_, rfl⟩ := hi; exact h.2.1
    | succ i => exact ih h.2.2 hi
def Tr.get1 (t : Tr) (nm : ByteArray) : Option Tr := if hasL t.names nm then (t.at? (posL t.names nm)).map Prod.snd else none
def Tr.getp : Tr → List ByteArray → Option Tr
  | t, [] => some t
  | t, nm :: p => (t.get1 nm).bind fun k => k.getp p
theorem Tr.get1_at {t k : Tr} {nm : ByteArray} (h : t.get1 nm = some k) : t.at? (posL t.names nm) = some (nm, k) := by
  unfold Tr.get1 at h
  split at h
  · rename_i hh
    rw [hasL_iff, Tr.names_get] at hh
    cases hx : t.at? (posL t.names nm) with
    | none => rw [hx] at h; cases h
    | some x =>
      rw [hx] at h hh
      simp only [Option.map_some, Option.some.injEq] at h hh
      obtain ⟨a, b⟩ := x
      simp only at h hh
      rw [h, hh]
  · cases h
theorem Tr.get1_ok {t k : Tr} {nm : ByteArray} (ht : t.ok) (h : t.get1 nm = some k) : k.ok := ht.kid (Tr.get1_at h)
theorem Tr.get1_lt {t k : Tr} {nm : ByteArray} (h : t.get1 nm = some k) : k.size < t.size := Tr.at_lt (Tr.get1_at h)
def Tr.set1 : Tr → ByteArray → Tr → Tr
  | .nil, nm, x => .cons nm x .nil
  | .cons a k r, nm, x => if ltB a nm then .cons a k (r.set1 nm x) else if a = nm then .cons nm x r else .cons nm x (.cons a k r)
def Tr.putp : Tr → List ByteArray → Tr → Tr
  | _, [], x => x
  | t, nm :: p, x => t.set1 nm (((t.get1 nm).getD .nil).putp p x)
theorem hasL_cons_lt {a nm : ByteArray} {l : List ByteArray} (h : ltB a nm = true) : hasL (a :: l) nm = hasL l nm := by
  unfold hasL
  rw [posL, if_pos h]
  rfl
theorem hasL_cons_ge {a nm : ByteArray} {l : List ByteArray} (h : ¬ ltB a nm = true) : hasL (a :: l) nm = true ↔ a = nm := by
  rw [hasL_iff, posL, if_neg h]
  simp
theorem KidsAt.has {S S' : Nat → Prop} {w w' : World} {nm : ByteArray} {x : Tr} {A : Option Addr} {n c : Nat} (hag : ∀ b, S b → w'.heap[b]? = w.heap[b]?) (hS : ∀ b, S b → S' b) (hx : TV S' w' x A n c) :
    ∀ {t : Tr} {xs : List EV}, KidsAt S w t xs → hasL t.names nm = true → KidsAt S' w' (t.set1 nm x) (xs.set (posL t.names nm) ⟨nm, A, n, c⟩) := by
  intro t
  induction t with
  | nil => intro xs _ h; simp [Tr.names, hasL, posL] at h
  | cons a k r _ ihr =>
    rintro xs hk hh
    have hk' := hk.move hag hS
    obtain ⟨A1, n1, c1, ys, rs, rfl, hR, hb, hc, hkk, hkr⟩ := hk
    obtain ⟨A2, n2, c2, ys2, rs2, e2, hR2, hb2, hc2, hkk2, hkr2⟩ := hk'
    injection e2 with e2 e3
    injection e2 with e4 e5 e6 e7
    subst e3
    subst e5
    subst e6
    subst e7
    by_cases hlt : ltB a nm = true
    · rw [Tr.names, hasL_cons_lt hlt] at hh
      rw [Tr.names, posL, if_pos hlt, Tr.set1, if_pos hlt]
      exact ⟨_, _, _, ys2, _, rfl, hR2, hb2, hc2, hkk2, ihr hkr hh⟩
    · rw [Tr.names, hasL_cons_ge hlt] at hh
      subst hh
      rw [Tr.names, posL, if_neg hlt, Tr.set1, if_neg hlt, if_pos rfl]
      obtain ⟨zs, g1, g2, g3, g4⟩ := hx
      exact ⟨_, _, _, zs, _, rfl, g1, g2, g3, g4, hkr2⟩
theorem KidsAt.hasnt {S S' : Nat → Prop} {w w' : World} {nm : ByteArray} {x : Tr} {A : Option Addr} {n c : Nat} (hag : ∀ b, S b → w'.heap[b]? = w.heap[b]?) (hS : ∀ b, S b → S' b) (hx : TV S' w' x A n c) :
    ∀ {t : Tr} {xs : List EV}, KidsAt S w t xs → hasL t.names nm = false → KidsAt S' w' (t.set1 nm x) (xs.take (posL t.names nm) ++ ⟨nm, A, n, c⟩ :: xs.drop (posL t.names nm)) := by
  intro t
  induction t with
  | nil =>
    rintro xs rfl _
    obtain ⟨zs, g1, g2, g3, g4⟩ := hx
    exact ⟨_, _, _, zs, [], rfl, g1, g2, g3, g4, rfl⟩
  | cons a k r _ ihr =>
    rintro xs hk hh
    have hk' := hk.move hag hS
    obtain ⟨A1, n1, c1, ys, rs, rfl, hR, hb, hc, hkk, hkr⟩ := hk
    obtain ⟨A2, n2, c2, ys2, rs2, e2, hR2, hb2, hc2, hkk2, hkr2⟩ := hk'
    injection e2 with e2 e3
    injection e2 with e4 e5 e6 e7
    subst e3
    subst e5
    subst e6
    subst e7
    by_cases hlt : ltB a nm = true
    · rw [Tr.names, hasL_cons_lt hlt] at hh
      rw [Tr.names, posL, if_pos hlt, Tr.set1, if_pos hlt]
      exact ⟨_, _, _, ys2, _, rfl, hR2, hb2, hc2, hkk2, ihr hkr hh⟩
    · have hne : ¬ a = nm := fun e => by
        rw [Tr.names, (hasL_cons_ge hlt).2 e] at hh
        cases hh
      rw [Tr.names, posL, if_neg hlt, Tr.set1, if_neg hlt, if_neg hne]
      obtain ⟨zs, g1, g2, g3, g4⟩ := hx
      exact ⟨_, _, _, zs, _, rfl, g1, g2, g3, g4, _, _, _, ys2, _, rfl, hR2, hb2, hc2, hkk2, hkr2⟩
theorem Tr.set1_size (t : Tr) (nm : ByteArray) (x : Tr) : (t.set1 nm x).size ≤ t.size + x.size + 1 := by
  induction t with
  | nil => simp [Tr.set1, Tr.size]
  | cons a k r _ ih =>
    rw [Tr.set1]
    split
    · simp only [Tr.size]; omega
    · split <;> simp only [Tr.size] <;> omega
end Go.Tr
end
