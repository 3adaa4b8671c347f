/- Part of a proof: contracts and lemmas; no condition. -/
import Derived.Test.YtpacfelhjjmmkaaDoorGlb
import Derived.Test.YtpacfelhjjmmkaaDoorProg
import Derived.Deep.RegionWith
import Derived.Deep.DeepCutAuto
import Derived.Deep.RegionHeld3
import Derived.Shelf.Strings.Trim
import Derived.Shelf.Small.Utf8
import Derived.Shelf.Small.Strs
import Derived.Shelf.Strings.Search1
import Derived.Shelf.Strings.Search2
import Derived.Shelf.Strings.Search3
import Derived.Shelf.Strings.Cut
import Derived.Shelf.LaysM
import Derived.Shelf.Strings.Shaped
import Derived.Shelf.Strings.Prefix
import Derived.Shelf.Unicode.Decode
import Derived.Shelf.Strings.Runes
import Derived.Shelf.Strings.IndexAny
import Derived.Shelf.Strings.AsciiSet
import Derived.Shelf.Strings.IndexAnyAll
import Derived.Shelf.Unicode.DecodeSlow
import Derived.Shelf.Unicode.DecodeAny
import Derived.Shelf.Unicode.DecodeLast
import Derived.LoopTactic
import Derived.Deep.AppendSrc
import Derived.Lib.AppendZerosOnto
import Derived.Laws.CopyRow
import Derived.Lib.SliceRun
import Derived.BigRegion
import Derived.Deep.QuietTactic
import Derived.BigQuiet
section
open Go Go.RowKit Go.Kb
namespace Go.Tr
theorem Tr.set1_names {t x : Tr} {nm b : ByteArray} (h : b ∈ (t.set1 nm x).names) : b = nm ∨ b ∈ t.names := by
  induction t with
  | nil => simp only [Tr.set1, Tr.names, List.mem_cons, List.not_mem_nil, or_false] at h; exact .inl h
  | cons a k r _ ih =>
    rw [Tr.set1] at h
    split at h
    · simp only [Tr.names, List.mem_cons] at h ⊢
      rcases h with h | h
      · exact .inr (.inl h)
      · rcases ih h with h | h
        · exact .inl h
        · exact .inr (.inr h)
    · split at h
      · simp only [Tr.names, List.mem_cons] at h ⊢
        rcases h with h | h
        · exact .inl h
        · exact .inr (.inr h)
      · simp only [Tr.names, List.mem_cons] at h ⊢
        exact h
theorem Tr.set1_ok {t x : Tr} {nm : ByteArray} (ht : t.ok) (hx : x.ok) : (t.set1 nm x).ok := by
  induction t with
  | nil => exact ⟨(fun b hb => by simp [Tr.names] at hb), hx, trivial⟩
  | cons a k r _ ih =>
    obtain ⟨h1, h2, h3⟩ := ht
    rw [Tr.set1]
    split
    · rename_i hlt
      refine ⟨fun b hb => ?_, h2, ih h3⟩
      rcases Tr.set1_names hb with rfl | hb
      · exact hlt
      · exact h1 b hb
    · rename_i hnl
      split
      · rename_i he
        subst he
        exact ⟨h1, hx, h3⟩
      · rename_i hne
        have hlt : ltB nm a = true := by
          rcases lt_tri a nm with h | h | h
          · exact absurd h hnl
          · exact absurd h hne
          · exact h
        refine ⟨fun b hb => ?_, hx, h1, h2, h3⟩
        simp only [Tr.names, List.mem_cons] at hb
        rcases hb with rfl | hb
        · exact hlt
        · exact lt_trans hlt (h1 b hb)
theorem Tr.getD_ok {t : Tr} {nm : ByteArray} (ht : t.ok) : ((t.get1 nm).getD .nil).ok := by
  cases hg : t.get1 nm with
  | none => exact trivial
  | some k => exact Tr.get1_ok ht hg
theorem Tr.putp_ok {x : Tr} (hx : x.ok) : ∀ {p : List ByteArray} {t : Tr}, t.ok → (t.putp p x).ok := by
  intro p
  induction p with
  | nil => intro t _; exact hx
  | cons nm p ih => intro t ht; exact Tr.set1_ok ht (ih (Tr.getD_ok ht))
theorem Tr.getp_ok : ∀ {p : List ByteArray} {t k : Tr}, t.ok → t.getp p = some k → k.ok := by
  intro p
  induction p with
  | nil => intro t k ht h; simp only [Tr.getp, Option.some.injEq] at h; subst h; exact ht
  | cons nm p ih =>
    intro t k ht h
    rw [Tr.getp] at h
    cases hg : t.get1 nm with
    | none => rw [hg] at h; cases h
    | some y => rw [hg] at h; exact ih (Tr.get1_ok ht hg) h
theorem Tr.getD_size (t : Tr) (nm : ByteArray) : ((t.get1 nm).getD .nil).size ≤ t.size := by
  cases hg : t.get1 nm with
  | none => exact Nat.zero_le _
  | some k => exact Nat.le_of_lt (Tr.get1_lt hg)
theorem Tr.putp_size {x : Tr} : ∀ (p : List ByteArray) (t : Tr), (t.putp p x).size ≤ p.length * (t.size + 1) + x.size := by
  intro p
  induction p with
  | nil => intro t; simp [Tr.putp]
  | cons nm p ih =>
    intro t
    have h1 := ih ((t.get1 nm).getD .nil)
    have h2 := Tr.getD_size t nm
    have h3 := Tr.set1_size t nm (((t.get1 nm).getD .nil).putp p x)
    have h4 : p.length * (((t.get1 nm).getD .nil).size + 1) ≤ p.length * (t.size + 1) := Nat.mul_le_mul_left _ (by omega)
    rw [Tr.putp, List.length_cons, Nat.add_mul]
    omega
theorem Tr.get1_cons (a : ByteArray) (k r : Tr) (nm : ByteArray) : (Tr.cons a k r).get1 nm = if ltB a nm then r.get1 nm else if a = nm then some k else none := by
  unfold Tr.get1
  by_cases h : ltB a nm = true
  · rw [if_pos h, Tr.names, hasL_cons_lt h, posL, if_pos h]
    rfl
  · rw [if_neg h]
    by_cases he : a = nm
    · rw [if_pos he, Tr.names, if_pos ((hasL_cons_ge h).2 he), posL, if_neg h]
      rfl
    · rw [if_neg he, Tr.names, if_neg (fun hh => he ((hasL_cons_ge h).1 hh))]
theorem Tr.get1_lt_none {t : Tr} {nm : ByteArray} (h : ∀ b ∈ t.names, ltB nm b = true) : t.get1 nm = none := by
  cases t with
  | nil => rfl
  | cons a k r =>
    have ha := h a (by simp [Tr.names])
    rw [Tr.get1_cons, if_neg (fun hh => by have := lt_trans ha hh; rw [lt_irrefl] at this; cases this), if_neg (fun e => by subst e; rw [lt_irrefl] at ha; cases ha)]
theorem Tr.get1_set1 {t x : Tr} {nm nm' : ByteArray} (ht : t.ok) : (t.set1 nm x).get1 nm' = if nm' = nm then some x else t.get1 nm' := by
  induction t with
  | nil =>
    rw [Tr.set1, Tr.get1_cons]
    by_cases he : nm' = nm
    · subst he
      rw [if_neg (by rw [lt_irrefl]; decide), if_pos rfl, if_pos rfl]
    · rw [if_neg he]
      split
      · rfl
      · rw [if_neg (fun e => he e.symm)]
        rfl
  | cons a k r _ ih =>
    obtain ⟨h1, h2, h3⟩ := ht
    rw [Tr.set1]
    by_cases hl : ltB a nm = true
    · rw [if_pos hl, Tr.get1_cons, Tr.get1_cons, ih h3]
      by_cases he : nm' = nm
      · subst he
        rw [if_pos hl, if_pos rfl, if_pos rfl]
      · rw [if_neg he, if_neg he]
    · rw [if_neg hl]
      by_cases ha : a = nm
      · subst ha
        rw [if_pos rfl, Tr.get1_cons, Tr.get1_cons]
        by_cases he : nm' = a
        · subst he
          rw [if_neg (by rw [lt_irrefl]; decide), if_pos rfl, if_pos rfl]
        · have hne : ¬ a = nm' := fun e => he e.symm
          simp only [if_neg he, if_neg hne]
      · rw [if_neg ha, Tr.get1_cons]
        have hlt : ltB nm a = true := by
          rcases lt_tri a nm with h | h | h
          · exact absurd h hl
          · exact absurd h ha
          · exact h
        by_cases he : nm' = nm
        · subst he
          rw [if_neg (by rw [lt_irrefl]; decide), if_pos rfl, if_pos rfl]
        · have hne : ¬ nm = nm' := fun e => he e.symm
          simp only [if_neg he, if_neg hne]
          by_cases hg : ltB nm nm' = true
          · rw [if_pos hg]
          · rw [if_neg hg]
            refine (Tr.get1_lt_none fun b hb => ?_).symm
            have hln : ltB nm' nm = true := by
              rcases lt_tri nm nm' with h | h | h
              · exact absurd h hg
              · exact absurd h.symm he
              · exact h
            simp only [Tr.names, List.mem_cons] at hb
            rcases hb with rfl | hb
            · exact lt_trans hln hlt
            · exact lt_trans hln (lt_trans hlt (h1 b hb))
end Go.Tr
end
section
open Go Go.RowKit Go.Kb Go.Tr
namespace Go.Tr
abbrev TVw (w : World) (t : Tr) (A : Option Addr) (n c : Nat) : Prop := TV (fun b => b < w.heap.size) w t A n c
theorem TVw.below {w w' : World} {t : Tr} {A : Option Addr} {n c : Nat} (h : TVw w t A n c) (hb : Below w.heap.size w w') : TVw w' t A n c :=
  h.move (fun b hb' => hb.block b hb') fun _ hb' => Nat.lt_of_lt_of_le hb' hb.size
theorem TV.w {S : Nat → Prop} {w : World} {t : Tr} {A : Option Addr} {n c : Nat} (h : TV S w t A n c) (hS : ∀ b, S b → b < w.heap.size) : TVw w t A n c := h.move (fun _ _ => rfl) hS
end Go.Tr
end
section
open Go Go.RowKit Go.Kb Go.Tr Go.Sy
set_option linter.unusedVariables false
namespace Go.Tr
def tvc : Tr → List SV
  | .nil => []
  | .cons nm k r => .s nm.data.toList :: .lst k.len (tvc k) :: tvc r
def tv (t : Tr) : SV := .lst t.len (tvc t)
theorem tvc_length : ∀ t : Tr, (tvc t).length = t.len * 2
  | .nil => rfl
  | .cons nm k r => by simp only [tvc, Tr.len, List.length_cons, tvc_length r]; omega
theorem tvc_one : ∀ t : Tr, (tvc t).all SV.one = true
  | .nil => rfl
  | .cons nm k r => by simp [tvc, SV.one, tvc_one r]
theorem tvc_nil {t : Tr} (h : t.len = 0) : t = .nil := by cases t <;> first | rfl | cases h
abbrev bA (l : List UInt8) : ByteArray := ⟨l.toArray⟩
theorem bA_data (b : ByteArray) : bA b.data.toList = b := by cases b; rfl
theorem data_bA (l : List UInt8) : (bA l).data.toList = l := by simp
theorem vr_blk {σ : Env} {s : St} {w : World} (h : HR σ s w) {v : SV} {A : Option Addr} {n c : Nat} (hv : VR σ v (.slice A n c)) : ∀ ad, A = some ad → ad.block < w.heap.size := by
  intro ad e
  cases hv with
  | sl h1 => obtain rfl := Option.some.inj e; exact h.lt _ _ _ h1
  | sl0 => cases e
  | nils => cases e
  | lst0 _ _ hm => exact Nat.lt_of_lt_of_le (hm ad e) h.m
  | lst h1 => obtain rfl := Option.some.inj e; exact h.zlt h1
section
variable {σ : Env} {s : St} {w : World}
theorem lst_in (hh : HR σ s w) {v : SV} {n : Nat} {cells : List SV} (hr : rdS 2 s v = some (n, cells)) (hl : cells.length = n * 2) {X : Value} (hx : VR σ v X) {P : List EV → Prop} (hk : ∀ xs, VRs σ cells xs → ∃ evs, xs = cellsV evs ∧ P evs) :
    ∃ A c ys, X = .slice A n c ∧ RV w 2 A n c (cellsV ys) ∧ (∀ ad, A = some ad → ad.block < w.heap.size) ∧ c ≤ maxLen ∧ P ys := by
  obtain ⟨A, c, xs, rfl, h2, h3, h4, h5, h6, h7⟩ := rdS_sound hh hr hl hx
  obtain ⟨evs, rfl, hP⟩ := hk xs h2
  exact ⟨A, c, evs, rfl, ⟨h3, h5, h4, fun ad e j u hu => h7 ad e w rfl j u hu, cellsV_one _⟩, vr_blk hh hx, h6, hP⟩
theorem tvc_in (hh : HR σ s w) : ∀ (t : Tr) (xs : List Value), VRs σ (tvc t) xs → ∃ evs, xs = cellsV evs ∧ KidsAt (fun b => b < w.heap.size) w t evs
  | .nil, xs, h => by cases h; exact ⟨[], rfl, rfl⟩
  | .cons nm k r, xs, h => by
    cases h with
    | cons h1 h =>
      cases h with
      | cons h2 h3 =>
        obtain ⟨A, c, ys, rfl, q1, q2, q3, q4⟩ := lst_in hh (n := k.len) (cells := tvc k) rfl (tvc_length k) h2 (fun xs hx => tvc_in hh k xs hx)
        obtain ⟨rs, rfl, hr⟩ := tvc_in hh r _ h3
        rw [h1.s_inv]
        refine ⟨⟨nm, A, k.len, c⟩ :: rs, ?_, A, k.len, c, ys, rs, rfl, q1, q2, q3, q4, hr⟩
        rw [cellsV_cons]
theorem tv_in (hh : HR σ s w) {t : Tr} {v : SV} (hr : rdS 2 s v = some (t.len, tvc t)) {X : Value} (hx : VR σ v X) : ∃ A c, X = .slice A t.len c ∧ TVw w t A t.len c := by
  obtain ⟨A, c, ys, rfl, q1, q2, q3, q4⟩ := lst_in hh hr (tvc_length t) hx (fun xs hx => tvc_in hh t xs hx)
  exact ⟨A, c, rfl, ys, q1, q2, q3, q4⟩
theorem strs_in (hh : HR σ s w) {p : List (List UInt8)} {v : SV} (hr : rdS 1 s v = some (p.length, p.map SV.s)) {X : Value} (hx : VR σ v X) : ∃ A c, X = .slice A p.length c ∧ RV w 1 A p.length c ((p.map bA).map Value.string) ∧ (∀ ad, A = some ad → ad.block < w.heap.size) := by
  obtain ⟨A, c, xs, rfl, h2, h3, h4, h5, h6, h7⟩ := rdS_sound hh hr (by simp) hx
  have : ∀ (p : List (List UInt8)) (xs : List Value), VRs σ (p.map SV.s) xs → xs = (p.map bA).map Value.string := by
    intro p
    induction p with
    | nil => intro xs h; cases h; rfl
    | cons a p ih =>
      intro xs h
      cases h with
      | cons h1 h2 => rw [h1.s_inv, ih _ h2]; rfl
  obtain rfl := this p xs h2
  refine ⟨A, c, rfl, ⟨h3, h5, h4, fun ad e j u hu => h7 ad e w rfl j u hu, fun u hu => ?_⟩, vr_blk hh hx⟩
  simp only [List.mem_map] at hu
  obtain ⟨_, _, rfl⟩ := hu
  rfl
theorem prefix_of {α : Type} {xs ys : List α} (h : ∀ (j : Nat) (u : α), xs[j]? = some u → ys[j]? = some u) : xs <+: ys := by
  rw [List.prefix_iff_getElem?]
  intro i hi
  exact h i _ (List.getElem?_eq_getElem hi)
theorem lst_out {w' : World} {A : Option Addr} {n c : Nat} {xs : List Value} {cells : List SV} {z : Nat} (hz : 0 < z) (hx : VRs (σ.frzNew w w') cells xs) (hR : RV w' z A n c xs) (hS : ∀ ad, A = some ad → w.heap.size ≤ ad.block ∧ ad.block < w'.heap.size) (hc : c ≤ maxLen) (hl : cells.length = n * z) : VR (σ.frzNew w w') (.lst n cells) (.slice A n c) := by
  rcases Nat.eq_zero_or_pos n with rfl | hn
  · have : cells = [] := List.length_eq_zero_iff.1 (by simpa using hl)
    subst this
    exact .lst0 (fun e => (hR.nil e).2) hc (fun ad e => (hS ad e).2)
  · cases A with
    | none => have := (hR.nil rfl).1; omega
    | some ad =>
      obtain ⟨blk, off, spot⟩ := ad
      have hpos : 0 < xs.length := by rw [hR.len]; exact Nat.mul_pos hn hz
      have h0 := hR.cell _ rfl 0 xs[0] (List.getElem?_eq_getElem hpos)
      have hS := hS _ rfl
      have hs : spot = none := by
        unfold World.cell? at h0
        split at h0
        · cases hsp : spot with
          | none => rfl
          | some q => rw [hsp] at h0; unfold Addr.add at h0; simp at h0
        · cases h0
      subst hs
      have hblk : ∃ cc e fr, w'.heap[blk]? = some (.cells cc e fr) := by
        rw [add_none] at h0
        unfold World.cell? at h0
        split at h0
        · rename_i cc e fr hb; exact ⟨cc, e, fr, hb⟩
        · cases h0
      obtain ⟨cc, e, ⟨lo, hi⟩, hb⟩ := hblk
      refine .lst (zs := cc.toList) (r := blk) (o := off) ?_ hx ?_ hR.cap hc
      · show (if w.heap.size ≤ blk then (match w'.heap[blk]? with
          | some (.cells c _ _) => some c.toList
          | _ => none) else σ.z blk) = _
        rw [if_pos hS.1, hb]
      · refine prefix_of fun j u hu => ?_
        have := hR.cell _ rfl j u hu
        rw [add_none, cell_of_heap hb] at this
        rw [List.getElem?_drop]
        simpa using this
theorem kids_out {w' : World} : ∀ (t : Tr) (evs : List EV), KidsAt (fun b => w.heap.size ≤ b ∧ b < w'.heap.size) w' t evs → VRs (σ.frzNew w w') (tvc t) (cellsV evs)
  | .nil, evs, h => by obtain rfl := h; exact .nil
  | .cons nm k r, evs, ⟨A, n, c, ys, rs, e, hR, hS, hc, hk, hr⟩ => by
    subst e
    rw [cellsV_cons]
    have hn : n = k.len := by
      have h1 := hR.len
      rw [cellsV_length] at h1
      have := hk.len
      omega
    subst hn
    refine .cons ?_ (.cons (lst_out (by decide) (kids_out k ys hk) hR hS hc (tvc_length k)) (kids_out r rs hr))
    have := VR.s (σ := σ.frzNew w w') (l := nm.data.toList)
    rw [show (⟨nm.data.toList.toArray⟩ : ByteArray) = nm from bA_data nm] at this
    exact this
theorem tv_out {w' : World} {t : Tr} {A : Option Addr} {n c : Nat} (h : TV (fun b => w.heap.size ≤ b ∧ b < w'.heap.size) w' t A n c) : VR (σ.frzNew w w') (tv t) (.slice A n c) := by
  have hn := h.len
  subst hn
  obtain ⟨xs, hR, hS, hc, hk⟩ := h
  exact lst_out (by decide) (kids_out t xs hk) hR hS hc (tvc_length t)
end
end Go.Tr
namespace Go.Proofs.YtpacfelhjjmmkaaDoor
def getV : Option Tr → SV
  | none => .tup [.nils, .b false]
  | some k => .tup [tv k, .b true]
end Go.Proofs.YtpacfelhjjmmkaaDoor
end
section
open Go Go.RowKit Go.Kb Go.Tr
namespace Go.Proofs.YtpacfelhjjmmkaaDoor
theorem bcell {W w1 : World} (hb : Below W.heap.size W w1) : (∀ b o, b < W.heap.size → w1.cell? ⟨b, o, none⟩ = W.cell? ⟨b, o, none⟩) ∧ (∀ b o, b < W.heap.size → w1.frozen? ⟨b, o, none⟩ = W.frozen? ⟨b, o, none⟩) :=
  ⟨fun _ _ h => hb.cell h, fun _ _ h => hb.frozen h⟩
theorem info_edge : (Tryd.prog.info? 41).map (fun i => (i.zero, i.size, i.bytes)) = some (some (.agg #[.string ⟨#[]⟩, .slice none 0 0]), 2, 40) := by kernel_rfl
theorem bundrew {B : Nat} {w W : World} (h : Below B w.drew W) : Below B w W := ⟨h.os, h.tape, h.output, h.size, h.block⟩
theorem own_rv' {w : World} {base n c : Nat} {A : Option Addr} {e : TypeId} {size : Nat} {xs : List Value} (h : w.ownsRow base e size (.slice A n c) n xs) (h1 : ∀ u ∈ xs, u.oneCell' = true) : RV w size A n c xs := by
  obtain ⟨A', c', he, hR, _⟩ := own_rv h h1
  injection he with h1 h2 h3
  subst h1
  subst h3
  exact hR
theorem own_round {w wr w5 : World} {n k b5 : Nat} {E : TypeId} {xs ys : List EV} {t kd : Tr} {nm : ByteArray} {x' : EV} (hbr : Below w.heap.size w wr) (hltr : w.heap.size < wr.heap.size)
    (HO : wr.ownsRow w.heap.size E 2 (.slice (some ⟨w.heap.size, 0, none⟩) n n) n (cellsV xs))
    (HP : ∀ j x nm kd, j < k → xs[j]? = some x → t.at? j = some (nm, kd) → x.nm = nm ∧ TV (fun b => w.heap.size < b ∧ b < wr.heap.size) wr kd x.A x.n x.c)
    (hat : t.at? k = some (nm, kd)) (hkd : kd.size ≤ 1000000) (hb5 : Below wr.heap.size wr w5) (hlt5 : wr.heap.size + 1 < w5.heap.size)
    (hW5 : w5.ownsRow b5 E 2 (.slice (some ⟨wr.heap.size + 1, 0, none⟩) kd.len kd.len) kd.len (cellsV ys))
    (hK5 : KidsAt (fun b => wr.heap.size + 1 < b ∧ b < w5.heap.size) w5 kd ys) (hx' : x' = ⟨nm, some ⟨wr.heap.size + 1, 0, none⟩, kd.len, kd.len⟩) (w6 : World)
    (hw6 : w6 = (w5.setCell ⟨w.heap.size, k * 2, none⟩ (.string x'.nm)).setCell ⟨w.heap.size, k * 2 + 1, none⟩ (.slice x'.A x'.n x'.c)) :
    Below w.heap.size w w6 ∧ w.heap.size < w6.heap.size ∧ w6.ownsRow w.heap.size E 2 (.slice (some ⟨w.heap.size, 0, none⟩) n n) n (cellsV (xs.set k x')) ∧
    ∀ j x nm kd, j < k + 1 → (xs.set k x')[j]? = some x → t.at? j = some (nm, kd) → x.nm = nm ∧ TV (fun b => w.heap.size < b ∧ b < w6.heap.size) w6 kd x.A x.n x.c := by
  have HO5 := HO.kept (grown_of_below hb5 none) (.inr (by simp [Value.ownBlock]))
  obtain ⟨HO6, hg6, hs6⟩ := own_store HO5 k x'
  rw [← hw6] at HO6 hg6 hs6
  have hs5 := hb5.size
  refine ⟨(bthen hbr (Nat.le_refl _) hb5).trans ⟨hg6.os, hg6.tape, hg6.output, hg6.size, fun i hi => hg6.block i (by omega) (by simp; omega)⟩, by omega, HO6, ?_⟩
  intro j x nm' kd' hj hx hat'
  by_cases hjk : j = k
  · subst hjk
    rw [hat] at hat'
    simp only [Option.some.injEq, Prod.mk.injEq] at hat'
    obtain ⟨rfl, rfl⟩ := hat'
    have hxx : x' = x := by
      rw [List.getElem?_set] at hx
      simp only [↓reduceIte] at hx
      split at hx
      · simpa using hx
      · cases hx
    subst hxx
    subst hx'
    refine ⟨rfl, ys, RV.agree (own_rv' hW5 (cellsV_one _)) fun ad e => ?_, fun ad e => ?_, ?_, hK5.move (fun b hb => hg6.block b hb.2 (by simp; omega)) fun b hb => ⟨by omega, by omega⟩⟩
    · injection e with e
      subst e
      exact hg6.block _ hlt5 (by simp; omega)
    · injection e with e
      subst e
      exact ⟨by show _ < wr.heap.size + 1; omega, by show wr.heap.size + 1 < _; omega⟩
    · have := kd.len_le
      simp only [maxLen]; omega
  · rw [List.getElem?_set_ne (fun h => hjk h.symm)] at hx
    obtain ⟨h1, h2⟩ := HP j x nm' kd' (by omega) hx hat'
    refine ⟨h1, h2.move (fun b hb => ?_) fun b hb => ⟨hb.1, by omega⟩⟩
    rw [hg6.block b (by omega) (by simp; omega)]
    exact hb5.block b hb.2
theorem made_edges (n : Nat) : (madeCells (Value.agg #[.string ⟨#[]⟩, .slice none 0 0]).cells (n * 2)).toList = cellsV (List.replicate n ⟨⟨#[]⟩, none, 0, 0⟩) := by
  have h2 : ∀ n j, (cellsV (List.replicate n ⟨⟨#[]⟩, none, 0, 0⟩))[j]? = if j < n * 2 then some (if j % 2 = 0 then Value.string ⟨#[]⟩ else Value.slice none 0 0) else none := by
    intro n
    induction n with
    | zero => intro j; simp [cellsV]
    | succ n ih =>
      intro j
      rw [List.replicate_succ, cellsV_cons]
      match j with
      | 0 => simp
      | 1 => simp; omega
      | j + 2 =>
        simp only [List.getElem?_cons_succ, ih]
        have e : (j + 2) % 2 = j % 2 := by omega
        rw [e]
        by_cases hj : j < n * 2
        · have h' : j + 2 < (n + 1) * 2 := by omega
          simp only [if_pos hj, if_pos h']
        · have h' : ¬ j + 2 < (n + 1) * 2 := by omega
          simp only [if_neg hj, if_neg h']
  apply List.ext_getElem?
  intro j
  rw [h2]
  by_cases hj : j < n * 2
  · rw [if_pos hj]
    have hm : j % 2 = 0 ∨ j % 2 = 1 := by omega
    rcases hm with hm | hm <;> simp [madeCells, hj, Value.cells, hm]
  · rw [if_neg hj]
    simp [madeCells, hj]
set_option maxRecDepth 100000 in
set_option maxHeartbeats 1600000 in
theorem own_any : ∀ (m : Nat) (t : Tr), t.size < m → t.size ≤ 1000000 → ∀ (S : Nat → Prop) (w : World) (A : Option Addr) (n c : Nat), TV S w t A n c → (∀ b, S b → b < w.heap.size) →
    Calls Tryd.prog 31 #[.slice A n c] w (OwnPost 41 w t) := by
  intro m
  induction m with
  | zero => intro t ht; omega
  | succ m ih =>
    intro t ht hbig S w A n c hT hS
    obtain ⟨i0, hi, hz0, hz1, hz2⟩ := info_parts info_edge
    have hn := hT.len
    have hle : n ≤ 1000000 := by have := t.len_le; omega
    obtain ⟨ts, hR, hAb, hc, hk⟩ := hT
    have HN := Lib.hid hn
    have HR := Lib.hid hR
    have HK := Lib.hid hk
    have IH := Lib.hid ih
    have HS := Lib.hid hS
    have HAB := Lib.hid hAb
    clear hR hk ih hn hS hAb
    go_enter Tryd.func31, Tryd.ntmps31
    have tok1 : True := trivial
    go_wp2_with (first | (at_make; have _t := tok1; refine wpList_make_full _ rfl _ _ 30 rfl w.heap.size 41 i0 _ 2 Tryd.underlying30 hi hz0 hz1 .i64 .i64 (n : Int) (n : Int) n rfl rfl rfl rfl (by rw [hz2]; omega) (by simp only [maxLen]; omega) (Nat.le_refl _) ?_; intro w1 hown hg1; clear tok1))
    have hmade : (madeCells (Value.agg #[.string ⟨#[]⟩, .slice none 0 0]).cells (n * 2)).toList = cellsV (List.replicate n ⟨⟨#[]⟩, none, 0, 0⟩) := made_edges n
    rw [hmade] at hown
    clear hmade
    have hb1 := below_of_grown hg1
    have hlt1 : w.heap.size < w1.heap.size := by have := hown.lt w.heap.size rfl; omega
    have HO := Lib.hid hown
    clear hown hg1 hi hz0 hz1 hz2
    go_loopw [11] (fun i wr => ∃ (k : Nat) (xs : List EV), k ≤ n ∧ i = .int .i64 k ∧ Below w.heap.size w wr ∧ w.heap.size < wr.heap.size ∧ Hid (wr.ownsRow w.heap.size 41 2 (.slice (some ⟨w.heap.size, 0, none⟩) n n) n (cellsV xs)) ∧ Hid (∀ j x nm kd, j < k → xs[j]? = some x → t.at? j = some (nm, kd) → x.nm = nm ∧ TV (fun b => w.heap.size < b ∧ b < wr.heap.size) wr kd x.A x.n x.c)) (fun i _ => n - (intOf i).toNat)
    case atStart => exact ⟨0, _, Nat.zero_le _, rfl, hb1, hlt1, HO, Lib.hid (fun j x nm kd hj => absurd hj (Nat.not_lt_zero _))⟩
    case round =>
      obtain ⟨k, xs, hkn, rfl, hbr, hltr, HO', HP⟩ := hrel
      clear HO hb1 hlt1
      by_cases hk : k < n
      · obtain ⟨x, nm, kd, hx, hat, hnm, hTV⟩ := HK.out.get k (by have := HN.out; omega)
        obtain ⟨ad, hA, r1, r2⟩ := readV HR.out k x hx
        have hadw : (ad.add (k * 2)).block < w.heap.size := by rw [add_block]; exact HS.out _ (HAB.out ad hA)
        have q1 : wr.cell? (ad.add (k * 2)) = some (.string x.nm) := (hbr.cell hadw).trans r1
        have q2 : wr.cell? ⟨(ad.add (k * 2)).block, (ad.add (k * 2)).off + 1, none⟩ = some (.slice x.A x.n x.c) := (hbr.cell (p := ⟨(ad.add (k * 2)).block, (ad.add (k * 2)).off + 1, none⟩) hadw).trans r2
        clear r1 r2
        obtain ⟨nmx, Ax, nx, cx⟩ := x
        simp only at hnm hTV q1 q2
        subst hnm
        subst hA
        have kb0 : (0 : Int) ≤ (k : Int) := by omega
        have kb1 : (k : Int) < (n : Int) := by omega
        have hTVr : TV (fun b => b < wr.heap.size) wr kd Ax nx cx := hTV.move (fun b hb => hbr.block b (HS.out b hb)) fun b hb => Nat.lt_of_lt_of_le (HS.out b hb) hbr.size
        have HTV := Lib.hid hTVr
        clear hTV hTVr
        have hxl : xs.length = n := by have := HO'.out.1; rw [cellsV_length] at this; omega
        obtain ⟨y, hy⟩ : ∃ y, xs[k]? = some y := ⟨xs[k]'(by omega), List.getElem?_eq_getElem _⟩
        have hgk := cellsV_get xs k y hy
        have c1 : wr.cell? ⟨w.heap.size, k * 2, none⟩ = some (.string y.nm) := (HO'.out.cellAt (k * 2) (by omega)).trans hgk.1
        have c2 : wr.cell? ⟨w.heap.size, k * 2 + 1, none⟩ = some (.slice y.A y.n y.c) := (HO'.out.cellAt (k * 2 + 1) (by omega)).trans hgk.2
        have f1 := HO'.out.frozenAt (k * 2)
        have f2 := HO'.out.frozenAt (k * 2 + 1)
        have hkm : kd.size < m := by have := Tr.at_lt hat; omega
        have hkb : kd.size ≤ 1000000 := by have := Tr.at_lt hat; omega
        have HX := Lib.hid hx
        have HAT := Lib.hid hat
        have HY := Lib.hid hy
        have HXL := Lib.hid hxl
        have hadr : (ad.add (k * 2)).block < wr.heap.size := by omega
        clear hgk hx hat hy hxl
        go_upto_region 5 with fail
        go_region_with (go_at_call 31; ((with_reducible refine (IH.out kd hkm hkb (fun b => b < wr.heap.size) _ Ax nx cx (by first | exact HTV.out.below (fun _ h => h) (bdrew (balloc (Below.refl _ _) (Nat.le_refl _) _)) | exact HTV.out.below (fun _ h => h) (balloc (Below.refl _ _) (Nat.le_refl _) _) | exact HTV.out.below (fun _ h => h) (balloc (bdrew (Below.refl _ _)) (Nat.le_refl _) _)) (fun b h => Nat.lt_of_lt_of_le h (by simp))).mono ?_); rintro e w5 ⟨ys, rfl, hb5, hlt5, hown5, hk5⟩; obtain ⟨hc5, hf5⟩ := bcell hb5; have HW5 := Lib.hid hown5; have HK5 := Lib.hid hk5; clear hown5 hk5))
        all_goals go_wp2_with fail
        all_goals (have hb6 : Below wr.heap.size wr w5 := by first | exact bundrew (bthen (bdrew (balloc (Below.refl _ _) (Nat.le_refl _) _)) (Nat.le_refl _) hb5) | exact bthen (bdrew (balloc (Below.refl _ _) (Nat.le_refl _) _)) (Nat.le_refl _) hb5 | exact bthen (balloc (bdrew (Below.refl _ _)) (Nat.le_refl _) _) (Nat.le_refl _) hb5 | exact bthen (balloc (Below.refl _ _) (Nat.le_refl _) _) (Nat.le_refl _) hb5)
        all_goals obtain ⟨e1, e2, e3, e4⟩ := own_round hbr hltr HO'.out HP.out HAT.out hkb hb6 (by simpa using hlt5) (by simpa using HW5.out) (by simpa using HK5.out) rfl _ rfl
        all_goals exact ⟨⟨k + 1, _, by omega, by go_num, e1, e2, e3, e4⟩, by simp [intOf]; omega⟩
      · obtain rfl : k = n := by omega
        go_wp2_with fail
        go_ret
        have hn := HN.out
        subst hn
        exact ⟨xs, rfl, hbr, hltr, HO'.out, KidsAt.of_get (by have := HO'.out.1; rw [cellsV_length] at this; omega) fun i x nm kd h1 h2 => HP.out i x nm kd (by have := (List.getElem?_eq_some_iff.1 h1).1; have := HO'.out.1; rw [cellsV_length] at this; omega) h1 h2⟩
end Go.Proofs.YtpacfelhjjmmkaaDoor
end
section
namespace Go.Proofs
open Go.Shelf
def Tryd.lays231_ren : Go.Shelf.Ren := ⟨fun | 231 => 85 | n => n, fun | 9 => 9 | 5 => 5 | 3 => 3 | 4 => 4 | n => n, fun | n => n⟩
theorem Tryd.lays231 : Go.Proofs.Lays.n231 Tryd.prog Tryd.lays231_ren := {
  mixed := by kernel_rfl
  f231 := Tryd.func85.trans (congrArg some (by kernel_rfl))
  t3 := Tryd.underlying3
  a3 := Tryd.isAgg3
  z3 := Tryd.sizeOf3
  v3 := Tryd.zeroValue3
  t4 := Tryd.underlying4
  a4 := Tryd.isAgg4
  z4 := Tryd.sizeOf4
  v4 := Tryd.zeroValue4
  t5 := Tryd.underlying5
  a5 := Tryd.isAgg5
  z5 := Tryd.sizeOf5
  v5 := Tryd.zeroValue5
  t9 := Tryd.underlying9
  a9 := Tryd.isAgg9
  z9 := Tryd.sizeOf9
  v9 := Tryd.zeroValue9 }
open Go.RowKit in
theorem Tryd.strings_trimLeftByte (s : ByteArray) (c : UInt8) (w : World) :
    Calls Tryd.prog 85 #[.string s, .int .u8 c.toNat] w fun e w' => e = .returned (.string ⟨(Lib.trimLeftB s.data.toList c).toArray⟩) ∧ w' = w := Any.strings_trimLeftByte Tryd.lays231 s c w
def Tryd.lays232_ren : Go.Shelf.Ren := ⟨fun | 232 => 86 | n => n, fun | 9 => 9 | 5 => 5 | 3 => 3 | 4 => 4 | n => n, fun | n => n⟩
theorem Tryd.lays232 : Go.Proofs.Lays.n232 Tryd.prog Tryd.lays232_ren := {
  mixed := by kernel_rfl
  f232 := Tryd.func86.trans (congrArg some (by kernel_rfl))
  t3 := Tryd.underlying3
  a3 := Tryd.isAgg3
  z3 := Tryd.sizeOf3
  v3 := Tryd.zeroValue3
  t4 := Tryd.underlying4
  a4 := Tryd.isAgg4
  z4 := Tryd.sizeOf4
  v4 := Tryd.zeroValue4
  t5 := Tryd.underlying5
  a5 := Tryd.isAgg5
  z5 := Tryd.sizeOf5
  v5 := Tryd.zeroValue5
  t9 := Tryd.underlying9
  a9 := Tryd.isAgg9
  z9 := Tryd.sizeOf9
  v9 := Tryd.zeroValue9 }
open Go.RowKit in
theorem Tryd.strings_trimRightByte (s : ByteArray) (c : UInt8) (w : World) (hs : s.size ≤ 9223372036854775807) :
    Calls Tryd.prog 86 #[.string s, .int .u8 c.toNat] w fun e w' => e = .returned (.string ⟨(Lib.trimRightB s.data.toList c).toArray⟩) ∧ w' = w := Any.strings_trimRightByte Tryd.lays232 s c w hs
def Tryd.lays161_ren : Go.Shelf.Ren := ⟨fun | 161 => 74 | 231 => 85 | 227 => 87 | 233 => 88 | 235 => 90 | 228 => 101 | 197 => 102 | 151 => 103 | 260 => 109 | 152 => 99 | 137 => 46 | 119 => 108 | 224 => 94 | 225 => 93 | 217 => 71 | 266 => 92 | n => n, fun | 9 => 9 | 4 => 4 | 3 => 3 | 5 => 5 | 117 => 124 | 116 => 123 | 0 => 0 | 124 => 127 | 105 => 131 | 21 => 21 | 119 => 140 | 46 => 118 | 139 => 143 | 138 => 142 | n => n, fun | 3 => 1 | 4 => 2 | n => n⟩
theorem Tryd.lays161 : Go.Proofs.Lays.n161 Tryd.prog Tryd.lays161_ren := {
  mixed := by kernel_rfl
  f119 := Tryd.func108.trans (congrArg some (by kernel_rfl))
  f137 := Tryd.func46.trans (congrArg some (by kernel_rfl))
  f151 := Tryd.func103.trans (congrArg some (by kernel_rfl))
  f152 := Tryd.func99.trans (congrArg some (by kernel_rfl))
  f161 := Tryd.func74.trans (congrArg some (by kernel_rfl))
  f197 := Tryd.func102.trans (congrArg some (by kernel_rfl))
  f217 := Tryd.func71.trans (congrArg some (by kernel_rfl))
  f224 := Tryd.func94.trans (congrArg some (by kernel_rfl))
  f225 := Tryd.func93.trans (congrArg some (by kernel_rfl))
  f227 := Tryd.func87.trans (congrArg some (by kernel_rfl))
  f228 := Tryd.func101.trans (congrArg some (by kernel_rfl))
  f231 := Tryd.func85.trans (congrArg some (by kernel_rfl))
  f233 := Tryd.func88.trans (congrArg some (by kernel_rfl))
  f235 := Tryd.func90.trans (congrArg some (by kernel_rfl))
  f260 := Tryd.func109.trans (congrArg some (by kernel_rfl))
  f266 := Tryd.func92.trans (congrArg some (by kernel_rfl))
  t0 := Tryd.underlying0
  a0 := Tryd.isAgg0
  z0 := Tryd.sizeOf0
  v0 := Tryd.zeroValue0
  t3 := Tryd.underlying3
  a3 := Tryd.isAgg3
  z3 := Tryd.sizeOf3
  v3 := Tryd.zeroValue3
  t4 := Tryd.underlying4
  a4 := Tryd.isAgg4
  z4 := Tryd.sizeOf4
  v4 := Tryd.zeroValue4
  t5 := Tryd.underlying5
  a5 := Tryd.isAgg5
  z5 := Tryd.sizeOf5
  v5 := Tryd.zeroValue5
  t9 := Tryd.underlying9
  a9 := Tryd.isAgg9
  z9 := Tryd.sizeOf9
  v9 := Tryd.zeroValue9
  t21 := Tryd.underlying21
  a21 := Tryd.isAgg21
  z21 := Tryd.sizeOf21
  v21 := Tryd.zeroValue21
  t46 := Tryd.underlying118
  a46 := Tryd.isAgg118
  z46 := Tryd.sizeOf118
  v46 := Tryd.zeroValue118
  t105 := Tryd.underlying131
  a105 := Tryd.isAgg131
  z105 := Tryd.sizeOf131
  v105 := Tryd.zeroValue131
  t116 := Tryd.underlying123
  a116 := Tryd.isAgg123
  z116 := Tryd.sizeOf123
  t117 := Tryd.underlying124
  a117 := Tryd.isAgg124
  z117 := Tryd.sizeOf124
  v117 := Tryd.zeroValue124
  t119 := Tryd.underlying140
  a119 := Tryd.isAgg140
  z119 := Tryd.sizeOf140
  t124 := Tryd.underlying127
  a124 := Tryd.isAgg127
  z124 := Tryd.sizeOf127
  v124 := Tryd.zeroValue127
  t138 := Tryd.underlying142
  a138 := Tryd.isAgg142
  z138 := Tryd.sizeOf142
  v138 := Tryd.zeroValue142
  t139 := Tryd.underlying143
  a139 := Tryd.isAgg143
  z139 := Tryd.sizeOf143
  v139 := Tryd.zeroValue143
  g3 := by kernel_rfl
  g4 := by kernel_rfl }
open Go.RowKit in
theorem Tryd.strings_TrimLeft_one (s : ByteArray) (c : UInt8) (hc : c.toNat < 128) (w : World) :
    Calls Tryd.prog 74 #[.string s, .string ⟨#[c]⟩] w fun e w' => e = .returned (.string ⟨(Lib.trimLeftB s.data.toList c).toArray⟩) ∧ w' = w := Any.strings_TrimLeft_one Tryd.lays161 s c hc w
def Tryd.lays162_ren : Go.Shelf.Ren := ⟨fun | 162 => 75 | 232 => 86 | 227 => 87 | 234 => 89 | 236 => 91 | 228 => 101 | 271 => 104 | 151 => 103 | 120 => 110 | 197 => 102 | 152 => 99 | 260 => 109 | 137 => 46 | 119 => 108 | 224 => 94 | 225 => 93 | 217 => 71 | 266 => 92 | n => n, fun | 9 => 9 | 4 => 4 | 3 => 3 | 5 => 5 | 117 => 124 | 116 => 123 | 0 => 0 | 124 => 127 | 21 => 21 | 105 => 131 | 46 => 118 | 119 => 140 | 139 => 143 | 138 => 142 | n => n, fun | 3 => 1 | 4 => 2 | n => n⟩
theorem Tryd.lays162 : Go.Proofs.Lays.n162 Tryd.prog Tryd.lays162_ren := {
  mixed := by kernel_rfl
  f119 := Tryd.func108.trans (congrArg some (by kernel_rfl))
  f120 := Tryd.func110.trans (congrArg some (by kernel_rfl))
  f137 := Tryd.func46.trans (congrArg some (by kernel_rfl))
  f151 := Tryd.func103.trans (congrArg some (by kernel_rfl))
  f152 := Tryd.func99.trans (congrArg some (by kernel_rfl))
  f162 := Tryd.func75.trans (congrArg some (by kernel_rfl))
  f197 := Tryd.func102.trans (congrArg some (by kernel_rfl))
  f217 := Tryd.func71.trans (congrArg some (by kernel_rfl))
  f224 := Tryd.func94.trans (congrArg some (by kernel_rfl))
  f225 := Tryd.func93.trans (congrArg some (by kernel_rfl))
  f227 := Tryd.func87.trans (congrArg some (by kernel_rfl))
  f228 := Tryd.func101.trans (congrArg some (by kernel_rfl))
  f232 := Tryd.func86.trans (congrArg some (by kernel_rfl))
  f234 := Tryd.func89.trans (congrArg some (by kernel_rfl))
  f236 := Tryd.func91.trans (congrArg some (by kernel_rfl))
  f260 := Tryd.func109.trans (congrArg some (by kernel_rfl))
  f266 := Tryd.func92.trans (congrArg some (by kernel_rfl))
  f271 := Tryd.func104.trans (congrArg some (by kernel_rfl))
  t0 := Tryd.underlying0
  a0 := Tryd.isAgg0
  z0 := Tryd.sizeOf0
  v0 := Tryd.zeroValue0
  t3 := Tryd.underlying3
  a3 := Tryd.isAgg3
  z3 := Tryd.sizeOf3
  v3 := Tryd.zeroValue3
  t4 := Tryd.underlying4
  a4 := Tryd.isAgg4
  z4 := Tryd.sizeOf4
  v4 := Tryd.zeroValue4
  t5 := Tryd.underlying5
  a5 := Tryd.isAgg5
  z5 := Tryd.sizeOf5
  v5 := Tryd.zeroValue5
  t9 := Tryd.underlying9
  a9 := Tryd.isAgg9
  z9 := Tryd.sizeOf9
  v9 := Tryd.zeroValue9
  t21 := Tryd.underlying21
  a21 := Tryd.isAgg21
  z21 := Tryd.sizeOf21
  v21 := Tryd.zeroValue21
  t46 := Tryd.underlying118
  a46 := Tryd.isAgg118
  z46 := Tryd.sizeOf118
  v46 := Tryd.zeroValue118
  t105 := Tryd.underlying131
  a105 := Tryd.isAgg131
  z105 := Tryd.sizeOf131
  v105 := Tryd.zeroValue131
  t116 := Tryd.underlying123
  a116 := Tryd.isAgg123
  z116 := Tryd.sizeOf123
  t117 := Tryd.underlying124
  a117 := Tryd.isAgg124
  z117 := Tryd.sizeOf124
  v117 := Tryd.zeroValue124
  t119 := Tryd.underlying140
  a119 := Tryd.isAgg140
  z119 := Tryd.sizeOf140
  t124 := Tryd.underlying127
  a124 := Tryd.isAgg127
  z124 := Tryd.sizeOf127
  v124 := Tryd.zeroValue127
  t138 := Tryd.underlying142
  a138 := Tryd.isAgg142
  z138 := Tryd.sizeOf142
  v138 := Tryd.zeroValue142
  t139 := Tryd.underlying143
  a139 := Tryd.isAgg143
  z139 := Tryd.sizeOf143
  v139 := Tryd.zeroValue143
  g3 := by kernel_rfl
  g4 := by kernel_rfl }
open Go.RowKit in
theorem Tryd.strings_TrimRight_one (s : ByteArray) (c : UInt8) (hc : c.toNat < 128) (w : World) (hs : s.size ≤ 9223372036854775807) :
    Calls Tryd.prog 75 #[.string s, .string ⟨#[c]⟩] w fun e w' => e = .returned (.string ⟨(Lib.trimRightB s.data.toList c).toArray⟩) ∧ w' = w := Any.strings_TrimRight_one Tryd.lays162 s c hc w hs
def Tryd.lays160_ren : Go.Shelf.Ren := ⟨fun | 160 => 70 | 232 => 86 | 231 => 85 | 227 => 87 | 234 => 89 | 233 => 88 | 236 => 91 | 235 => 90 | 228 => 101 | 271 => 104 | 151 => 103 | 197 => 102 | 120 => 110 | 152 => 99 | 260 => 109 | 137 => 46 | 119 => 108 | 224 => 94 | 225 => 93 | 217 => 71 | 266 => 92 | n => n, fun | 9 => 9 | 4 => 4 | 3 => 3 | 5 => 5 | 117 => 124 | 116 => 123 | 0 => 0 | 124 => 127 | 21 => 21 | 105 => 131 | 46 => 118 | 119 => 140 | 139 => 143 | 138 => 142 | n => n, fun | 3 => 1 | 4 => 2 | n => n⟩
theorem Tryd.lays160 : Go.Proofs.Lays.n160 Tryd.prog Tryd.lays160_ren := {
  mixed := by kernel_rfl
  f119 := Tryd.func108.trans (congrArg some (by kernel_rfl))
  f120 := Tryd.func110.trans (congrArg some (by kernel_rfl))
  f137 := Tryd.func46.trans (congrArg some (by kernel_rfl))
  f151 := Tryd.func103.trans (congrArg some (by kernel_rfl))
  f152 := Tryd.func99.trans (congrArg some (by kernel_rfl))
  f160 := Tryd.func70.trans (congrArg some (by kernel_rfl))
  f197 := Tryd.func102.trans (congrArg some (by kernel_rfl))
  f217 := Tryd.func71.trans (congrArg some (by kernel_rfl))
  f224 := Tryd.func94.trans (congrArg some (by kernel_rfl))
  f225 := Tryd.func93.trans (congrArg some (by kernel_rfl))
  f227 := Tryd.func87.trans (congrArg some (by kernel_rfl))
  f228 := Tryd.func101.trans (congrArg some (by kernel_rfl))
  f231 := Tryd.func85.trans (congrArg some (by kernel_rfl))
  f232 := Tryd.func86.trans (congrArg some (by kernel_rfl))
  f233 := Tryd.func88.trans (congrArg some (by kernel_rfl))
  f234 := Tryd.func89.trans (congrArg some (by kernel_rfl))
  f235 := Tryd.func90.trans (congrArg some (by kernel_rfl))
  f236 := Tryd.func91.trans (congrArg some (by kernel_rfl))
  f260 := Tryd.func109.trans (congrArg some (by kernel_rfl))
  f266 := Tryd.func92.trans (congrArg some (by kernel_rfl))
  f271 := Tryd.func104.trans (congrArg some (by kernel_rfl))
  t0 := Tryd.underlying0
  a0 := Tryd.isAgg0
  z0 := Tryd.sizeOf0
  v0 := Tryd.zeroValue0
  t3 := Tryd.underlying3
  a3 := Tryd.isAgg3
  z3 := Tryd.sizeOf3
  v3 := Tryd.zeroValue3
  t4 := Tryd.underlying4
  a4 := Tryd.isAgg4
  z4 := Tryd.sizeOf4
  v4 := Tryd.zeroValue4
  t5 := Tryd.underlying5
  a5 := Tryd.isAgg5
  z5 := Tryd.sizeOf5
  v5 := Tryd.zeroValue5
  t9 := Tryd.underlying9
  a9 := Tryd.isAgg9
  z9 := Tryd.sizeOf9
  v9 := Tryd.zeroValue9
  t21 := Tryd.underlying21
  a21 := Tryd.isAgg21
  z21 := Tryd.sizeOf21
  v21 := Tryd.zeroValue21
  t46 := Tryd.underlying118
  a46 := Tryd.isAgg118
  z46 := Tryd.sizeOf118
  v46 := Tryd.zeroValue118
  t105 := Tryd.underlying131
  a105 := Tryd.isAgg131
  z105 := Tryd.sizeOf131
  v105 := Tryd.zeroValue131
  t116 := Tryd.underlying123
  a116 := Tryd.isAgg123
  z116 := Tryd.sizeOf123
  t117 := Tryd.underlying124
  a117 := Tryd.isAgg124
  z117 := Tryd.sizeOf124
  v117 := Tryd.zeroValue124
  t119 := Tryd.underlying140
  a119 := Tryd.isAgg140
  z119 := Tryd.sizeOf140
  t124 := Tryd.underlying127
  a124 := Tryd.isAgg127
  z124 := Tryd.sizeOf127
  v124 := Tryd.zeroValue127
  t138 := Tryd.underlying142
  a138 := Tryd.isAgg142
  z138 := Tryd.sizeOf142
  v138 := Tryd.zeroValue142
  t139 := Tryd.underlying143
  a139 := Tryd.isAgg143
  z139 := Tryd.sizeOf143
  v139 := Tryd.zeroValue143
  g3 := by kernel_rfl
  g4 := by kernel_rfl }
open Go.RowKit in
theorem Tryd.strings_Trim_one (s : ByteArray) (c : UInt8) (hc : c.toNat < 128) (w : World) (hs : s.size ≤ 9223372036854775807) :
    Calls Tryd.prog 70 #[.string s, .string ⟨#[c]⟩] w fun e w' => e = .returned (.string ⟨(Lib.trimB s.data.toList c).toArray⟩) ∧ (w' = w ∨ w' = w.drew) := Any.strings_Trim_one Tryd.lays160 s c hc w hs
def Tryd.lays119_ren : Go.Shelf.Ren := ⟨fun | 119 => 108 | n => n, fun | 21 => 21 | 4 => 4 | n => n, fun | n => n⟩
theorem Tryd.lays119 : Go.Proofs.Lays.n119 Tryd.prog Tryd.lays119_ren := {
  mixed := by kernel_rfl
  f119 := Tryd.func108.trans (congrArg some (by kernel_rfl))
  t4 := Tryd.underlying4
  a4 := Tryd.isAgg4
  z4 := Tryd.sizeOf4
  v4 := Tryd.zeroValue4
  t21 := Tryd.underlying21
  a21 := Tryd.isAgg21
  z21 := Tryd.sizeOf21
  v21 := Tryd.zeroValue21 }
theorem Tryd.utf8_ValidRune (r : Int) (w : World) :
    Calls Tryd.prog 108 #[.int .i32 r] w fun e w' => e = .returned (.bool (Lib.validRune r)) ∧ w' = w := Any.utf8_ValidRune Tryd.lays119 r w
def Tryd.lays120_ren : Go.Shelf.Ren := ⟨fun | 120 => 110 | n => n, fun | 5 => 5 | 4 => 4 | n => n, fun | n => n⟩
theorem Tryd.lays120 : Go.Proofs.Lays.n120 Tryd.prog Tryd.lays120_ren := {
  mixed := by kernel_rfl
  f120 := Tryd.func110.trans (congrArg some (by kernel_rfl))
  t4 := Tryd.underlying4
  a4 := Tryd.isAgg4
  z4 := Tryd.sizeOf4
  v4 := Tryd.zeroValue4
  t5 := Tryd.underlying5
  a5 := Tryd.isAgg5
  z5 := Tryd.sizeOf5
  v5 := Tryd.zeroValue5 }
theorem Tryd.utf8_RuneStart (b : Int) (w : World) (h0 : 0 ≤ b) (h1 : b < 256) :
    Calls Tryd.prog 110 #[.int .u8 b] w fun e w' => e = .returned (.bool (Lib.runeStart b)) ∧ w' = w := Any.utf8_RuneStart Tryd.lays120 b w h0 h1
def Tryd.lays213_ren : Go.Shelf.Ren := ⟨fun | 213 => 79 | 265 => 98 | n => n, fun | 9 => 9 | 3 => 3 | n => n, fun | n => n⟩
theorem Tryd.lays213 : Go.Proofs.Lays.n213 Tryd.prog Tryd.lays213_ren := {
  mixed := by kernel_rfl
  f213 := Tryd.func79.trans (congrArg some (by kernel_rfl))
  f265 := Tryd.func98.trans (congrArg some (by kernel_rfl))
  t3 := Tryd.underlying3
  a3 := Tryd.isAgg3
  z3 := Tryd.sizeOf3
  v3 := Tryd.zeroValue3
  t9 := Tryd.underlying9
  a9 := Tryd.isAgg9
  z9 := Tryd.sizeOf9
  v9 := Tryd.zeroValue9 }
open Go.RowKit in
theorem Tryd.bytealg_CompareString (a b : ByteArray) (w : World) :
    Calls Tryd.prog 79 #[.string a, .string b] w fun e w' => e = .returned (.int .i64 (Lib.compareBytes a.data.toList b.data.toList)) ∧ w' = w := Any.bytealg_CompareString Tryd.lays213 a b w
def Tryd.lays106_ren : Go.Shelf.Ren := ⟨fun | 106 => 58 | 213 => 79 | 265 => 98 | n => n, fun | 9 => 9 | 3 => 3 | n => n, fun | n => n⟩
theorem Tryd.lays106 : Go.Proofs.Lays.n106 Tryd.prog Tryd.lays106_ren := {
  mixed := by kernel_rfl
  f106 := Tryd.func58.trans (congrArg some (by kernel_rfl))
  f213 := Tryd.func79.trans (congrArg some (by kernel_rfl))
  f265 := Tryd.func98.trans (congrArg some (by kernel_rfl))
  t3 := Tryd.underlying3
  a3 := Tryd.isAgg3
  z3 := Tryd.sizeOf3
  v3 := Tryd.zeroValue3
  t9 := Tryd.underlying9
  a9 := Tryd.isAgg9
  z9 := Tryd.sizeOf9
  v9 := Tryd.zeroValue9 }
open Go.RowKit in
theorem Tryd.strings_Compare (a b : ByteArray) (w : World) :
    Calls Tryd.prog 58 #[.string a, .string b] w fun e w' => e = .returned (.int .i64 (Lib.compareBytes a.data.toList b.data.toList)) ∧ w' = w := Any.strings_Compare Tryd.lays106 a b w
def Tryd.lays137_ren : Go.Shelf.Ren := ⟨fun | 137 => 46 | 217 => 71 | 266 => 92 | n => n, fun | 9 => 9 | 5 => 5 | 3 => 3 | n => n, fun | n => n⟩
theorem Tryd.lays137 : Go.Proofs.Lays.n137 Tryd.prog Tryd.lays137_ren := {
  mixed := by kernel_rfl
  f137 := Tryd.func46.trans (congrArg some (by kernel_rfl))
  f217 := Tryd.func71.trans (congrArg some (by kernel_rfl))
  f266 := Tryd.func92.trans (congrArg some (by kernel_rfl))
  t3 := Tryd.underlying3
  a3 := Tryd.isAgg3
  z3 := Tryd.sizeOf3
  v3 := Tryd.zeroValue3
  t5 := Tryd.underlying5
  a5 := Tryd.isAgg5
  z5 := Tryd.sizeOf5
  v5 := Tryd.zeroValue5
  t9 := Tryd.underlying9
  a9 := Tryd.isAgg9
  z9 := Tryd.sizeOf9
  v9 := Tryd.zeroValue9 }
open Go.RowKit in
theorem Tryd.strings_IndexByte (s : ByteArray) (c : Int) (w : World) :
    Calls Tryd.prog 46 #[.string s, .int .u8 c] w fun e w' => e = .returned (.int .i64 (Lib.indexByte s.data.toList c.toNat.toUInt8)) ∧ w' = w := Any.strings_IndexByte Tryd.lays137 s c w
def Tryd.lays217_ren : Go.Shelf.Ren := ⟨fun | 217 => 71 | 266 => 92 | n => n, fun | 9 => 9 | 5 => 5 | 3 => 3 | n => n, fun | n => n⟩
theorem Tryd.lays217 : Go.Proofs.Lays.n217 Tryd.prog Tryd.lays217_ren := {
  mixed := by kernel_rfl
  f217 := Tryd.func71.trans (congrArg some (by kernel_rfl))
  f266 := Tryd.func92.trans (congrArg some (by kernel_rfl))
  t3 := Tryd.underlying3
  a3 := Tryd.isAgg3
  z3 := Tryd.sizeOf3
  v3 := Tryd.zeroValue3
  t5 := Tryd.underlying5
  a5 := Tryd.isAgg5
  z5 := Tryd.sizeOf5
  v5 := Tryd.zeroValue5
  t9 := Tryd.underlying9
  a9 := Tryd.isAgg9
  z9 := Tryd.sizeOf9
  v9 := Tryd.zeroValue9 }
open Go.RowKit Go.Lib in
theorem Tryd.stringslite_IndexByte (s : ByteArray) (c : Int) (w : World) :
    Calls Tryd.prog 71 #[.string s, .int .u8 c] w fun e w' => e = .returned (.int .i64 (Lib.indexByte s.data.toList c.toNat.toUInt8)) ∧ w' = w := Any.stringslite_IndexByte Tryd.lays217 s c w
def Tryd.lays224_ren : Go.Shelf.Ren := ⟨fun | 224 => 94 | n => n, fun | 3 => 3 | n => n, fun | n => n⟩
theorem Tryd.lays224 : Go.Proofs.Lays.n224 Tryd.prog Tryd.lays224_ren := {
  mixed := by kernel_rfl
  f224 := Tryd.func94.trans (congrArg some (by kernel_rfl))
  t3 := Tryd.underlying3
  a3 := Tryd.isAgg3
  z3 := Tryd.sizeOf3
  v3 := Tryd.zeroValue3 }
open Go.RowKit Go.Lib in
theorem Tryd.bytealg_Cutover (n : Int) (h0 : 0 ≤ n) (h1 : n < 4611686018427387904) (w : World) :
    Calls Tryd.prog 94 #[.int .i64 n] w fun e w' => e = .returned (.int .i64 ((n + 16) / 8)) ∧ w' = w := Any.bytealg_Cutover Tryd.lays224 n h0 h1 w
def Tryd.lays314_ren : Go.Shelf.Ren := ⟨fun | 314 => 105 | n => n, fun | 9 => 9 | 51 => 134 | 3 => 3 | 4 => 4 | 5 => 5 | 46 => 118 | n => n, fun | n => n⟩
theorem Tryd.lays314 : Go.Proofs.Lays.n314 Tryd.prog Tryd.lays314_ren := {
  mixed := by kernel_rfl
  f314 := Tryd.func105.trans (congrArg some (by kernel_rfl))
  t3 := Tryd.underlying3
  a3 := Tryd.isAgg3
  z3 := Tryd.sizeOf3
  v3 := Tryd.zeroValue3
  t4 := Tryd.underlying4
  a4 := Tryd.isAgg4
  z4 := Tryd.sizeOf4
  v4 := Tryd.zeroValue4
  t5 := Tryd.underlying5
  a5 := Tryd.isAgg5
  z5 := Tryd.sizeOf5
  v5 := Tryd.zeroValue5
  t9 := Tryd.underlying9
  a9 := Tryd.isAgg9
  z9 := Tryd.sizeOf9
  v9 := Tryd.zeroValue9
  t46 := Tryd.underlying118
  a46 := Tryd.isAgg118
  z46 := Tryd.sizeOf118
  v46 := Tryd.zeroValue118
  t51 := Tryd.underlying134
  a51 := Tryd.isAgg134
  z51 := Tryd.sizeOf134
  v51 := Tryd.zeroValue134 }
open Go.RowKit Go.Lib in
theorem Tryd.bytealg_hashStr (sep : ByteArray) (hs : sep.size < 4294967281) (w : World) :
    Calls Tryd.prog 105 #[.string sep] w fun e w' => e = .returned (.tuple #[.int .u32 (RK.H sep.data.toList % 4294967296), .int .u32 (16777619 ^ sep.size % 4294967296)]) ∧ w' = w := Any.bytealg_hashStr Tryd.lays314 sep hs w
def Tryd.lays267_ren : Go.Shelf.Ren := ⟨fun | 267 => 95 | 314 => 105 | n => n, fun | 9 => 9 | 3 => 3 | 146 => 135 | 51 => 134 | 4 => 4 | 5 => 5 | 46 => 118 | n => n, fun | n => n⟩
theorem Tryd.lays267 : Go.Proofs.Lays.n267 Tryd.prog Tryd.lays267_ren := {
  mixed := by kernel_rfl
  f267 := Tryd.func95.trans (congrArg some (by kernel_rfl))
  f314 := Tryd.func105.trans (congrArg some (by kernel_rfl))
  t3 := Tryd.underlying3
  a3 := Tryd.isAgg3
  z3 := Tryd.sizeOf3
  v3 := Tryd.zeroValue3
  t4 := Tryd.underlying4
  a4 := Tryd.isAgg4
  z4 := Tryd.sizeOf4
  v4 := Tryd.zeroValue4
  t5 := Tryd.underlying5
  a5 := Tryd.isAgg5
  z5 := Tryd.sizeOf5
  v5 := Tryd.zeroValue5
  t9 := Tryd.underlying9
  a9 := Tryd.isAgg9
  z9 := Tryd.sizeOf9
  v9 := Tryd.zeroValue9
  t46 := Tryd.underlying118
  a46 := Tryd.isAgg118
  z46 := Tryd.sizeOf118
  v46 := Tryd.zeroValue118
  t51 := Tryd.underlying134
  a51 := Tryd.isAgg134
  z51 := Tryd.sizeOf134
  v51 := Tryd.zeroValue134
  t146 := Tryd.underlying135
  a146 := Tryd.isAgg135
  z146 := Tryd.sizeOf135
  v146 := Tryd.zeroValue135 }
open Go.RowKit Go.Lib in
theorem Tryd.bytealg_IndexRabinKarp (s sep : ByteArray) (h1 : 1 ≤ sep.size) (h2 : sep.size ≤ s.size) (hs : s.size < 4294967281) (w : World) :
    Calls Tryd.prog 95 #[.string s, .string sep] w fun e w' => e = .returned (.int .i64 (Lib.index s.data.toList sep.data.toList)) ∧ w' = w := Any.bytealg_IndexRabinKarp Tryd.lays267 s sep h1 h2 hs w
def Tryd.lays219_ren : Go.Shelf.Ren := ⟨fun | 219 => 73 | 217 => 71 | 225 => 93 | 224 => 94 | 267 => 95 | 266 => 92 | 314 => 105 | n => n, fun | 9 => 9 | 3 => 3 | 4 => 4 | 5 => 5 | 46 => 118 | 146 => 135 | 51 => 134 | n => n, fun | 1 => 0 | n => n⟩
theorem Tryd.lays219 : Go.Proofs.Lays.n219 Tryd.prog Tryd.lays219_ren := {
  mixed := by kernel_rfl
  f217 := Tryd.func71.trans (congrArg some (by kernel_rfl))
  f219 := Tryd.func73.trans (congrArg some (by kernel_rfl))
  f224 := Tryd.func94.trans (congrArg some (by kernel_rfl))
  f225 := Tryd.func93.trans (congrArg some (by kernel_rfl))
  f266 := Tryd.func92.trans (congrArg some (by kernel_rfl))
  f267 := Tryd.func95.trans (congrArg some (by kernel_rfl))
  f314 := Tryd.func105.trans (congrArg some (by kernel_rfl))
  t3 := Tryd.underlying3
  a3 := Tryd.isAgg3
  z3 := Tryd.sizeOf3
  v3 := Tryd.zeroValue3
  t4 := Tryd.underlying4
  a4 := Tryd.isAgg4
  z4 := Tryd.sizeOf4
  v4 := Tryd.zeroValue4
  t5 := Tryd.underlying5
  a5 := Tryd.isAgg5
  z5 := Tryd.sizeOf5
  v5 := Tryd.zeroValue5
  t9 := Tryd.underlying9
  a9 := Tryd.isAgg9
  z9 := Tryd.sizeOf9
  v9 := Tryd.zeroValue9
  t46 := Tryd.underlying118
  a46 := Tryd.isAgg118
  z46 := Tryd.sizeOf118
  v46 := Tryd.zeroValue118
  t51 := Tryd.underlying134
  a51 := Tryd.isAgg134
  z51 := Tryd.sizeOf134
  v51 := Tryd.zeroValue134
  t146 := Tryd.underlying135
  a146 := Tryd.isAgg135
  z146 := Tryd.sizeOf135
  v146 := Tryd.zeroValue135
  g1 := by kernel_rfl }
open Go.RowKit Go.Lib in
theorem Tryd.stringslite_Index_one (s : ByteArray) (c : UInt8) (w : World) :
    Calls Tryd.prog 73 #[.string s, .string ⟨#[c]⟩] w fun e w' => e = .returned (.int .i64 (Lib.indexByte s.data.toList c)) ∧ w' = w := Any.stringslite_Index_one Tryd.lays219 s c w
open Go.RowKit Go.Lib in
theorem Tryd.stringslite_Index (s sub : ByteArray) (m : Int) (w : World) (hs : s.size < 4294967281) (hm : w.cell? ⟨0, 0, none⟩ = some (.int .i64 m)) :
    Calls Tryd.prog 73 #[.string s, .string sub] w fun e w' => e = .returned (.int .i64 (Lib.index s.data.toList sub.data.toList)) ∧ w' = w := Any.stringslite_Index Tryd.lays219 s sub m w hs hm
def Tryd.lays143_ren : Go.Shelf.Ren := ⟨fun | 143 => 49 | 219 => 73 | 217 => 71 | 225 => 93 | 224 => 94 | 267 => 95 | 266 => 92 | 314 => 105 | n => n, fun | 9 => 9 | 3 => 3 | 4 => 4 | 5 => 5 | 46 => 118 | 146 => 135 | 51 => 134 | n => n, fun | 1 => 0 | n => n⟩
theorem Tryd.lays143 : Go.Proofs.Lays.n143 Tryd.prog Tryd.lays143_ren := {
  mixed := by kernel_rfl
  f143 := Tryd.func49.trans (congrArg some (by kernel_rfl))
  f217 := Tryd.func71.trans (congrArg some (by kernel_rfl))
  f219 := Tryd.func73.trans (congrArg some (by kernel_rfl))
  f224 := Tryd.func94.trans (congrArg some (by kernel_rfl))
  f225 := Tryd.func93.trans (congrArg some (by kernel_rfl))
  f266 := Tryd.func92.trans (congrArg some (by kernel_rfl))
  f267 := Tryd.func95.trans (congrArg some (by kernel_rfl))
  f314 := Tryd.func105.trans (congrArg some (by kernel_rfl))
  t3 := Tryd.underlying3
  a3 := Tryd.isAgg3
  z3 := Tryd.sizeOf3
  v3 := Tryd.zeroValue3
  t4 := Tryd.underlying4
  a4 := Tryd.isAgg4
  z4 := Tryd.sizeOf4
  v4 := Tryd.zeroValue4
  t5 := Tryd.underlying5
  a5 := Tryd.isAgg5
  z5 := Tryd.sizeOf5
  v5 := Tryd.zeroValue5
  t9 := Tryd.underlying9
  a9 := Tryd.isAgg9
  z9 := Tryd.sizeOf9
  v9 := Tryd.zeroValue9
  t46 := Tryd.underlying118
  a46 := Tryd.isAgg118
  z46 := Tryd.sizeOf118
  v46 := Tryd.zeroValue118
  t51 := Tryd.underlying134
  a51 := Tryd.isAgg134
  z51 := Tryd.sizeOf134
  v51 := Tryd.zeroValue134
  t146 := Tryd.underlying135
  a146 := Tryd.isAgg135
  z146 := Tryd.sizeOf135
  v146 := Tryd.zeroValue135
  g1 := by kernel_rfl }
open Go.RowKit Go.Lib in
theorem Tryd.strings_Index_one (s : ByteArray) (c : UInt8) (w : World) :
    Calls Tryd.prog 49 #[.string s, .string ⟨#[c]⟩] w fun e w' => e = .returned (.int .i64 (Lib.indexByte s.data.toList c)) ∧ w' = w := Any.strings_Index_one Tryd.lays143 s c w
open Go.RowKit Go.Lib in
theorem Tryd.strings_Index (s sub : ByteArray) (m : Int) (w : World) (hs : s.size < 4294967281) (hm : w.cell? ⟨0, 0, none⟩ = some (.int .i64 m)) :
    Calls Tryd.prog 49 #[.string s, .string sub] w fun e w' => e = .returned (.int .i64 (Lib.index s.data.toList sub.data.toList)) ∧ w' = w := Any.strings_Index Tryd.lays143 s sub m w hs hm
def Tryd.lays144_ren : Go.Shelf.Ren := ⟨fun | 144 => 28 | 143 => 49 | 219 => 73 | 217 => 71 | 225 => 93 | 224 => 94 | 267 => 95 | 266 => 92 | 314 => 105 | n => n, fun | 9 => 9 | 4 => 4 | 3 => 3 | 5 => 5 | 46 => 118 | 146 => 135 | 51 => 134 | n => n, fun | 1 => 0 | n => n⟩
theorem Tryd.lays144 : Go.Proofs.Lays.n144 Tryd.prog Tryd.lays144_ren := {
  mixed := by kernel_rfl
  f143 := Tryd.func49.trans (congrArg some (by kernel_rfl))
  f144 := Tryd.func28.trans (congrArg some (by kernel_rfl))
  f217 := Tryd.func71.trans (congrArg some (by kernel_rfl))
  f219 := Tryd.func73.trans (congrArg some (by kernel_rfl))
  f224 := Tryd.func94.trans (congrArg some (by kernel_rfl))
  f225 := Tryd.func93.trans (congrArg some (by kernel_rfl))
  f266 := Tryd.func92.trans (congrArg some (by kernel_rfl))
  f267 := Tryd.func95.trans (congrArg some (by kernel_rfl))
  f314 := Tryd.func105.trans (congrArg some (by kernel_rfl))
  t3 := Tryd.underlying3
  a3 := Tryd.isAgg3
  z3 := Tryd.sizeOf3
  v3 := Tryd.zeroValue3
  t4 := Tryd.underlying4
  a4 := Tryd.isAgg4
  z4 := Tryd.sizeOf4
  v4 := Tryd.zeroValue4
  t5 := Tryd.underlying5
  a5 := Tryd.isAgg5
  z5 := Tryd.sizeOf5
  v5 := Tryd.zeroValue5
  t9 := Tryd.underlying9
  a9 := Tryd.isAgg9
  z9 := Tryd.sizeOf9
  v9 := Tryd.zeroValue9
  t46 := Tryd.underlying118
  a46 := Tryd.isAgg118
  z46 := Tryd.sizeOf118
  v46 := Tryd.zeroValue118
  t51 := Tryd.underlying134
  a51 := Tryd.isAgg134
  z51 := Tryd.sizeOf134
  v51 := Tryd.zeroValue134
  t146 := Tryd.underlying135
  a146 := Tryd.isAgg135
  z146 := Tryd.sizeOf135
  v146 := Tryd.zeroValue135
  g1 := by kernel_rfl }
open Go.RowKit Go.Lib in
theorem Tryd.strings_Contains_one (s : ByteArray) (c : UInt8) (w : World) :
    Calls Tryd.prog 28 #[.string s, .string ⟨#[c]⟩] w fun e w' => e = .returned (.bool (decide (0 ≤ Lib.indexByte s.data.toList c))) ∧ w' = w := Any.strings_Contains_one Tryd.lays144 s c w
open Go.RowKit Go.Lib in
theorem Tryd.strings_Contains (s sub : ByteArray) (m : Int) (w : World) (hs : s.size < 4294967281) (hm : w.cell? ⟨0, 0, none⟩ = some (.int .i64 m)) :
    Calls Tryd.prog 28 #[.string s, .string sub] w fun e w' => e = .returned (.bool (Lib.contains s.data.toList sub.data.toList)) ∧ w' = w := Any.strings_Contains Tryd.lays144 s sub m w hs hm
def Tryd.lays220_ren : Go.Shelf.Ren := ⟨fun | 220 => 76 | 219 => 73 | 217 => 71 | 225 => 93 | 224 => 94 | 267 => 95 | 266 => 92 | 314 => 105 | n => n, fun | 9 => 9 | 4 => 4 | 3 => 3 | 5 => 5 | 46 => 118 | 146 => 135 | 51 => 134 | n => n, fun | 1 => 0 | n => n⟩
theorem Tryd.lays220 : Go.Proofs.Lays.n220 Tryd.prog Tryd.lays220_ren := {
  mixed := by kernel_rfl
  f217 := Tryd.func71.trans (congrArg some (by kernel_rfl))
  f219 := Tryd.func73.trans (congrArg some (by kernel_rfl))
  f220 := Tryd.func76.trans (congrArg some (by kernel_rfl))
  f224 := Tryd.func94.trans (congrArg some (by kernel_rfl))
  f225 := Tryd.func93.trans (congrArg some (by kernel_rfl))
  f266 := Tryd.func92.trans (congrArg some (by kernel_rfl))
  f267 := Tryd.func95.trans (congrArg some (by kernel_rfl))
  f314 := Tryd.func105.trans (congrArg some (by kernel_rfl))
  t3 := Tryd.underlying3
  a3 := Tryd.isAgg3
  z3 := Tryd.sizeOf3
  v3 := Tryd.zeroValue3
  t4 := Tryd.underlying4
  a4 := Tryd.isAgg4
  z4 := Tryd.sizeOf4
  v4 := Tryd.zeroValue4
  t5 := Tryd.underlying5
  a5 := Tryd.isAgg5
  z5 := Tryd.sizeOf5
  v5 := Tryd.zeroValue5
  t9 := Tryd.underlying9
  a9 := Tryd.isAgg9
  z9 := Tryd.sizeOf9
  v9 := Tryd.zeroValue9
  t46 := Tryd.underlying118
  a46 := Tryd.isAgg118
  z46 := Tryd.sizeOf118
  v46 := Tryd.zeroValue118
  t51 := Tryd.underlying134
  a51 := Tryd.isAgg134
  z51 := Tryd.sizeOf134
  v51 := Tryd.zeroValue134
  t146 := Tryd.underlying135
  a146 := Tryd.isAgg135
  z146 := Tryd.sizeOf135
  v146 := Tryd.zeroValue135
  g1 := by kernel_rfl }
open Go.RowKit Go.Lib in
theorem Tryd.stringslite_Cut (s sep : ByteArray) (m : Int) (w : World) (hs : s.size < 4294967281) (hm : w.cell? ⟨0, 0, none⟩ = some (.int .i64 m)) :
    Calls Tryd.prog 76 #[.string s, .string sep] w fun e w' => e = .returned (.tuple #[.string ⟨(Lib.cut s.data.toList sep.data.toList).1.toArray⟩, .string ⟨(Lib.cut s.data.toList sep.data.toList).2.1.toArray⟩, .bool (Lib.cut s.data.toList sep.data.toList).2.2]) ∧ ∃ n, w' = w.drewN n := Any.stringslite_Cut Tryd.lays220 s sep m w hs hm
def Tryd.lays145_ren : Go.Shelf.Ren := ⟨fun | 145 => 51 | 220 => 76 | 219 => 73 | 217 => 71 | 225 => 93 | 224 => 94 | 267 => 95 | 266 => 92 | 314 => 105 | n => n, fun | 9 => 9 | 4 => 4 | 59 => 102 | 3 => 3 | 5 => 5 | 46 => 118 | 146 => 135 | 51 => 134 | n => n, fun | 1 => 0 | n => n⟩
theorem Tryd.lays145 : Go.Proofs.Lays.n145 Tryd.prog Tryd.lays145_ren := {
  mixed := by kernel_rfl
  f145 := Tryd.func51.trans (congrArg some (by kernel_rfl))
  f217 := Tryd.func71.trans (congrArg some (by kernel_rfl))
  f219 := Tryd.func73.trans (congrArg some (by kernel_rfl))
  f220 := Tryd.func76.trans (congrArg some (by kernel_rfl))
  f224 := Tryd.func94.trans (congrArg some (by kernel_rfl))
  f225 := Tryd.func93.trans (congrArg some (by kernel_rfl))
  f266 := Tryd.func92.trans (congrArg some (by kernel_rfl))
  f267 := Tryd.func95.trans (congrArg some (by kernel_rfl))
  f314 := Tryd.func105.trans (congrArg some (by kernel_rfl))
  t3 := Tryd.underlying3
  a3 := Tryd.isAgg3
  z3 := Tryd.sizeOf3
  v3 := Tryd.zeroValue3
  t4 := Tryd.underlying4
  a4 := Tryd.isAgg4
  z4 := Tryd.sizeOf4
  v4 := Tryd.zeroValue4
  t5 := Tryd.underlying5
  a5 := Tryd.isAgg5
  z5 := Tryd.sizeOf5
  v5 := Tryd.zeroValue5
  t9 := Tryd.underlying9
  a9 := Tryd.isAgg9
  z9 := Tryd.sizeOf9
  v9 := Tryd.zeroValue9
  t46 := Tryd.underlying118
  a46 := Tryd.isAgg118
  z46 := Tryd.sizeOf118
  v46 := Tryd.zeroValue118
  t51 := Tryd.underlying134
  a51 := Tryd.isAgg134
  z51 := Tryd.sizeOf134
  v51 := Tryd.zeroValue134
  t59 := Tryd.underlying102
  a59 := Tryd.isAgg102
  z59 := Tryd.sizeOf102
  v59 := Tryd.zeroValue102
  t146 := Tryd.underlying135
  a146 := Tryd.isAgg135
  z146 := Tryd.sizeOf135
  v146 := Tryd.zeroValue135
  g1 := by kernel_rfl }
open Go.RowKit Go.Lib in
theorem Tryd.strings_Cut (s sep : ByteArray) (m : Int) (w : World) (hs : s.size < 4294967281) (hm : w.cell? ⟨0, 0, none⟩ = some (.int .i64 m)) :
    Calls Tryd.prog 51 #[.string s, .string sep] w fun e w' => e = .returned (.tuple #[.string ⟨(Lib.cut s.data.toList sep.data.toList).1.toArray⟩, .string ⟨(Lib.cut s.data.toList sep.data.toList).2.1.toArray⟩, .bool (Lib.cut s.data.toList sep.data.toList).2.2]) ∧ ∃ n, w' = w.drewN n := Any.strings_Cut Tryd.lays145 s sep m w hs hm
def Tryd.laysM219_ren : Go.Shelf.Ren := ⟨fun | 219 => 73 | 217 => 71 | 225 => 93 | 224 => 94 | 267 => 95 | 266 => 92 | 314 => 105 | n => n, fun | 9 => 9 | 3 => 3 | 4 => 4 | 5 => 5 | 46 => 118 | 146 => 135 | 51 => 134 | n => n, fun | 1 => 0 | n => n⟩
theorem Tryd.laysM219 : Go.Proofs.LaysM.n219 Tryd.prog Tryd.laysM219_ren := {
  mixed := by kernel_rfl
  f217 := Tryd.func71.trans (congrArg some (by kernel_rfl))
  f219 := Tryd.func73.trans (congrArg some (by kernel_rfl))
  f224 := Tryd.func94.trans (congrArg some (by kernel_rfl))
  f225 := Tryd.func93.trans (congrArg some (by kernel_rfl))
  f266 := Tryd.func92.trans (congrArg some (by kernel_rfl))
  f267 := Tryd.func95.trans (congrArg some (by kernel_rfl))
  f314 := Tryd.func105.trans (congrArg some (by kernel_rfl))
  t3 := Tryd.underlying3
  a3 := Tryd.isAgg3
  z3 := Tryd.sizeOf3
  v3 := Tryd.zeroValue3
  t4 := Tryd.underlying4
  a4 := Tryd.isAgg4
  z4 := Tryd.sizeOf4
  v4 := Tryd.zeroValue4
  t5 := Tryd.underlying5
  a5 := Tryd.isAgg5
  z5 := Tryd.sizeOf5
  v5 := Tryd.zeroValue5
  t9 := Tryd.underlying9
  a9 := Tryd.isAgg9
  z9 := Tryd.sizeOf9
  v9 := Tryd.zeroValue9
  t46 := Tryd.underlying118
  a46 := Tryd.isAgg118
  z46 := Tryd.sizeOf118
  v46 := Tryd.zeroValue118
  t51 := Tryd.underlying134
  a51 := Tryd.isAgg134
  z51 := Tryd.sizeOf134
  v51 := Tryd.zeroValue134
  t146 := Tryd.underlying135
  a146 := Tryd.isAgg135
  z146 := Tryd.sizeOf135
  v146 := Tryd.zeroValue135
  g1 := by kernel_rfl
  i3 := by kernel_rfl
  i4 := by kernel_rfl
  i5 := by kernel_rfl
  i9 := by kernel_rfl
  i46 := by kernel_rfl
  i51 := by kernel_rfl
  i146 := by kernel_rfl
  m1 := by kernel_rfl
  s1_3 := fun w h => Go.Proofs.cell_of_shapedOpen_int (zero := #[.int .i64 0]) (t := 3) h (of_decide_eq_true (by kernel_rfl)) (by kernel_rfl) rfl (by kernel_rfl) (by kernel_rfl) Tryd.underlying3 }
open Go.RowKit Go.Lib in
theorem Tryd.stringslite_Index_shaped (s sub : ByteArray) (w : World) (h : w.ShapedOpen Tryd.prog) (hs : s.size < 4294967281) :
    Calls Tryd.prog 73 #[.string s, .string sub] w fun e w' => e = .returned (.int .i64 (Lib.index s.data.toList sub.data.toList)) ∧ w' = w := Any.stringslite_Index_shaped Tryd.laysM219 s sub w h hs
def Tryd.laysM143_ren : Go.Shelf.Ren := ⟨fun | 143 => 49 | 219 => 73 | 217 => 71 | 225 => 93 | 224 => 94 | 267 => 95 | 266 => 92 | 314 => 105 | n => n, fun | 9 => 9 | 3 => 3 | 4 => 4 | 5 => 5 | 46 => 118 | 146 => 135 | 51 => 134 | n => n, fun | 1 => 0 | n => n⟩
theorem Tryd.laysM143 : Go.Proofs.LaysM.n143 Tryd.prog Tryd.laysM143_ren := {
  mixed := by kernel_rfl
  f143 := Tryd.func49.trans (congrArg some (by kernel_rfl))
  f217 := Tryd.func71.trans (congrArg some (by kernel_rfl))
  f219 := Tryd.func73.trans (congrArg some (by kernel_rfl))
  f224 := Tryd.func94.trans (congrArg some (by kernel_rfl))
  f225 := Tryd.func93.trans (congrArg some (by kernel_rfl))
  f266 := Tryd.func92.trans (congrArg some (by kernel_rfl))
  f267 := Tryd.func95.trans (congrArg some (by kernel_rfl))
  f314 := Tryd.func105.trans (congrArg some (by kernel_rfl))
  t3 := Tryd.underlying3
  a3 := Tryd.isAgg3
  z3 := Tryd.sizeOf3
  v3 := Tryd.zeroValue3
  t4 := Tryd.underlying4
  a4 := Tryd.isAgg4
  z4 := Tryd.sizeOf4
  v4 := Tryd.zeroValue4
  t5 := Tryd.underlying5
  a5 := Tryd.isAgg5
  z5 := Tryd.sizeOf5
  v5 := Tryd.zeroValue5
  t9 := Tryd.underlying9
  a9 := Tryd.isAgg9
  z9 := Tryd.sizeOf9
  v9 := Tryd.zeroValue9
  t46 := Tryd.underlying118
  a46 := Tryd.isAgg118
  z46 := Tryd.sizeOf118
  v46 := Tryd.zeroValue118
  t51 := Tryd.underlying134
  a51 := Tryd.isAgg134
  z51 := Tryd.sizeOf134
  v51 := Tryd.zeroValue134
  t146 := Tryd.underlying135
  a146 := Tryd.isAgg135
  z146 := Tryd.sizeOf135
  v146 := Tryd.zeroValue135
  g1 := by kernel_rfl
  i3 := by kernel_rfl
  i4 := by kernel_rfl
  i5 := by kernel_rfl
  i9 := by kernel_rfl
  i46 := by kernel_rfl
  i51 := by kernel_rfl
  i146 := by kernel_rfl
  m1 := by kernel_rfl
  s1_3 := fun w h => Go.Proofs.cell_of_shapedOpen_int (zero := #[.int .i64 0]) (t := 3) h (of_decide_eq_true (by kernel_rfl)) (by kernel_rfl) rfl (by kernel_rfl) (by kernel_rfl) Tryd.underlying3 }
open Go.RowKit Go.Lib in
theorem Tryd.strings_Index_shaped (s sub : ByteArray) (w : World) (h : w.ShapedOpen Tryd.prog) (hs : s.size < 4294967281) :
    Calls Tryd.prog 49 #[.string s, .string sub] w fun e w' => e = .returned (.int .i64 (Lib.index s.data.toList sub.data.toList)) ∧ w' = w := Any.strings_Index_shaped Tryd.laysM143 s sub w h hs
def Tryd.laysM144_ren : Go.Shelf.Ren := ⟨fun | 144 => 28 | 143 => 49 | 219 => 73 | 217 => 71 | 225 => 93 | 224 => 94 | 267 => 95 | 266 => 92 | 314 => 105 | n => n, fun | 9 => 9 | 4 => 4 | 3 => 3 | 5 => 5 | 46 => 118 | 146 => 135 | 51 => 134 | n => n, fun | 1 => 0 | n => n⟩
theorem Tryd.laysM144 : Go.Proofs.LaysM.n144 Tryd.prog Tryd.laysM144_ren := {
  mixed := by kernel_rfl
  f143 := Tryd.func49.trans (congrArg some (by kernel_rfl))
  f144 := Tryd.func28.trans (congrArg some (by kernel_rfl))
  f217 := Tryd.func71.trans (congrArg some (by kernel_rfl))
  f219 := Tryd.func73.trans (congrArg some (by kernel_rfl))
  f224 := Tryd.func94.trans (congrArg some (by kernel_rfl))
  f225 := Tryd.func93.trans (congrArg some (by kernel_rfl))
  f266 := Tryd.func92.trans (congrArg some (by kernel_rfl))
  f267 := Tryd.func95.trans (congrArg some (by kernel_rfl))
  f314 := Tryd.func105.trans (congrArg some (by kernel_rfl))
  t3 := Tryd.underlying3
  a3 := Tryd.isAgg3
  z3 := Tryd.sizeOf3
  v3 := Tryd.zeroValue3
  t4 := Tryd.underlying4
  a4 := Tryd.isAgg4
  z4 := Tryd.sizeOf4
  v4 := Tryd.zeroValue4
  t5 := Tryd.underlying5
  a5 := Tryd.isAgg5
  z5 := Tryd.sizeOf5
  v5 := Tryd.zeroValue5
  t9 := Tryd.underlying9
  a9 := Tryd.isAgg9
  z9 := Tryd.sizeOf9
  v9 := Tryd.zeroValue9
  t46 := Tryd.underlying118
  a46 := Tryd.isAgg118
  z46 := Tryd.sizeOf118
  v46 := Tryd.zeroValue118
  t51 := Tryd.underlying134
  a51 := Tryd.isAgg134
  z51 := Tryd.sizeOf134
  v51 := Tryd.zeroValue134
  t146 := Tryd.underlying135
  a146 := Tryd.isAgg135
  z146 := Tryd.sizeOf135
  v146 := Tryd.zeroValue135
  g1 := by kernel_rfl
  i3 := by kernel_rfl
  i4 := by kernel_rfl
  i5 := by kernel_rfl
  i9 := by kernel_rfl
  i46 := by kernel_rfl
  i51 := by kernel_rfl
  i146 := by kernel_rfl
  m1 := by kernel_rfl
  s1_3 := fun w h => Go.Proofs.cell_of_shapedOpen_int (zero := #[.int .i64 0]) (t := 3) h (of_decide_eq_true (by kernel_rfl)) (by kernel_rfl) rfl (by kernel_rfl) (by kernel_rfl) Tryd.underlying3 }
open Go.RowKit Go.Lib in
theorem Tryd.strings_Contains_shaped (s sub : ByteArray) (w : World) (h : w.ShapedOpen Tryd.prog) (hs : s.size < 4294967281) :
    Calls Tryd.prog 28 #[.string s, .string sub] w fun e w' => e = .returned (.bool (Lib.contains s.data.toList sub.data.toList)) ∧ w' = w := Any.strings_Contains_shaped Tryd.laysM144 s sub w h hs
def Tryd.laysM220_ren : Go.Shelf.Ren := ⟨fun | 220 => 76 | 219 => 73 | 217 => 71 | 225 => 93 | 224 => 94 | 267 => 95 | 266 => 92 | 314 => 105 | n => n, fun | 9 => 9 | 4 => 4 | 3 => 3 | 5 => 5 | 46 => 118 | 146 => 135 | 51 => 134 | n => n, fun | 1 => 0 | n => n⟩
theorem Tryd.laysM220 : Go.Proofs.LaysM.n220 Tryd.prog Tryd.laysM220_ren := {
  mixed := by kernel_rfl
  f217 := Tryd.func71.trans (congrArg some (by kernel_rfl))
  f219 := Tryd.func73.trans (congrArg some (by kernel_rfl))
  f220 := Tryd.func76.trans (congrArg some (by kernel_rfl))
  f224 := Tryd.func94.trans (congrArg some (by kernel_rfl))
  f225 := Tryd.func93.trans (congrArg some (by kernel_rfl))
  f266 := Tryd.func92.trans (congrArg some (by kernel_rfl))
  f267 := Tryd.func95.trans (congrArg some (by kernel_rfl))
  f314 := Tryd.func105.trans (congrArg some (by kernel_rfl))
  t3 := Tryd.underlying3
  a3 := Tryd.isAgg3
  z3 := Tryd.sizeOf3
  v3 := Tryd.zeroValue3
  t4 := Tryd.underlying4
  a4 := Tryd.isAgg4
  z4 := Tryd.sizeOf4
  v4 := Tryd.zeroValue4
  t5 := Tryd.underlying5
  a5 := Tryd.isAgg5
  z5 := Tryd.sizeOf5
  v5 := Tryd.zeroValue5
  t9 := Tryd.underlying9
  a9 := Tryd.isAgg9
  z9 := Tryd.sizeOf9
  v9 := Tryd.zeroValue9
  t46 := Tryd.underlying118
  a46 := Tryd.isAgg118
  z46 := Tryd.sizeOf118
  v46 := Tryd.zeroValue118
  t51 := Tryd.underlying134
  a51 := Tryd.isAgg134
  z51 := Tryd.sizeOf134
  v51 := Tryd.zeroValue134
  t146 := Tryd.underlying135
  a146 := Tryd.isAgg135
  z146 := Tryd.sizeOf135
  v146 := Tryd.zeroValue135
  g1 := by kernel_rfl
  i3 := by kernel_rfl
  i4 := by kernel_rfl
  i5 := by kernel_rfl
  i9 := by kernel_rfl
  i46 := by kernel_rfl
  i51 := by kernel_rfl
  i146 := by kernel_rfl
  m1 := by kernel_rfl
  s1_3 := fun w h => Go.Proofs.cell_of_shapedOpen_int (zero := #[.int .i64 0]) (t := 3) h (of_decide_eq_true (by kernel_rfl)) (by kernel_rfl) rfl (by kernel_rfl) (by kernel_rfl) Tryd.underlying3 }
open Go.RowKit Go.Lib in
theorem Tryd.stringslite_Cut_shaped (s sep : ByteArray) (w : World) (h : w.ShapedOpen Tryd.prog) (hs : s.size < 4294967281) :
    Calls Tryd.prog 76 #[.string s, .string sep] w fun e w' => e = .returned (.tuple #[.string ⟨(Lib.cut s.data.toList sep.data.toList).1.toArray⟩, .string ⟨(Lib.cut s.data.toList sep.data.toList).2.1.toArray⟩, .bool (Lib.cut s.data.toList sep.data.toList).2.2]) ∧ ∃ n, w' = w.drewN n := Any.stringslite_Cut_shaped Tryd.laysM220 s sep w h hs
def Tryd.laysM145_ren : Go.Shelf.Ren := ⟨fun | 145 => 51 | 220 => 76 | 219 => 73 | 217 => 71 | 225 => 93 | 224 => 94 | 267 => 95 | 266 => 92 | 314 => 105 | n => n, fun | 9 => 9 | 4 => 4 | 59 => 102 | 3 => 3 | 5 => 5 | 46 => 118 | 146 => 135 | 51 => 134 | n => n, fun | 1 => 0 | n => n⟩
theorem Tryd.laysM145 : Go.Proofs.LaysM.n145 Tryd.prog Tryd.laysM145_ren := {
  mixed := by kernel_rfl
  f145 := Tryd.func51.trans (congrArg some (by kernel_rfl))
  f217 := Tryd.func71.trans (congrArg some (by kernel_rfl))
  f219 := Tryd.func73.trans (congrArg some (by kernel_rfl))
  f220 := Tryd.func76.trans (congrArg some (by kernel_rfl))
  f224 := Tryd.func94.trans (congrArg some (by kernel_rfl))
  f225 := Tryd.func93.trans (congrArg some (by kernel_rfl))
  f266 := Tryd.func92.trans (congrArg some (by kernel_rfl))
  f267 := Tryd.func95.trans (congrArg some (by kernel_rfl))
  f314 := Tryd.func105.trans (congrArg some (by kernel_rfl))
  t3 := Tryd.underlying3
  a3 := Tryd.isAgg3
  z3 := Tryd.sizeOf3
  v3 := Tryd.zeroValue3
  t4 := Tryd.underlying4
  a4 := Tryd.isAgg4
  z4 := Tryd.sizeOf4
  v4 := Tryd.zeroValue4
  t5 := Tryd.underlying5
  a5 := Tryd.isAgg5
  z5 := Tryd.sizeOf5
  v5 := Tryd.zeroValue5
  t9 := Tryd.underlying9
  a9 := Tryd.isAgg9
  z9 := Tryd.sizeOf9
  v9 := Tryd.zeroValue9
  t46 := Tryd.underlying118
  a46 := Tryd.isAgg118
  z46 := Tryd.sizeOf118
  v46 := Tryd.zeroValue118
  t51 := Tryd.underlying134
  a51 := Tryd.isAgg134
  z51 := Tryd.sizeOf134
  v51 := Tryd.zeroValue134
  t59 := Tryd.underlying102
  a59 := Tryd.isAgg102
  z59 := Tryd.sizeOf102
  v59 := Tryd.zeroValue102
  t146 := Tryd.underlying135
  a146 := Tryd.isAgg135
  z146 := Tryd.sizeOf135
  v146 := Tryd.zeroValue135
  g1 := by kernel_rfl
  i3 := by kernel_rfl
  i4 := by kernel_rfl
  i5 := by kernel_rfl
  i9 := by kernel_rfl
  i46 := by kernel_rfl
  i51 := by kernel_rfl
  i59 := by kernel_rfl
  i146 := by kernel_rfl
  m1 := by kernel_rfl
  s1_3 := fun w h => Go.Proofs.cell_of_shapedOpen_int (zero := #[.int .i64 0]) (t := 3) h (of_decide_eq_true (by kernel_rfl)) (by kernel_rfl) rfl (by kernel_rfl) (by kernel_rfl) Tryd.underlying3 }
open Go.RowKit Go.Lib in
theorem Tryd.strings_Cut_shaped (s sep : ByteArray) (w : World) (h : w.ShapedOpen Tryd.prog) (hs : s.size < 4294967281) :
    Calls Tryd.prog 51 #[.string s, .string sep] w fun e w' => e = .returned (.tuple #[.string ⟨(Lib.cut s.data.toList sep.data.toList).1.toArray⟩, .string ⟨(Lib.cut s.data.toList sep.data.toList).2.1.toArray⟩, .bool (Lib.cut s.data.toList sep.data.toList).2.2]) ∧ ∃ n, w' = w.drewN n := Any.strings_Cut_shaped Tryd.laysM145 s sep w h hs
def Tryd.lays207_ren : Go.Shelf.Ren := ⟨fun | 207 => 72 | n => n, fun | 9 => 9 | 4 => 4 | 3 => 3 | n => n, fun | n => n⟩
theorem Tryd.lays207 : Go.Proofs.Lays.n207 Tryd.prog Tryd.lays207_ren := {
  mixed := by kernel_rfl
  f207 := Tryd.func72.trans (congrArg some (by kernel_rfl))
  t3 := Tryd.underlying3
  a3 := Tryd.isAgg3
  z3 := Tryd.sizeOf3
  v3 := Tryd.zeroValue3
  t4 := Tryd.underlying4
  a4 := Tryd.isAgg4
  z4 := Tryd.sizeOf4
  v4 := Tryd.zeroValue4
  t9 := Tryd.underlying9
  a9 := Tryd.isAgg9
  z9 := Tryd.sizeOf9
  v9 := Tryd.zeroValue9 }
open Go.RowKit Go.Lib in
theorem Tryd.stringslite_HasSuffix (s p : ByteArray) (w : World) (hs : s.size ≤ 9223372036854775807) :
    Calls Tryd.prog 72 #[.string s, .string p] w fun e w' => e = .returned (.bool (Lib.hasSuffix s.data.toList p.data.toList)) ∧ w' = w := Any.stringslite_HasSuffix Tryd.lays207 s p w hs
def Tryd.lays100_ren : Go.Shelf.Ren := ⟨fun | 100 => 48 | 207 => 72 | n => n, fun | 9 => 9 | 4 => 4 | 3 => 3 | n => n, fun | n => n⟩
theorem Tryd.lays100 : Go.Proofs.Lays.n100 Tryd.prog Tryd.lays100_ren := {
  mixed := by kernel_rfl
  f100 := Tryd.func48.trans (congrArg some (by kernel_rfl))
  f207 := Tryd.func72.trans (congrArg some (by kernel_rfl))
  t3 := Tryd.underlying3
  a3 := Tryd.isAgg3
  z3 := Tryd.sizeOf3
  v3 := Tryd.zeroValue3
  t4 := Tryd.underlying4
  a4 := Tryd.isAgg4
  z4 := Tryd.sizeOf4
  v4 := Tryd.zeroValue4
  t9 := Tryd.underlying9
  a9 := Tryd.isAgg9
  z9 := Tryd.sizeOf9
  v9 := Tryd.zeroValue9 }
open Go.RowKit Go.Lib in
theorem Tryd.strings_HasSuffix (s p : ByteArray) (w : World) (hs : s.size ≤ 9223372036854775807) :
    Calls Tryd.prog 48 #[.string s, .string p] w fun e w' => e = .returned (.bool (Lib.hasSuffix s.data.toList p.data.toList)) ∧ w' = w := Any.strings_HasSuffix Tryd.lays100 s p w hs
def Tryd.lays197_ren : Go.Shelf.Ren := ⟨fun | 197 => 102 | 260 => 109 | n => n, fun | 9 => 9 | 21 => 21 | 3 => 3 | 4 => 4 | 5 => 5 | 105 => 131 | 119 => 140 | 0 => 0 | 46 => 118 | 139 => 143 | 138 => 142 | n => n, fun | 3 => 1 | 4 => 2 | n => n⟩
theorem Tryd.lays197 : Go.Proofs.Lays.n197 Tryd.prog Tryd.lays197_ren := {
  mixed := by kernel_rfl
  f197 := Tryd.func102.trans (congrArg some (by kernel_rfl))
  f260 := Tryd.func109.trans (congrArg some (by kernel_rfl))
  t0 := Tryd.underlying0
  a0 := Tryd.isAgg0
  z0 := Tryd.sizeOf0
  v0 := Tryd.zeroValue0
  t3 := Tryd.underlying3
  a3 := Tryd.isAgg3
  z3 := Tryd.sizeOf3
  v3 := Tryd.zeroValue3
  t4 := Tryd.underlying4
  a4 := Tryd.isAgg4
  z4 := Tryd.sizeOf4
  v4 := Tryd.zeroValue4
  t5 := Tryd.underlying5
  a5 := Tryd.isAgg5
  z5 := Tryd.sizeOf5
  v5 := Tryd.zeroValue5
  t9 := Tryd.underlying9
  a9 := Tryd.isAgg9
  z9 := Tryd.sizeOf9
  v9 := Tryd.zeroValue9
  t21 := Tryd.underlying21
  a21 := Tryd.isAgg21
  z21 := Tryd.sizeOf21
  v21 := Tryd.zeroValue21
  t46 := Tryd.underlying118
  a46 := Tryd.isAgg118
  z46 := Tryd.sizeOf118
  v46 := Tryd.zeroValue118
  t105 := Tryd.underlying131
  a105 := Tryd.isAgg131
  z105 := Tryd.sizeOf131
  v105 := Tryd.zeroValue131
  t119 := Tryd.underlying140
  a119 := Tryd.isAgg140
  z119 := Tryd.sizeOf140
  t138 := Tryd.underlying142
  a138 := Tryd.isAgg142
  z138 := Tryd.sizeOf142
  v138 := Tryd.zeroValue142
  t139 := Tryd.underlying143
  a139 := Tryd.isAgg143
  z139 := Tryd.sizeOf143
  v139 := Tryd.zeroValue143
  g3 := by kernel_rfl
  g4 := by kernel_rfl }
open Go.RowKit Go.Lib in
theorem Tryd.utf8_DecodeRuneInString_ascii (s : ByteArray) (x : UInt8) (w : World) (h0 : s.data.toList[0]? = some x) (hx : x.toNat < 128) :
    Calls Tryd.prog 102 #[.string s] w fun e w' => e = .returned (.tuple #[.int .i32 x.toNat, .int .i64 1]) ∧ w' = w := Any.utf8_DecodeRuneInString_ascii Tryd.lays197 s x w h0 hx
def Tryd.lays152_ren : Go.Shelf.Ren := ⟨fun | 152 => 99 | 137 => 46 | 119 => 108 | 224 => 94 | 225 => 93 | 217 => 71 | 266 => 92 | n => n, fun | 9 => 9 | 21 => 21 | 3 => 3 | 4 => 4 | 5 => 5 | 0 => 0 | 46 => 118 | n => n, fun | n => n⟩
theorem Tryd.lays152 : Go.Proofs.Lays.n152 Tryd.prog Tryd.lays152_ren := {
  mixed := by kernel_rfl
  f119 := Tryd.func108.trans (congrArg some (by kernel_rfl))
  f137 := Tryd.func46.trans (congrArg some (by kernel_rfl))
  f152 := Tryd.func99.trans (congrArg some (by kernel_rfl))
  f217 := Tryd.func71.trans (congrArg some (by kernel_rfl))
  f224 := Tryd.func94.trans (congrArg some (by kernel_rfl))
  f225 := Tryd.func93.trans (congrArg some (by kernel_rfl))
  f266 := Tryd.func92.trans (congrArg some (by kernel_rfl))
  t0 := Tryd.underlying0
  a0 := Tryd.isAgg0
  z0 := Tryd.sizeOf0
  v0 := Tryd.zeroValue0
  t3 := Tryd.underlying3
  a3 := Tryd.isAgg3
  z3 := Tryd.sizeOf3
  v3 := Tryd.zeroValue3
  t4 := Tryd.underlying4
  a4 := Tryd.isAgg4
  z4 := Tryd.sizeOf4
  v4 := Tryd.zeroValue4
  t5 := Tryd.underlying5
  a5 := Tryd.isAgg5
  z5 := Tryd.sizeOf5
  v5 := Tryd.zeroValue5
  t9 := Tryd.underlying9
  a9 := Tryd.isAgg9
  z9 := Tryd.sizeOf9
  v9 := Tryd.zeroValue9
  t21 := Tryd.underlying21
  a21 := Tryd.isAgg21
  z21 := Tryd.sizeOf21
  v21 := Tryd.zeroValue21
  t46 := Tryd.underlying118
  a46 := Tryd.isAgg118
  z46 := Tryd.sizeOf118
  v46 := Tryd.zeroValue118 }
open Go.RowKit Go.Lib in
theorem Tryd.strings_IndexRune_ascii (s : ByteArray) (r : Int) (w : World) (h0 : 0 ≤ r) (h1 : r < 128) :
    Calls Tryd.prog 99 #[.string s, .int .i32 r] w fun e w' => e = .returned (.int .i64 (Lib.indexByte s.data.toList r.toNat.toUInt8)) ∧ w' = w := Any.strings_IndexRune_ascii Tryd.lays152 s r w h0 h1
def Tryd.lays151_ren : Go.Shelf.Ren := ⟨fun | 151 => 103 | 152 => 99 | 137 => 46 | 119 => 108 | 224 => 94 | 225 => 93 | 217 => 71 | 266 => 92 | n => n, fun | 9 => 9 | 21 => 21 | 4 => 4 | 3 => 3 | 5 => 5 | 0 => 0 | 46 => 118 | n => n, fun | n => n⟩
theorem Tryd.lays151 : Go.Proofs.Lays.n151 Tryd.prog Tryd.lays151_ren := {
  mixed := by kernel_rfl
  f119 := Tryd.func108.trans (congrArg some (by kernel_rfl))
  f137 := Tryd.func46.trans (congrArg some (by kernel_rfl))
  f151 := Tryd.func103.trans (congrArg some (by kernel_rfl))
  f152 := Tryd.func99.trans (congrArg some (by kernel_rfl))
  f217 := Tryd.func71.trans (congrArg some (by kernel_rfl))
  f224 := Tryd.func94.trans (congrArg some (by kernel_rfl))
  f225 := Tryd.func93.trans (congrArg some (by kernel_rfl))
  f266 := Tryd.func92.trans (congrArg some (by kernel_rfl))
  t0 := Tryd.underlying0
  a0 := Tryd.isAgg0
  z0 := Tryd.sizeOf0
  v0 := Tryd.zeroValue0
  t3 := Tryd.underlying3
  a3 := Tryd.isAgg3
  z3 := Tryd.sizeOf3
  v3 := Tryd.zeroValue3
  t4 := Tryd.underlying4
  a4 := Tryd.isAgg4
  z4 := Tryd.sizeOf4
  v4 := Tryd.zeroValue4
  t5 := Tryd.underlying5
  a5 := Tryd.isAgg5
  z5 := Tryd.sizeOf5
  v5 := Tryd.zeroValue5
  t9 := Tryd.underlying9
  a9 := Tryd.isAgg9
  z9 := Tryd.sizeOf9
  v9 := Tryd.zeroValue9
  t21 := Tryd.underlying21
  a21 := Tryd.isAgg21
  z21 := Tryd.sizeOf21
  v21 := Tryd.zeroValue21
  t46 := Tryd.underlying118
  a46 := Tryd.isAgg118
  z46 := Tryd.sizeOf118
  v46 := Tryd.zeroValue118 }
open Go.RowKit Go.Lib in
theorem Tryd.strings_ContainsRune_ascii (s : ByteArray) (r : Int) (w : World) (h0 : 0 ≤ r) (h1 : r < 128) :
    Calls Tryd.prog 103 #[.string s, .int .i32 r] w fun e w' => e = .returned (.bool (decide (0 ≤ Lib.indexByte s.data.toList r.toNat.toUInt8))) ∧ w' = w := Any.strings_ContainsRune_ascii Tryd.lays151 s r w h0 h1
def Tryd.lays226_ren : Go.Shelf.Ren := ⟨fun | 226 => 100 | n => n, fun | 3 => 3 | 4 => 4 | n => n, fun | n => n⟩
theorem Tryd.lays226 : Go.Proofs.Lays.n226 Tryd.prog Tryd.lays226_ren := {
  mixed := by kernel_rfl
  f226 := Tryd.func100.trans (congrArg some (by kernel_rfl))
  t3 := Tryd.underlying3
  a3 := Tryd.isAgg3
  z3 := Tryd.sizeOf3
  v3 := Tryd.zeroValue3
  t4 := Tryd.underlying4
  a4 := Tryd.isAgg4
  z4 := Tryd.sizeOf4
  v4 := Tryd.zeroValue4 }
open Go.RowKit Go.Lib in
theorem Tryd.strings_shouldUseASCIISet (n : Int) (w : World) :
    Calls Tryd.prog 100 #[.int .i64 n] w fun e w' => e = .returned (.bool (decide (8 < n))) ∧ w' = w := Any.strings_shouldUseASCIISet Tryd.lays226 n w
def Tryd.lays153_ren : Go.Shelf.Ren := ⟨fun | 153 => 83 | 152 => 99 | 226 => 100 | 227 => 87 | 228 => 101 | 137 => 46 | 119 => 108 | 224 => 94 | 225 => 93 | 217 => 71 | 266 => 92 | n => n, fun | 9 => 9 | 3 => 3 | 4 => 4 | 5 => 5 | 21 => 21 | 117 => 124 | 116 => 123 | 0 => 0 | 46 => 118 | 124 => 127 | n => n, fun | n => n⟩
theorem Tryd.lays153 : Go.Proofs.Lays.n153 Tryd.prog Tryd.lays153_ren := {
  mixed := by kernel_rfl
  f119 := Tryd.func108.trans (congrArg some (by kernel_rfl))
  f137 := Tryd.func46.trans (congrArg some (by kernel_rfl))
  f152 := Tryd.func99.trans (congrArg some (by kernel_rfl))
  f153 := Tryd.func83.trans (congrArg some (by kernel_rfl))
  f217 := Tryd.func71.trans (congrArg some (by kernel_rfl))
  f224 := Tryd.func94.trans (congrArg some (by kernel_rfl))
  f225 := Tryd.func93.trans (congrArg some (by kernel_rfl))
  f226 := Tryd.func100.trans (congrArg some (by kernel_rfl))
  f227 := Tryd.func87.trans (congrArg some (by kernel_rfl))
  f228 := Tryd.func101.trans (congrArg some (by kernel_rfl))
  f266 := Tryd.func92.trans (congrArg some (by kernel_rfl))
  t0 := Tryd.underlying0
  a0 := Tryd.isAgg0
  z0 := Tryd.sizeOf0
  v0 := Tryd.zeroValue0
  t3 := Tryd.underlying3
  a3 := Tryd.isAgg3
  z3 := Tryd.sizeOf3
  v3 := Tryd.zeroValue3
  t4 := Tryd.underlying4
  a4 := Tryd.isAgg4
  z4 := Tryd.sizeOf4
  v4 := Tryd.zeroValue4
  t5 := Tryd.underlying5
  a5 := Tryd.isAgg5
  z5 := Tryd.sizeOf5
  v5 := Tryd.zeroValue5
  t9 := Tryd.underlying9
  a9 := Tryd.isAgg9
  z9 := Tryd.sizeOf9
  v9 := Tryd.zeroValue9
  t21 := Tryd.underlying21
  a21 := Tryd.isAgg21
  z21 := Tryd.sizeOf21
  v21 := Tryd.zeroValue21
  t46 := Tryd.underlying118
  a46 := Tryd.isAgg118
  z46 := Tryd.sizeOf118
  v46 := Tryd.zeroValue118
  t116 := Tryd.underlying123
  a116 := Tryd.isAgg123
  z116 := Tryd.sizeOf123
  t117 := Tryd.underlying124
  a117 := Tryd.isAgg124
  z117 := Tryd.sizeOf124
  v117 := Tryd.zeroValue124
  t124 := Tryd.underlying127
  a124 := Tryd.isAgg127
  z124 := Tryd.sizeOf127
  v124 := Tryd.zeroValue127 }
open Go.RowKit Go.Lib in
theorem Tryd.strings_IndexAny_none (s chars : ByteArray) (w : World) (h0 : chars.size = 0) :
    Calls Tryd.prog 83 #[.string s, .string chars] w fun e w' => e = .returned (.int .i64 (Lib.indexAny s.data.toList chars.data.toList)) ∧ w' = w := Any.strings_IndexAny_none Tryd.lays153 s chars w h0
open Go.RowKit Go.Lib in
theorem Tryd.strings_IndexAny_one (s chars : ByteArray) (w : World) (h1 : chars.size = 1) (hascii : ∀ (j : Nat) b, chars.data.toList[j]? = some b → b.toNat < 128) :
    Calls Tryd.prog 83 #[.string s, .string chars] w fun e w' => e = .returned (.int .i64 (Lib.indexAny s.data.toList chars.data.toList)) ∧ w' = w := Any.strings_IndexAny_one Tryd.lays153 s chars w h1 hascii
open Go.RowKit Go.Lib in
theorem Tryd.strings_IndexAny_short (s chars : ByteArray) (w : World) (h2 : 2 ≤ chars.size) (h8 : s.size ≤ 8) (hascii : ∀ (j : Nat) b, s.data.toList[j]? = some b → b.toNat < 128) :
    Calls Tryd.prog 83 #[.string s, .string chars] w fun e w' => e = .returned (.int .i64 (Lib.indexAny s.data.toList chars.data.toList)) ∧ ∃ pos, w' = w.iter s pos := Any.strings_IndexAny_short Tryd.lays153 s chars w h2 h8 hascii
def Tryd.lays227_ren : Go.Shelf.Ren := ⟨fun | 227 => 87 | n => n, fun | 9 => 9 | 116 => 123 | 4 => 4 | 0 => 0 | 3 => 3 | 5 => 5 | n => n, fun | n => n⟩
theorem Tryd.lays227 : Go.Proofs.Lays.n227 Tryd.prog Tryd.lays227_ren := {
  mixed := by kernel_rfl
  f227 := Tryd.func87.trans (congrArg some (by kernel_rfl))
  t0 := Tryd.underlying0
  a0 := Tryd.isAgg0
  z0 := Tryd.sizeOf0
  v0 := Tryd.zeroValue0
  t3 := Tryd.underlying3
  a3 := Tryd.isAgg3
  z3 := Tryd.sizeOf3
  v3 := Tryd.zeroValue3
  t4 := Tryd.underlying4
  a4 := Tryd.isAgg4
  z4 := Tryd.sizeOf4
  v4 := Tryd.zeroValue4
  t5 := Tryd.underlying5
  a5 := Tryd.isAgg5
  z5 := Tryd.sizeOf5
  v5 := Tryd.zeroValue5
  t9 := Tryd.underlying9
  a9 := Tryd.isAgg9
  z9 := Tryd.sizeOf9
  v9 := Tryd.zeroValue9
  t116 := Tryd.underlying123
  a116 := Tryd.isAgg123
  z116 := Tryd.sizeOf123 }
open Go.RowKit Go.Lib in
theorem Tryd.strings_makeASCIISet (hv116 : ∀ w, (zeroValue 123).run Tryd.prog w = .ok (.agg (Array.replicate 256 (.bool false))) w) (chars : ByteArray) (w : World) (hs : chars.size < 4294967281) (hascii : ∀ (j : Nat) b, chars.data.toList[j]? = some b → b.toNat < 128) :
    Calls Tryd.prog 87 #[.string chars] w fun e w' => e = .returned (.tuple #[.agg (Lib.setCells chars.data.toList), .bool true]) ∧ w' = w.alloc (.cells (Lib.setCells chars.data.toList) 123) := Any.strings_makeASCIISet Tryd.lays227 hv116 (by kernel_rfl) chars w hs hascii
def Tryd.lays228_ren : Go.Shelf.Ren := ⟨fun | 228 => 101 | n => n, fun | 124 => 127 | 5 => 5 | 4 => 4 | 0 => 0 | 116 => 123 | n => n, fun | n => n⟩
theorem Tryd.lays228 : Go.Proofs.Lays.n228 Tryd.prog Tryd.lays228_ren := {
  mixed := by kernel_rfl
  f228 := Tryd.func101.trans (congrArg some (by kernel_rfl))
  t0 := Tryd.underlying0
  a0 := Tryd.isAgg0
  z0 := Tryd.sizeOf0
  v0 := Tryd.zeroValue0
  t4 := Tryd.underlying4
  a4 := Tryd.isAgg4
  z4 := Tryd.sizeOf4
  v4 := Tryd.zeroValue4
  t5 := Tryd.underlying5
  a5 := Tryd.isAgg5
  z5 := Tryd.sizeOf5
  v5 := Tryd.zeroValue5
  t116 := Tryd.underlying123
  a116 := Tryd.isAgg123
  z116 := Tryd.sizeOf123
  t124 := Tryd.underlying127
  a124 := Tryd.isAgg127
  z124 := Tryd.sizeOf127
  v124 := Tryd.zeroValue127 }
open Go.RowKit Go.Lib in
theorem Tryd.asciiSet_contains (b : Nat) (x : UInt8) (v : Bool) (w : World) (hc : w.cell? ⟨b, x.toNat, none⟩ = some (.bool v)) :
    Calls Tryd.prog 101 #[.pointer (some ⟨b, 0, none⟩), .int .u8 x.toNat] w fun e w' => e = .returned (.bool v) ∧ w' = w := Any.asciiSet_contains Tryd.lays228 b x v w hc
open Go.RowKit Go.Lib in
theorem Tryd.strings_IndexAny_long (hv116 : ∀ w, (zeroValue 123).run Tryd.prog w = .ok (.agg (Array.replicate 256 (.bool false))) w) (s chars : ByteArray) (w : World) (h2 : 2 ≤ chars.size) (h8 : 8 < s.size) (hs : s.size < 4294967281) (hcs : chars.size < 4294967281) (hascii : ∀ (j : Nat) b, chars.data.toList[j]? = some b → b.toNat < 128) :
    Calls Tryd.prog 83 #[.string s, .string chars] w fun e w' => e = .returned (.int .i64 (Lib.indexAny s.data.toList chars.data.toList)) ∧ w' = ((w.alloc (.cells (Lib.setCells chars.data.toList) 123)).alloc (.cells (Lib.setCells chars.data.toList) 123)) := Any.strings_IndexAny_long Tryd.lays153 hv116 (by kernel_rfl) s chars w h2 h8 hs hcs hascii
open Go.RowKit Go.Lib in
theorem Tryd.strings_IndexAny (hv116 : ∀ w, (zeroValue 123).run Tryd.prog w = .ok (.agg (Array.replicate 256 (.bool false))) w) (s chars : ByteArray) (w : World) (hs : s.size < 4294967281) (hcs : chars.size < 4294967281) (has : ∀ (j : Nat) b, s.data.toList[j]? = some b → b.toNat < 128) (hac : ∀ (j : Nat) b, chars.data.toList[j]? = some b → b.toNat < 128) :
    Calls Tryd.prog 83 #[.string s, .string chars] w fun e w' => e = .returned (.int .i64 (Lib.indexAny s.data.toList chars.data.toList)) ∧ Below w.heap.size w w' := Any.strings_IndexAny Tryd.lays153 hv116 (by kernel_rfl) s chars w hs hcs has hac
def Tryd.lays150_ren : Go.Shelf.Ren := ⟨fun | 150 => 66 | 153 => 83 | 152 => 99 | 226 => 100 | 227 => 87 | 228 => 101 | 137 => 46 | 119 => 108 | 224 => 94 | 225 => 93 | 217 => 71 | 266 => 92 | n => n, fun | 9 => 9 | 4 => 4 | 3 => 3 | 5 => 5 | 21 => 21 | 117 => 124 | 116 => 123 | 0 => 0 | 46 => 118 | 124 => 127 | n => n, fun | n => n⟩
theorem Tryd.lays150 : Go.Proofs.Lays.n150 Tryd.prog Tryd.lays150_ren := {
  mixed := by kernel_rfl
  f119 := Tryd.func108.trans (congrArg some (by kernel_rfl))
  f137 := Tryd.func46.trans (congrArg some (by kernel_rfl))
  f150 := Tryd.func66.trans (congrArg some (by kernel_rfl))
  f152 := Tryd.func99.trans (congrArg some (by kernel_rfl))
  f153 := Tryd.func83.trans (congrArg some (by kernel_rfl))
  f217 := Tryd.func71.trans (congrArg some (by kernel_rfl))
  f224 := Tryd.func94.trans (congrArg some (by kernel_rfl))
  f225 := Tryd.func93.trans (congrArg some (by kernel_rfl))
  f226 := Tryd.func100.trans (congrArg some (by kernel_rfl))
  f227 := Tryd.func87.trans (congrArg some (by kernel_rfl))
  f228 := Tryd.func101.trans (congrArg some (by kernel_rfl))
  f266 := Tryd.func92.trans (congrArg some (by kernel_rfl))
  t0 := Tryd.underlying0
  a0 := Tryd.isAgg0
  z0 := Tryd.sizeOf0
  v0 := Tryd.zeroValue0
  t3 := Tryd.underlying3
  a3 := Tryd.isAgg3
  z3 := Tryd.sizeOf3
  v3 := Tryd.zeroValue3
  t4 := Tryd.underlying4
  a4 := Tryd.isAgg4
  z4 := Tryd.sizeOf4
  v4 := Tryd.zeroValue4
  t5 := Tryd.underlying5
  a5 := Tryd.isAgg5
  z5 := Tryd.sizeOf5
  v5 := Tryd.zeroValue5
  t9 := Tryd.underlying9
  a9 := Tryd.isAgg9
  z9 := Tryd.sizeOf9
  v9 := Tryd.zeroValue9
  t21 := Tryd.underlying21
  a21 := Tryd.isAgg21
  z21 := Tryd.sizeOf21
  v21 := Tryd.zeroValue21
  t46 := Tryd.underlying118
  a46 := Tryd.isAgg118
  z46 := Tryd.sizeOf118
  v46 := Tryd.zeroValue118
  t116 := Tryd.underlying123
  a116 := Tryd.isAgg123
  z116 := Tryd.sizeOf123
  t117 := Tryd.underlying124
  a117 := Tryd.isAgg124
  z117 := Tryd.sizeOf124
  v117 := Tryd.zeroValue124
  t124 := Tryd.underlying127
  a124 := Tryd.isAgg127
  z124 := Tryd.sizeOf127
  v124 := Tryd.zeroValue127 }
open Go.RowKit Go.Lib in
theorem Tryd.strings_ContainsAny (hv116 : ∀ w, (zeroValue 123).run Tryd.prog w = .ok (.agg (Array.replicate 256 (.bool false))) w) (s chars : ByteArray) (w : World) (hs : s.size < 4294967281) (hcs : chars.size < 4294967281) (has : ∀ (j : Nat) b, s.data.toList[j]? = some b → b.toNat < 128) (hac : ∀ (j : Nat) b, chars.data.toList[j]? = some b → b.toNat < 128) :
    Calls Tryd.prog 66 #[.string s, .string chars] w fun e w' => e = .returned (.bool (Lib.containsAny s.data.toList chars.data.toList)) ∧ Below w.heap.size w w' := Any.strings_ContainsAny Tryd.lays150 hv116 (by kernel_rfl) s chars w hs hcs has hac
open Go.RowKit Go.Lib in
theorem Tryd.strings_IndexAny_laid (s chars : ByteArray) (w : World) (hs : s.size < 4294967281) (hcs : chars.size < 4294967281) (has : ∀ (j : Nat) b, s.data.toList[j]? = some b → b.toNat < 128) (hac : ∀ (j : Nat) b, chars.data.toList[j]? = some b → b.toNat < 128) :
    Calls Tryd.prog 83 #[.string s, .string chars] w fun e w' => e = .returned (.int .i64 (Lib.indexAny s.data.toList chars.data.toList)) ∧ Below w.heap.size w w' := Any.strings_IndexAny_laid Tryd.lays153 (by kernel_rfl) s chars w hs hcs has hac
open Go.RowKit Go.Lib in
theorem Tryd.strings_ContainsAny_laid (s chars : ByteArray) (w : World) (hs : s.size < 4294967281) (hcs : chars.size < 4294967281) (has : ∀ (j : Nat) b, s.data.toList[j]? = some b → b.toNat < 128) (hac : ∀ (j : Nat) b, chars.data.toList[j]? = some b → b.toNat < 128) :
    Calls Tryd.prog 66 #[.string s, .string chars] w fun e w' => e = .returned (.bool (Lib.containsAny s.data.toList chars.data.toList)) ∧ Below w.heap.size w w' := Any.strings_ContainsAny_laid Tryd.lays150 (by kernel_rfl) s chars w hs hcs has hac
def Tryd.lays260_ren : Go.Shelf.Ren := ⟨fun | 260 => 109 | n => n, fun | 9 => 9 | 21 => 21 | 3 => 3 | 4 => 4 | 5 => 5 | 119 => 140 | 0 => 0 | 46 => 118 | 139 => 143 | 138 => 142 | n => n, fun | 3 => 1 | 4 => 2 | n => n⟩
theorem Tryd.lays260 : Go.Proofs.Lays.n260 Tryd.prog Tryd.lays260_ren := {
  mixed := by kernel_rfl
  f260 := Tryd.func109.trans (congrArg some (by kernel_rfl))
  t0 := Tryd.underlying0
  a0 := Tryd.isAgg0
  z0 := Tryd.sizeOf0
  v0 := Tryd.zeroValue0
  t3 := Tryd.underlying3
  a3 := Tryd.isAgg3
  z3 := Tryd.sizeOf3
  v3 := Tryd.zeroValue3
  t4 := Tryd.underlying4
  a4 := Tryd.isAgg4
  z4 := Tryd.sizeOf4
  v4 := Tryd.zeroValue4
  t5 := Tryd.underlying5
  a5 := Tryd.isAgg5
  z5 := Tryd.sizeOf5
  v5 := Tryd.zeroValue5
  t9 := Tryd.underlying9
  a9 := Tryd.isAgg9
  z9 := Tryd.sizeOf9
  v9 := Tryd.zeroValue9
  t21 := Tryd.underlying21
  a21 := Tryd.isAgg21
  z21 := Tryd.sizeOf21
  v21 := Tryd.zeroValue21
  t46 := Tryd.underlying118
  a46 := Tryd.isAgg118
  z46 := Tryd.sizeOf118
  v46 := Tryd.zeroValue118
  t119 := Tryd.underlying140
  a119 := Tryd.isAgg140
  z119 := Tryd.sizeOf140
  t138 := Tryd.underlying142
  a138 := Tryd.isAgg142
  z138 := Tryd.sizeOf142
  v138 := Tryd.zeroValue142
  t139 := Tryd.underlying143
  a139 := Tryd.isAgg143
  z139 := Tryd.sizeOf143
  v139 := Tryd.zeroValue143
  g3 := by kernel_rfl
  g4 := by kernel_rfl }
open Go.RowKit Go.Lib in
theorem Tryd.utf8_decodeRuneInStringSlow (s : ByteArray) (w : World) (hT : Lib.Utf8Tabs 1 2 w) :
    Calls Tryd.prog 109 #[.string s] w fun e w' => e = .returned (.tuple #[.int .i32 (Lib.decodeGo s).1, .int .i64 (Lib.decodeGo s).2]) ∧ Below w.heap.size w w' := Any.utf8_decodeRuneInStringSlow Tryd.lays260 s w hT
open Go.RowKit Go.Lib in
theorem Tryd.utf8_DecodeRuneInString (s : ByteArray) (w : World) (hT : Lib.Utf8Tabs 1 2 w) :
    Calls Tryd.prog 102 #[.string s] w fun e w' => e = .returned (.tuple #[.int .i32 (Lib.decodeGo s).1, .int .i64 (Lib.decodeGo s).2]) ∧ Below w.heap.size w w' := Any.utf8_DecodeRuneInString Tryd.lays197 s w hT
def Tryd.lays271_ren : Go.Shelf.Ren := ⟨fun | 271 => 104 | 120 => 110 | 197 => 102 | 260 => 109 | n => n, fun | 9 => 9 | 21 => 21 | 3 => 3 | 4 => 4 | 5 => 5 | 105 => 131 | 119 => 140 | 0 => 0 | 46 => 118 | 139 => 143 | 138 => 142 | n => n, fun | 3 => 1 | 4 => 2 | n => n⟩
theorem Tryd.lays271 : Go.Proofs.Lays.n271 Tryd.prog Tryd.lays271_ren := {
  mixed := by kernel_rfl
  f120 := Tryd.func110.trans (congrArg some (by kernel_rfl))
  f197 := Tryd.func102.trans (congrArg some (by kernel_rfl))
  f260 := Tryd.func109.trans (congrArg some (by kernel_rfl))
  f271 := Tryd.func104.trans (congrArg some (by kernel_rfl))
  t0 := Tryd.underlying0
  a0 := Tryd.isAgg0
  z0 := Tryd.sizeOf0
  v0 := Tryd.zeroValue0
  t3 := Tryd.underlying3
  a3 := Tryd.isAgg3
  z3 := Tryd.sizeOf3
  v3 := Tryd.zeroValue3
  t4 := Tryd.underlying4
  a4 := Tryd.isAgg4
  z4 := Tryd.sizeOf4
  v4 := Tryd.zeroValue4
  t5 := Tryd.underlying5
  a5 := Tryd.isAgg5
  z5 := Tryd.sizeOf5
  v5 := Tryd.zeroValue5
  t9 := Tryd.underlying9
  a9 := Tryd.isAgg9
  z9 := Tryd.sizeOf9
  v9 := Tryd.zeroValue9
  t21 := Tryd.underlying21
  a21 := Tryd.isAgg21
  z21 := Tryd.sizeOf21
  v21 := Tryd.zeroValue21
  t46 := Tryd.underlying118
  a46 := Tryd.isAgg118
  z46 := Tryd.sizeOf118
  v46 := Tryd.zeroValue118
  t105 := Tryd.underlying131
  a105 := Tryd.isAgg131
  z105 := Tryd.sizeOf131
  v105 := Tryd.zeroValue131
  t119 := Tryd.underlying140
  a119 := Tryd.isAgg140
  z119 := Tryd.sizeOf140
  t138 := Tryd.underlying142
  a138 := Tryd.isAgg142
  z138 := Tryd.sizeOf142
  v138 := Tryd.zeroValue142
  t139 := Tryd.underlying143
  a139 := Tryd.isAgg143
  z139 := Tryd.sizeOf143
  v139 := Tryd.zeroValue143
  g3 := by kernel_rfl
  g4 := by kernel_rfl }
open Go.RowKit Go.Lib in
theorem Tryd.utf8_DecodeLastRuneInString (s : ByteArray) (w : World) (hs : s.size ≤ 9223372036854775807) (hT : Lib.Utf8Tabs 1 2 w) :
    Calls Tryd.prog 104 #[.string s] w fun e w' => e = .returned (.tuple #[.int .i32 (Lib.decodeLastL s.data.toList).1, .int .i64 (Lib.decodeLastL s.data.toList).2]) ∧ Below w.heap.size w w' := Any.utf8_DecodeLastRuneInString Tryd.lays271 s w hs hT
end Go.Proofs
end
section
open Go Go.RowKit Go.Kb Go.Tr
namespace Go.Proofs.YtpacfelhjjmmkaaDoor
theorem cmp_any (w : World) (a b : ByteArray) (A : Option Addr) (n c : Nat) :
    Calls Tryd.prog 57 #[.agg #[.string a, .slice A n c], .string b] w (fun e w' => e = .returned (.int .i64 (Lib.compareBytes a.data.toList b.data.toList)) ∧ Below w.heap.size w w') := by
  go_enter Tryd.func57, Tryd.ntmps57
  go_wp2_with (first | (go_at_call 58; ((with_reducible refine (Tryd.strings_Compare _ _ _).mono ?_); rintro e w1 ⟨rfl, rfl⟩)))
  go_ret
  exact ⟨rfl, balloc (Below.refl _ _) (Nat.le_refl _) _⟩
theorem half (i j : Nat) (h : i + j < 4000000) : (IntKind.i64.wrap ((i : Int) + (j : Int)) = ((i + j : Nat) : Int)) := by
  rw [IntWalk.i64_in _ (by omega)]; omega
set_option maxRecDepth 100000 in
set_option maxHeartbeats 1600000 in
theorem bsearch_any (w : World) (A : Option Addr) (n c : Nat) (xs : List EV) (nm : ByteArray) (hR : RV w 2 A n c (cellsV xs)) (hA : ∀ ad, A = some ad → ad.block < w.heap.size) (hn : n ≤ 1000000) (hs : Srt (namesV xs)) :
    Calls Tryd.prog 56 #[.slice A n c, .string nm, .func (.func 57) #[] #[]] w
      (fun e w' => e = .returned (.tuple #[.int .i64 (posL (namesV xs) nm : Int), .bool (hasL (namesV xs) nm)]) ∧ Below w.heap.size w w') := by
  have hxl : xs.length = n := by have := hR.len; rw [cellsV_length] at this; omega
  have HXL := Lib.hid hxl
  have HR := Lib.hid hR
  have HS := Lib.hid hs
  have HA := Lib.hid hA
  clear hxl hR hs hA
  go_enter Tryd.func56, Tryd.ntmps56
  go_wp2_with fail
  go_loopw [9, 10] (fun u v wr => ∃ (i j : Nat), i ≤ j ∧ j ≤ n ∧ u = .int .i64 i ∧ v = .int .i64 j ∧ Below w.heap.size w wr ∧ Hid (∀ k x, k < i → xs[k]? = some x → ltB x.nm nm = true) ∧ Hid (∀ k x, j ≤ k → xs[k]? = some x → ltB x.nm nm = false)) (fun u v _ => (intOf v).toNat - (intOf u).toNat)
  case atStart => exact ⟨0, n, Nat.zero_le _, Nat.le_refl _, rfl, rfl, Below.refl _ _, Lib.hid (fun k x hk => absurd hk (Nat.not_lt_zero _)), Lib.hid (fun k x hk hx => by have := (List.getElem?_eq_some_iff.1 hx).1; have := HXL.out; omega)⟩
  case round =>
    obtain ⟨i, j, hij, hjn, rfl, rfl, hbr, HL, HG⟩ := hrel
    by_cases hlt : i < j
    · have hh := half i j (by omega)
      obtain ⟨h, hh2⟩ : ∃ h : Nat, ((i : Int) + (j : Int)) / 2 = (h : Int) := ⟨(i + j) / 2, by omega⟩
      have hi : i ≤ h := by omega
      have hj : h < j := by omega
      have hb1 : (h : Int) < (n : Int) := by omega
      have hb0 : (0 : Int) ≤ (h : Int) := by omega
      obtain ⟨x, hx⟩ : ∃ x, xs[h]? = some x := ⟨xs[h]'(by have := HXL.out; omega), List.getElem?_eq_getElem _⟩
      obtain ⟨ad, hAA, r1, r2⟩ := readV HR.out h x hx
      subst hAA
      have hadw : (ad.add (h * 2)).block < w.heap.size := by rw [add_block]; exact HA.out ad rfl
      have q1 : wr.cell? (ad.add (h * 2)) = some (.string x.nm) := (hbr.cell hadw).trans r1
      have q2 : wr.cell? ⟨(ad.add (h * 2)).block, (ad.add (h * 2)).off + 1, none⟩ = some (.slice x.A x.n x.c) := (hbr.cell (p := ⟨(ad.add (h * 2)).block, (ad.add (h * 2)).off + 1, none⟩) hadw).trans r2
      have HX := Lib.hid hx
      clear r1 r2 hx hadw
      by_cases hlb : ltB x.nm nm = true
      · have cn : ∀ w', Calls Tryd.prog 57 #[.agg #[.string x.nm, .slice x.A x.n x.c], .string nm] w' (fun e w2 => e = .returned (.int .i64 (-1)) ∧ Below w'.heap.size w' w2) := fun w' => by
          have := cmp_any w' x.nm nm x.A x.n x.c
          rw [cmp_ltB, if_pos hlb] at this
          exact this
        have HLB := Lib.hid hlb
        have CN := Lib.hid cn
        clear hlb cn
        go_wp2_with (first | (go_at_call 57; ((with_reducible refine (CN.out _).mono ?_); rintro e w1 ⟨rfl, hb1⟩)))
        exact ⟨⟨h + 1, j, by omega, by omega, by go_num, rfl, bthen hbr (Nat.le_refl _) hb1, Lib.hid (fun k y hk hy => HS.out.down (i := k) (j := h) (a := y.nm) (b := x.nm) (by omega) (by simp [namesV, hy]) (by simp [namesV, HX.out]) HLB.out), HG⟩, by simp [intOf]; omega⟩
      · have hlf : ltB x.nm nm = false := by simpa using hlb
        obtain ⟨v, hv, cn⟩ : ∃ v : Int, 0 ≤ v ∧ ∀ w', Calls Tryd.prog 57 #[.agg #[.string x.nm, .slice x.A x.n x.c], .string nm] w' (fun e w2 => e = .returned (.int .i64 v) ∧ Below w'.heap.size w' w2) := ⟨Lib.compareBytes x.nm.data.toList nm.data.toList, by rw [cmp_ltB, if_neg hlb]; split <;> omega, fun w' => cmp_any w' _ _ _ _ _⟩
        have HLB := Lib.hid hlf
        have CN := Lib.hid cn
        clear hlb cn hlf
        go_wp2_with (first | (go_at_call 57; ((with_reducible refine (CN.out _).mono ?_); rintro e w1 ⟨rfl, hb1⟩)))
        exact ⟨⟨i, h, by omega, by omega, rfl, rfl, bthen hbr (Nat.le_refl _) hb1, HL, Lib.hid (fun k y hk hy => HS.out.up (i := h) (j := k) (a := x.nm) (b := y.nm) hk (by simp [namesV, HX.out]) (by simp [namesV, hy]) HLB.out)⟩, by simp [intOf]; omega⟩
    · obtain rfl : i = j := by omega
      have hp : posL (namesV xs) nm = i := posL_eq (by simp [namesV, HXL.out]; omega) (fun k a hk ha => by
        simp only [namesV, List.getElem?_map, Option.map_eq_some_iff] at ha
        obtain ⟨y, hy, rfl⟩ := ha
        exact HL.out k y hk hy) (fun a ha => by
        simp only [namesV, List.getElem?_map, Option.map_eq_some_iff] at ha
        obtain ⟨y, hy, rfl⟩ := ha
        exact HG.out i y (Nat.le_refl _) hy)
      by_cases hin : i < n
      · have hb1 : (i : Int) < (n : Int) := by omega
        have hb0 : (0 : Int) ≤ (i : Int) := by omega
        obtain ⟨x, hx⟩ : ∃ x, xs[i]? = some x := ⟨xs[i]'(by have := HXL.out; omega), List.getElem?_eq_getElem _⟩
        obtain ⟨ad, hAA, r1, r2⟩ := readV HR.out i x hx
        subst hAA
        have hadw : (ad.add (i * 2)).block < w.heap.size := by rw [add_block]; exact HA.out ad rfl
        have q1 : wr.cell? (ad.add (i * 2)) = some (.string x.nm) := (hbr.cell hadw).trans r1
        have q2 : wr.cell? ⟨(ad.add (i * 2)).block, (ad.add (i * 2)).off + 1, none⟩ = some (.slice x.A x.n x.c) := (hbr.cell (p := ⟨(ad.add (i * 2)).block, (ad.add (i * 2)).off + 1, none⟩) hadw).trans r2
        have hlf := HG.out i x (Nat.le_refl _) hx
        obtain ⟨v, hv, cn⟩ : ∃ v : Int, decide (v = 0) = hasL (namesV xs) nm ∧ ∀ w', Calls Tryd.prog 57 #[.agg #[.string x.nm, .slice x.A x.n x.c], .string nm] w' (fun e w2 => e = .returned (.int .i64 v) ∧ Below w'.heap.size w' w2) := ⟨Lib.compareBytes x.nm.data.toList nm.data.toList, hasL_at hp (by simp [namesV, hx]) hlf, fun w' => cmp_any w' _ _ _ _ _⟩
        have HP := Lib.hid hp
        have HV := Lib.hid hv
        have CN := Lib.hid cn
        clear hp hv cn hlf hx r1 r2 hadw
        go_wp2_with (first | (go_at_call 57; ((with_reducible refine (CN.out _).mono ?_); rintro e w1 ⟨rfl, hb1⟩)))
        go_ret2
        exact ⟨by rw [HP.out, ← HV.out]; rfl, bthen hbr (Nat.le_refl _) hb1⟩
      · have hno : hasL (namesV xs) nm = false := by
          exact hasL_no (by rw [hp]; simp [namesV, HXL.out]; omega)
        have HP := Lib.hid hp
        have HNO := Lib.hid hno
        clear hp hno
        go_wp2_with fail
        go_ret2
        exact ⟨by rw [HP.out, HNO.out]; rfl, hbr⟩
theorem find_any (w : World) (A : Option Addr) (n c : Nat) (xs : List EV) (nm : ByteArray) (hR : RV w 2 A n c (cellsV xs)) (hA : ∀ ad, A = some ad → ad.block < w.heap.size) (hn : n ≤ 1000000) (hs : Srt (namesV xs)) :
    Calls Tryd.prog 30 #[.slice A n c, .string nm] w
      (fun e w' => e = .returned (.tuple #[.int .i64 (posL (namesV xs) nm : Int), .bool (hasL (namesV xs) nm)]) ∧ Below w.heap.size w w') := by
  have hc := bsearch_any w A n c xs nm hR hA hn hs
  generalize posL (namesV xs) nm = p at *
  generalize hasL (namesV xs) nm = b at *
  have HC := Lib.hid hc
  clear hc hR hs hA
  go_enter Tryd.func30, Tryd.ntmps30
  go_wp2_with (first | (go_at_call 56; ((with_reducible refine HC.out.mono ?_); rintro e w1 ⟨rfl, hb1⟩)))
  go_ret2
  exact ⟨rfl, hb1⟩
end Go.Proofs.YtpacfelhjjmmkaaDoor
end
section
open Go Go.RowKit Go.Kb Go.Tr
namespace Go.Proofs.YtpacfelhjjmmkaaDoor
def GetPost (w : World) : Option Tr → Ending → World → Prop
  | none, e, w' => e = .returned (.tuple #[.slice none 0 0, .bool false]) ∧ Below w.heap.size w w'
  | some k, e, w' => ∃ A n c, e = .returned (.tuple #[.slice A n c, .bool true]) ∧ Below w.heap.size w w' ∧ TV (fun b => w.heap.size ≤ b ∧ b < w'.heap.size) w' k A n c
theorem own_tv {E : TypeId} {w w' : World} {t : Tr} {e : Ending} (h : OwnPost E w t e w') (ht : t.size ≤ 1000000) :
    ∃ A n c, e = .returned (.slice A n c) ∧ Below w.heap.size w w' ∧ TV (fun b => w.heap.size ≤ b ∧ b < w'.heap.size) w' t A n c := by
  obtain ⟨xs, rfl, hb, hlt, ho, hk⟩ := h
  refine ⟨_, _, _, rfl, hb, xs, own_rv' ho (cellsV_one _), fun ad e => ?_, ?_, hk.move (fun _ _ => rfl) fun b hb => ⟨Nat.le_of_lt hb.1, hb.2⟩⟩
  · injection e with e
    subst e
    exact ⟨Nat.le_refl _, hlt⟩
  · have := t.len_le
    simp only [maxLen]; omega
theorem own_reads (S : Nat → Prop) (w : World) (t : Tr) (A : Option Addr) (n c : Nat) (hT : TV S w t A n c) (hS : ∀ b, S b → b < w.heap.size) (hz : t.size ≤ 1000000) :
    Calls Tryd.prog 31 #[.slice A n c] w (fun e w' => ∃ A' n' c', e = .returned (.slice A' n' c') ∧ Below w.heap.size w w' ∧ Hid (TV (fun b => w.heap.size ≤ b ∧ b < w'.heap.size) w' t A' n' c')) :=
  (own_any (t.size + 1) t (Nat.lt_succ_self _) hz S w A n c hT hS).mono fun _ _ h => own_tv h hz
set_option maxRecDepth 100000 in
set_option maxHeartbeats 1600000 in
theorem get_any (S : Nat → Prop) (w : World) (t : Tr) (A : Option Addr) (n c : Nat) (p : List ByteArray) (B : Option Addr) (m d : Nat) (hT : TV S w t A n c) (hS : ∀ b, S b → b < w.heap.size) (ht : t.ok) (hz : t.size ≤ 1000000)
    (hP : RV w 1 B m d (p.map Value.string)) (hB : ∀ ad, B = some ad → ad.block < w.heap.size) (hm : m ≤ 1000000) :
    Calls Tryd.prog 19 #[.slice A n c, .slice B m d] w (GetPost w (t.getp p)) := by
  have hpl : p.length = m := by have := hP.len; simpa using this
  have HPL := Lib.hid hpl
  have HP := Lib.hid hP
  have HS := Lib.hid hS
  have HB := Lib.hid hB
  have HT := Lib.hid hT
  have HOK := Lib.hid ht
  clear hpl hP hS hB hT ht
  go_enter Tryd.func19, Tryd.ntmps19
  go_wp2_with fail
  go_loopw [0, 12] (fun u v wr => ∃ (i : Nat) (k : Tr) (A' : Option Addr) (n' c' : Nat), i ≤ m ∧ v = .int .i64 i ∧ u = .slice A' n' c' ∧ Below w.heap.size w wr ∧ Hid (TV S w k A' n' c') ∧ Hid k.ok ∧ k.size ≤ 1000000 ∧ Hid (t.getp p = k.getp (p.drop i))) (fun u v _ => m - (intOf v).toNat)
  case atStart => exact ⟨0, t, A, n, c, Nat.zero_le _, rfl, rfl, Below.refl _ _, HT, HOK, hz, rfl⟩
  case round =>
    obtain ⟨i, k, A', n', c', him, rfl, rfl, hbr, HK, HKO, hkz, HG⟩ := hrel
    by_cases hi : i < m
    · obtain ⟨nm, hnm⟩ : ∃ nm, p[i]? = some nm := ⟨p[i]'(by have := HPL.out; omega), List.getElem?_eq_getElem _⟩
      have hdrop : p.drop i = nm :: p.drop (i + 1) := by
        obtain ⟨h1, h2⟩ := List.getElem?_eq_some_iff.1 hnm
        rw [List.drop_eq_getElem_cons h1, h2]
      cases B with
      | none => have := (HP.out.nil rfl).1; omega
      | some bd =>
        have r1 : w.cell? (bd.add i) = some (.string nm) := HP.out.cell bd rfl i _ (by simp [hnm])
        have q1 : wr.cell? (bd.add i) = some (.string nm) := (hbr.cell (by rw [add_block]; exact HB.out bd rfl)).trans r1
        have kb0 : (0 : Int) ≤ (i : Int) := by omega
        have kb1 : (i : Int) < (m : Int) := by omega
        obtain ⟨xs, hR, hA, hc', hk⟩ := HK.out
        have hns := hk.names
        have hn' : n' ≤ 1000000 := by have := HK.out.len; have := k.len_le; omega
        have cf : ∀ w', Below wr.heap.size wr w' → Calls Tryd.prog 30 #[.slice A' n' c', .string nm] w' (fun e w2 => e = .returned (.tuple #[.int .i64 (posL k.names nm : Int), .bool (hasL k.names nm)]) ∧ Below w'.heap.size w' w2) := fun w' hb' => by
          have hag : ∀ ad, A' = some ad → w'.heap[ad.block]? = w.heap[ad.block]? := fun ad e => by
            have hlt := HS.out _ (hA ad e)
            rw [hb'.block _ (by have := hbr.size; omega), hbr.block _ hlt]
          have := find_any w' A' n' c' xs nm (RV.agree hR hag) (fun ad e => by have := HS.out _ (hA ad e); have := hbr.size; have := hb'.size; omega) hn' (by rw [hns]; exact HKO.out.srt)
          rwa [hns] at this
        have HR := Lib.hid hR
        have HA := Lib.hid hA
        have HKS := Lib.hid hk
        have HNS := Lib.hid hns
        have HD := Lib.hid hdrop
        clear hR hA hk hns hdrop r1 hnm hc'
        cases hh : hasL k.names nm with
        | false =>
          rw [hh] at cf
          have CF := Lib.hid cf
          have HH := Lib.hid hh
          clear cf hh
          go_wp2_with (first | (go_at_call 30; ((with_reducible refine (CF.out _ (Below.refl _ _)).mono ?_); rintro e w1 ⟨rfl, hb1⟩)))
          go_ret2
          have hg : t.getp p = none := by rw [HG.out, HD.out, Tr.getp, Tr.get1, HH.out]; rfl
          rw [hg]
          exact ⟨rfl, bthen hbr (Nat.le_refl _) hb1⟩
        | true =>
          rw [hh] at cf
          have hat : ∃ kd, k.at? (posL k.names nm) = some (nm, kd) := by
            rw [hasL_iff, Tr.names_get] at hh
            cases hx : k.at? (posL k.names nm) with
            | none => rw [hx] at hh; cases hh
            | some x =>
              rw [hx] at hh
              simp only [Option.map_some, Option.some.injEq] at hh
              exact ⟨x.2, by rw [← hh]⟩
          obtain ⟨kd, hat⟩ := hat
          have hlen : posL k.names nm < k.len := by
            rw [hasL_iff] at hh
            have := (List.getElem?_eq_some_iff.1 hh).1
            rwa [Tr.names_length] at this
          obtain ⟨x, nm', kd', hx, hat', hnm', hTV⟩ := HKS.out.get (posL k.names nm) hlen
          rw [hat] at hat'
          simp only [Option.some.injEq, Prod.mk.injEq] at hat'
          obtain ⟨rfl, rfl⟩ := hat'
          obtain ⟨ad, rfl, _, r2⟩ := readV HR.out _ x hx
          have hq : ∀ w', Below wr.heap.size wr w' → w'.cell? ⟨(ad.add (posL k.names nm * 2)).block, (ad.add (posL k.names nm * 2)).off + 1, none⟩ = some (.slice x.A x.n x.c) := fun w' hb' => by
            have hlt := HS.out _ (HA.out ad rfl)
            rw [← add_block ad (posL k.names nm * 2)] at hlt
            rw [hb'.cell (by have := hbr.size; show (ad.add (posL k.names nm * 2)).block < _; omega), hbr.cell (by show (ad.add (posL k.names nm * 2)).block < _; omega)]
            exact r2
          have hg : t.getp p = kd.getp (p.drop (i + 1)) := by
            rw [HG.out, HD.out, Tr.getp, Tr.get1, hh, if_pos rfl, hat]
            rfl
          have hkn : (posL k.names nm : Int) < (n' : Int) := by have := HK.out.len; omega
          have hk0 : (0 : Int) ≤ (posL k.names nm : Int) := by omega
          have hok := HKO.out.kid hat
          have hkdz : kd.size ≤ 1000000 := by have := Tr.at_lt hat; omega
          have CF := Lib.hid cf
          have HQ := Lib.hid hq
          have HG2 := Lib.hid hg
          have HT2 := Lib.hid hTV
          have HO2 := Lib.hid hok
          clear cf hh hq hg hTV hok hat hx r2 hlen hnm'
          generalize posL k.names nm = pos at *
          go_wp2_with (first | (go_at_call 30; ((with_reducible refine (CF.out _ (Below.refl _ _)).mono ?_); rintro e w1 ⟨rfl, hb1⟩; have q2 := HQ.out w1 hb1)))
          exact ⟨⟨i + 1, kd, _, _, _, by omega, by go_num, rfl, bthen hbr (Nat.le_refl _) hb1, HT2, HO2, hkdz, HG2⟩, by simp [intOf]; omega⟩
    · obtain rfl : i = m := by omega
      go_wp2_with (first | (go_at_call 31; ((with_reducible refine (own_reads S _ k _ _ _ (HK.out.below HS.out hbr) (fun b hb => Nat.lt_of_lt_of_le (HS.out b hb) hbr.size) hkz).mono ?_); rintro e w1 ⟨A1, n1, c1, rfl, hb1, HT1⟩)))
      go_ret2
      have hg : t.getp p = some k := by rw [HG.out, List.drop_of_length_le (by rw [HPL.out]; exact Nat.le_refl _)]; rfl
      rw [hg]
      exact ⟨A1, n1, c1, rfl, bthen hbr (Nat.le_refl _) hb1, HT1.out.move (fun _ _ => rfl) fun b hb => ⟨by have := hbr.size; omega, hb.2⟩⟩
end Go.Proofs.YtpacfelhjjmmkaaDoor
end
section
open Go Go.RowKit
namespace Go.Kb
theorem firstCells_rv {P : Program} {w : World} {size n c : Nat} {A : Option Addr} {xs : List Value} (h : RV w size A n c xs) : (Builtin.firstCells size n (.slice A n c)).run P w = .ok xs.toArray w := by
  cases A with
  | some ad => exact run_firstCells_some w size n ad n c xs h.len (h.cell ad rfl)
  | none =>
    obtain ⟨rfl, rfl⟩ := h.nil rfl
    obtain rfl : xs = [] := List.eq_nil_of_length_eq_zero (by simpa using h.len)
    exact run_firstCells_none w size 0 0 0
theorem RV.drew {w : World} {size n c : Nat} {A : Option Addr} {xs : List Value} (h : RV w size A n c xs) : RV w.drew size A n c xs := h.below (bdrew (Below.refl _ _))
theorem src_rv {P : Program} {w : World} {size n c : Nat} {A : Option Addr} {xs : List Value} {tx e' : TypeId} (hk : P.underlying tx = some (.slice e')) (h : RV w size A n c xs) : Src P size tx (.slice A n c) n xs w :=
  ⟨.inl ⟨e', hk⟩, fun _ => rfl, firstCells_rv h, firstCells_rv h.drew, h.len, h.one⟩
theorem own_new {w : World} {e : TypeId} {size n c : Nat} {xs : List Value} {cur : Array Value} (hl : xs.length = n * size) (hnc : n ≤ c) (hc : c ≤ maxLen) (hs : cur.size = c * size) (ht : cur.toList.take (n * size) = xs) :
    (w.alloc (.cells cur e)).ownsRow w.heap.size e size (.slice (some ⟨w.heap.size, 0, none⟩) n c) n xs :=
  ⟨hl, .inr ⟨w.heap.size, c, cur, rfl, Nat.le_refl _, heap_alloc_new w _, hnc, hc, hs, ht⟩⟩
theorem wpList_grow {P : Program} {w : World} {ops : Array Oper} {rest : List Oper} {o : Oper} {a : Act} {Q : Exit → Act → World → Prop} (hgd : o.guard = none) (s x : Operand) (t tx : TypeId)
    (ho : o.op = .call { callee := .builtin .append, args := #[s, x], argTypes := #[t, tx] })
    (e e' : TypeId) (i : TypeInfo) (z : Value) (size bytes : Nat) (ht : P.underlying t = some (.slice e)) (htx : P.underlying tx = some (.slice e')) (hi : P.info? e = some i) (hz : i.zero = some z)
    (hsize : i.size = size) (hby : i.bytes = bytes) (hzs : z.cells.size = size)
    (A : Option Addr) (n c : Nat) (hs : a.eval s = .slice A n c) (olds : List Value) (hR : RV w size A n c olds) (B : Option Addr) (m d : Nat) (hx : a.eval x = .slice B m d) (news : List Value) (hR2 : RV w size B m d news)
    (hfull : c < n + m) (h63 : n + m ≤ maxLen) (hbytes : (n + m) * bytes ≤ 140737488355328)
    (h : ∀ c' w', w'.ownsRow w.heap.size e size (.slice (some ⟨w.heap.size, 0, none⟩) (n + m) c') (n + m) (olds ++ news) → Below w.heap.size w w' → wpList P ops Q rest (a.put o.dst (.slice (some ⟨w.heap.size, 0, none⟩) (n + m) c')) w') :
    wpList P ops Q (o :: rest) a w := by
  subst hsize
  subst hby
  refine wpList_plain hgd fun K hK' => ?_
  have h63' : n + m ≤ 9223372036854775807 := by simp only [maxLen] at h63; omega
  have hrun := run_append_grow_src (P := P) w t tx o.type e i z ht hi hz A n c olds (firstCells_rv hR.drew) (.slice B m d) m news (src_rv htx hR2) hfull (by omega) (growslice_fits hfull hbytes)
  unfold Oper.wp
  simp [execOp, ho, resolve, invoke, builtin, hs, hx, hrun, Result.andThen]
  refine hK' _ _ (h _ _ ?_ (balloc (bdrew (Below.refl _ _)) (Nat.le_refl _) _))
  have hl : (olds ++ news).length = (n + m) * i.size := by rw [List.length_append, hR.len, hR2.len, Nat.add_mul]
  have hge := grownCap_ge w (n + m) c e
  refine own_new (w := w.drew) hl hge (grownCap_le_maxLen w (n + m) c e h63) ?_ ?_
  · simp only [Array.size_append, List.size_toArray, size_zeroCells, hzs, hl, ← Nat.add_mul]
    congr 1
    omega
  · rw [Array.toList_append, ← hl]
    exact List.take_left
theorem wpList_grow_zeros {P : Program} {w : World} {ops : Array Oper} {rest : List Oper} {o : Oper} {a : Act} {Q : Exit → Act → World → Prop} (hgd : o.guard = none) (s x : Operand) (t tn : TypeId)
    (ho : o.op = .call { callee := .builtin .append, args := #[s, x], argTypes := #[t, tn] })
    (e : TypeId) (i : TypeInfo) (z : Value) (size bytes : Nat) (kn kq : IntKind) (ht : P.underlying t = some (.slice e)) (htn : P.underlying tn = some (.int kn)) (hi : P.info? e = some i) (hz : i.zero = some z)
    (hsize : i.size = size) (hby : i.bytes = bytes) (hzs : z.cells.size = size) (hsz : 0 < size)
    (A : Option Addr) (n c : Nat) (hs : a.eval s = .slice A n c) (olds : List Value) (hR : RV w size A n c olds) (m : Nat) (hm0 : 0 < m) (M : Int) (hx : a.eval x = .int kq M) (hM : M = (m : Int))
    (hfull : c < n + m) (h63 : n + m ≤ maxLen) (hbytes : (n + m) * bytes ≤ 140737488355328)
    (h : ∀ c' w', w'.ownsRow w.heap.size e size (.slice (some ⟨w.heap.size, 0, none⟩) (n + m) c') (n + m) (olds ++ (Builtin.zeroCells z.cells m).toList) → Below w.heap.size w w' → wpList P ops Q rest (a.put o.dst (.slice (some ⟨w.heap.size, 0, none⟩) (n + m) c')) w') :
    wpList P ops Q (o :: rest) a w := by
  subst hsize
  subst hby
  subst hM
  refine wpList_plain hgd fun K hK' => ?_
  have h63' : n + m ≤ 9223372036854775807 := by simp only [maxLen] at h63; omega
  have hmb : m * i.bytes ≤ (n + m) * i.bytes := Nat.mul_le_mul_right _ (Nat.le_add_left m n)
  have hrun := Lib.run_append_grow_zeros (P := P) w t tn o.type e i z kq kn ht htn hi hz A n c olds (firstCells_rv hR.drew) m hm0 hsz hfull (by omega) (by omega) (growslice_fits hfull hbytes)
  unfold Oper.wp
  simp [execOp, ho, resolve, invoke, builtin, hs, hx, hrun, Result.andThen]
  refine hK' _ _ (h _ _ ?_ (balloc (bdrew (Below.refl _ _)) (Nat.le_refl _) _))
  have hl : (olds ++ (Builtin.zeroCells z.cells m).toList).length = (n + m) * i.size := by rw [List.length_append, hR.len, Array.length_toList, size_zeroCells, hzs, Nat.add_mul]
  have hge := grownCap_ge w (n + m) c e
  refine own_new (w := w.drew) hl hge (grownCap_le_maxLen w (n + m) c e h63) ?_ ?_
  · simp only [Array.size_append, List.size_toArray, size_zeroCells, hzs, hR.len, ← Nat.add_mul]
    congr 1
    omega
  · simp only [Array.toList_append]
    rw [← List.append_assoc, ← hl]
    exact List.take_left
theorem run_copyK {P : Program} (w : World) (dT sT ty elem : TypeId) (size g o dLen dCap : Nat) (a : Addr) (sLen sCap : Nat) (cur : Array Value) (t : TypeId) (cs : List Value)
    (hu : P.underlying dT = some (.slice elem)) (hs : (P.info? elem).map (·.size) = some size)
    (hg : w.heap[g]? = some (.cells cur t (0, 0))) (hn : cs.length = Nat.min sLen dLen * size)
    (hsrc : ∀ j v, cs[j]? = some v → w.cell? (a.add j) = some v) (hfit : o + cs.length ≤ cur.size) (h1 : ∀ v ∈ cs, v.oneCell' = true) :
    (Builtin.copy_ #[dT, sT] ty #[.slice (some ⟨g, o, none⟩) dLen dCap, .slice (some a) sLen sCap]).run P w =
      .ok (goInt (Nat.min sLen dLen)) (w.setRow g (cur.toList.take o ++ cs ++ cur.toList.drop (o + cs.length)).toArray) := by
  have hl := run_loadCells_list (P := P) w a cs hsrc
  have hst := run_storeCells_at P g o t cs 0 cur w hg (by simpa using hfit) h1
  cases hq : P.info? elem with
  | none => simp [hq] at hs
  | some i =>
    have hi : i.size = size := by simpa [hq] using hs
    simp [Builtin.copy_, run_underlying hu, Builtin.lenOf, Builtin.firstCells, sizeOf, typeInfo, hq, hi, ← hn, hl, hst]
theorem own_cap {w : World} {base n c : Nat} {A : Option Addr} {e : TypeId} {size : Nat} {xs : List Value} (h : w.ownsRow base e size (.slice A n c) n xs) : n ≤ c ∧ c ≤ maxLen := by
  obtain ⟨A', c', he, h1, h2⟩ := own_form h
  injection he with e1 e2 e3
  subst e3
  exact ⟨h1, h2⟩
theorem splice_take {α : Type} (cur cs : List α) (off N : Nat) (hN : N ≤ cur.length) (h : off + cs.length ≤ N) :
    (cur.take off ++ cs ++ cur.drop (off + cs.length)).take N = (cur.take N).take off ++ cs ++ (cur.take N).drop (off + cs.length) := by
  have hl : (cur.take off ++ cs).length = off + cs.length := by rw [List.length_append, List.length_take]; omega
  rw [List.take_append, hl, List.take_of_length_le (by omega), List.drop_take, List.take_take, Nat.min_eq_left (by omega)]
theorem splice2 {α : Type} (U Z X D : List α) (hZ : Z.length = X.length + D.length) :
    ((((U ++ Z).take U.length ++ X ++ (U ++ Z).drop (U.length + X.length)).take (U.length + X.length)) ++ D ++
      (((U ++ Z).take U.length ++ X ++ (U ++ Z).drop (U.length + X.length)).drop (U.length + X.length + D.length))) = U ++ X ++ D := by
  have e1 : (U ++ Z).take U.length = U := List.take_left
  have e2 : (U ++ Z).drop (U.length + X.length) = Z.drop X.length := by rw [List.drop_append]; simp
  rw [e1, e2]
  have hl : (U ++ X).length = U.length + X.length := List.length_append
  have e3 : (U ++ X ++ Z.drop X.length).take (U.length + X.length) = U ++ X := by rw [← hl]; exact List.take_left
  have e4 : (U ++ X ++ Z.drop X.length).drop (U.length + X.length + D.length) = [] := by
    apply List.drop_eq_nil_of_le
    rw [List.length_append, hl, List.length_drop]
    omega
  rw [e3, e4, List.append_nil]
theorem below_own {w w1 w2 : World} {B g : Nat} (h : Below B w w1) (hg : w1.grownBy w2 (some g)) (hB : B ≤ g) (hs : B ≤ w1.heap.size) : Below B w w2 :=
  h.trans ⟨hg.os, hg.tape, hg.output, hg.size, fun k hk => hg.block k (by omega) (by simp; omega)⟩
theorem run_copy_ownK {P : Program} {w : World} (dT sT ty : TypeId) (e elem : TypeId) (size : Nat) (hu : P.underlying dT = some (.slice elem)) (hsz : (P.info? elem).map (·.size) = some size)
    (base g n c off dLen dCap : Nat) (xs : List Value) (hown : w.ownsRow base e size (.slice (some ⟨g, 0, none⟩) n c) n xs)
    (sLen sCap : Nat) (ad : Addr) (cs : List Value) (hn : cs.length = Nat.min sLen dLen * size)
    (hsrc : ∀ j v, cs[j]? = some v → w.cell? (ad.add j) = some v) (hfit : off + cs.length ≤ n * size) (h1 : ∀ v ∈ cs, v.oneCell' = true) :
    ∃ w', (Builtin.copy_ #[dT, sT] ty #[.slice (some ⟨g, off, none⟩) dLen dCap, .slice (some ad) sLen sCap]).run P w = .ok (goInt (Nat.min sLen dLen)) w' ∧
      w'.ownsRow base e size (.slice (some ⟨g, 0, none⟩) n c) n (xs.take off ++ cs ++ xs.drop (off + cs.length)) ∧ w.grownBy w' (some g) ∧ w'.heap.size = w.heap.size := by
  rcases hown.2 with ⟨h', _⟩ | ⟨g', cap', cur, h', hb, hg, hnc, hcm, hcs, htake⟩
  · cases h'
  simp only [Value.slice.injEq, Option.some.injEq, Addr.mk.injEq, and_true, true_and] at h'
  obtain ⟨rfl, rfl⟩ := h'
  have hle : n * size ≤ c * size := Nat.mul_le_mul_right _ hnc
  have hrun := run_copyK (P := P) w dT sT ty elem size g off dLen dCap ad sLen sCap cur e cs hu hsz hg hn hsrc (by omega) h1
  have hcl : cur.toList.length = c * size := by rw [Array.length_toList]; exact hcs
  have key : (cur.toList.take off ++ cs ++ cur.toList.drop (off + cs.length)).take (n * size) = xs.take off ++ cs ++ xs.drop (off + cs.length) := by
    rw [← htake]
    exact splice_take cur.toList cs off (n * size) (by omega) hfit
  refine ⟨_, hrun, ⟨?_, .inr ⟨g, c, (cur.toList.take off ++ cs ++ cur.toList.drop (off + cs.length)).toArray, rfl, hb, setRow_heap w g cur _ e _ hg, hnc, hcm, ?_, ?_⟩⟩, ⟨rfl, rfl, rfl, by simp [World.setRow], fun k _ hk => setRow_other w g k _ (fun e => hk (by simp [e]))⟩, by simp [World.setRow]⟩
  · rw [← key, List.length_take]
    simp only [List.length_append, List.length_take, List.length_drop, hcl]
    omega
  · simp only [List.size_toArray, List.length_append, List.length_take, List.length_drop, hcl]
    omega
  · exact key
theorem wpList_copyK {P : Program} {w : World} {ops : Array Oper} {rest : List Oper} {o : Oper} {a : Act} {Q : Exit → Act → World → Prop} (hgd : o.guard = none) (d s : Operand) (dT sT : TypeId)
    (ho : o.op = .call { callee := .builtin .copy, args := #[d, s], argTypes := #[dT, sT] }) (e elem : TypeId) (size : Nat) (hu : P.underlying dT = some (.slice elem)) (hsz : (P.info? elem).map (·.size) = some size)
    (base g n c off dLen dCap : Nat) (hd : a.eval d = .slice (some ⟨g, off, none⟩) dLen dCap) (ad : Addr) (sLen sCap : Nat) (hs : a.eval s = .slice (some ad) sLen sCap)
    (xs : List Value) (hown : w.ownsRow base e size (.slice (some ⟨g, 0, none⟩) n c) n xs) (cs : List Value) (hn : cs.length = Nat.min sLen dLen * size)
    (hsrc : ∀ j v, cs[j]? = some v → w.cell? (ad.add j) = some v) (hfit : off + cs.length ≤ n * size) (h1 : ∀ v ∈ cs, v.oneCell' = true)
    (h : ∀ w', w'.ownsRow base e size (.slice (some ⟨g, 0, none⟩) n c) n (xs.take off ++ cs ++ xs.drop (off + cs.length)) → w.grownBy w' (some g) → w'.heap.size = w.heap.size → wpList P ops Q rest (a.put o.dst (goInt (Nat.min sLen dLen))) w') :
    wpList P ops Q (o :: rest) a w := by
  refine wpList_plain hgd fun K hK => ?_
  obtain ⟨w', hrun, r1, r2, r3⟩ := run_copy_ownK (P := P) dT sT o.type e elem size hu hsz base g n c off dLen dCap xs hown sLen sCap ad cs hn hsrc hfit h1
  unfold Oper.wp
  simp [execOp, ho, resolve, invoke, builtin, hd, hs, hrun, Result.andThen]
  exact hK _ _ (h w' r1 r2 r3)
theorem step_copyK {P : Program} {ops : Array Oper} {o : Oper} {a : Act} {w : World} {K : Act → World → Prop} {Q : Exit → Act → World → Prop} {E : Prop} (hgd : o.guard = none) (d s : Operand) (dT sT : TypeId)
    (ho : o.op = .call { callee := .builtin .copy, args := #[d, s], argTypes := #[dT, sT] }) (e elem : TypeId) (size : Nat) (hu : P.underlying dT = some (.slice elem)) (hsz : (P.info? elem).map (·.size) = some size)
    (base g n c off dLen dCap : Nat) (hd : a.eval d = .slice (some ⟨g, off, none⟩) dLen dCap) (ad : Addr) (sLen sCap : Nat) (hs : a.eval s = .slice (some ad) sLen sCap)
    (xs : List Value) (hown : w.ownsRow base e size (.slice (some ⟨g, 0, none⟩) n c) n xs) (cs : List Value) (hn : cs.length = Nat.min sLen dLen * size)
    (hsrc : ∀ j v, cs[j]? = some v → w.cell? (ad.add j) = some v) (hfit : off + cs.length ≤ n * size) (h1 : ∀ v ∈ cs, v.oneCell' = true)
    (h : ∀ w', w'.ownsRow base e size (.slice (some ⟨g, 0, none⟩) n c) n (xs.take off ++ cs ++ xs.drop (off + cs.length)) → w.grownBy w' (some g) → w'.heap.size = w.heap.size → K (a.put o.dst (goInt (Nat.min sLen dLen))) w') :
    if Region.wanted o (yielded ops a.tmps) = true then Oper.wp P o a w K Q else E := by
  have hw : Region.wanted o (yielded ops a.tmps) = true := by simp [Region.wanted, hgd]
  rw [if_pos hw]
  obtain ⟨w', hrun, r1, r2, r3⟩ := run_copy_ownK (P := P) dT sT o.type e elem size hu hsz base g n c off dLen dCap xs hown sLen sCap ad cs hn hsrc hfit h1
  unfold Oper.wp
  simp [execOp, ho, resolve, invoke, builtin, hd, hs, hrun, Result.andThen]
  exact h w' r1 r2 r3
end Go.Kb
end
section
open Go Go.RowKit Go.Kb Go.Tr
namespace Go.Proofs.YtpacfelhjjmmkaaDoor
def InsPost (E : TypeId) (w : World) (n : Nat) (l : List EV) (e : Ending) (w' : World) : Prop :=
  ∃ c', e = .returned (.slice (some ⟨w.heap.size, 0, none⟩) (n + 1) c') ∧ Below w.heap.size w w' ∧ w'.ownsRow w.heap.size E 2 (.slice (some ⟨w.heap.size, 0, none⟩) (n + 1) c') (n + 1) (cellsV l)
set_option maxRecDepth 100000 in
set_option maxHeartbeats 1600000 in
theorem insert_any (w : World) (base g n i q : Nat) (xs : List EV) (x : EV) (hown : w.ownsRow base 41 2 (.slice (some ⟨g, 0, none⟩) n n) n (cellsV xs)) (hv : RV w 2 (some ⟨q, 0, none⟩) 1 1 (cellsV [x])) (hi : i ≤ n) (hn : n ≤ 1000000) :
    Calls Tryd.prog 96 #[.slice (some ⟨g, 0, none⟩) n n, .int .i64 i, .slice (some ⟨q, 0, none⟩) 1 1] w (InsPost 41 w n (xs.take i ++ x :: xs.drop i)) := by
  obtain ⟨i0, hif, hz0, hz1, hz2⟩ := info_parts info_edge
  have hxl : xs.length = n := by have := hown.1; rw [cellsV_length] at this; omega
  have HO := Lib.hid hown
  have HV := Lib.hid hv
  have HXL := Lib.hid hxl
  have hlim : (n + 1) * 40 ≤ 140737488355328 := by omega
  have hmax : n + 1 ≤ maxLen := by simp only [maxLen]; omega
  clear hown hv hxl
  by_cases hin : i = n
  · subst hin
    go_enter Tryd.func96, Tryd.ntmps96
    have tok1 : True := trivial
    go_wp2_with (first | (at_builtin; have _t := tok1; refine wpList_grow rfl _ _ 30 29 rfl 41 41 i0 _ 2 40 Tryd.underlying30 Tryd.underlying29 hif hz0 hz1 hz2 rfl _ _ _ rfl _ (own_rv' HO.out (cellsV_one _)) _ _ _ rfl _ HV.out (by omega) hmax hlim ?_; intro c1 w1 hown1 hb1; have HO1 := Lib.hid hown1; clear hown1 tok1))
    go_ret
    refine ⟨c1, rfl, hb1, ?_⟩
    have := HO1.out
    rw [← cellsV_append] at this
    rw [List.take_of_length_le (by rw [HXL.out]; exact Nat.le_refl _), List.drop_of_length_le (by rw [HXL.out]; exact Nat.le_refl _)]
    exact this
  · have hlt : (i : Int) < (n : Int) := by omega
    have hne : ((i : Int) == (n : Int)) = false := by simp; omega
    have hi0 : (0 : Int) ≤ (i : Int) := by omega
    have hsub : IntKind.i64.wrap ((n : Int) + 1 - (i : Int)) = ((n + 1 - i : Nat) : Int) := by rw [IntWalk.i64_in _ (by omega)]; omega
    have e1 : IntKind.i64.wrap ((n : Int) + 1) = (n : Int) + 1 := IntWalk.i64_in _ (by omega)
    have e2 : IntKind.i64.wrap ((i : Int) + 1) = (i : Int) + 1 := IntWalk.i64_in _ (by omega)
    go_enter Tryd.func96, Tryd.ntmps96
    have tok1 : True := trivial
    have tok2 : True := trivial
    have tok3 : True := trivial
    have hnm : i + (n + 1 - i) = n + 1 := by omega
    have hsub2 : (n + 1 - i : Nat) ≤ n + 1 := by omega
    have hpos : 0 < n + 1 - i := by omega
    have tE : (Tryd.prog.info? 41).map (·.size) = some 2 := by kernel_rfl
    go_wp2_with (first | (at_builtin; have _t := tok1; refine wpList_grow_zeros rfl _ _ 30 3 rfl 41 i0 _ 2 40 .i64 .i64 Tryd.underlying30 Tryd.underlying3 hif hz0 hz1 hz2 rfl (by decide) (some ⟨g, 0, none⟩) i n rfl _ ((own_rv' HO.out (cellsV_one _)).take i n hi hi (fun e => by cases e)) (n + 1 - i) hpos _ rfl rfl (by omega) (by omega) (by omega) ?_; intro c1 w1 hown1 hb1; rw [hnm] at hown1 ⊢; have hic : (i : Int) < (c1 : Int) := (by have := (own_cap hown1).1; omega); have hic1 : (i : Int) + 1 ≤ (c1 : Int) := (by omega); have hnc := (own_cap hown1).1; have HO1 := Lib.hid hown1; clear hown1 tok1) | (have _t := tok2; refine wpList_copyK rfl _ _ 30 29 rfl 41 41 2 Tryd.underlying30 tE w.heap.size w.heap.size (n + 1) c1 (i * 2) _ _ rfl _ _ _ rfl _ HO1.out (cellsV [x]) (by show 2 = _; have : Nat.min 1 (n + 1 - i) = 1 := Nat.min_eq_left hpos; rw [this]) (fun j v hj => (HV.out.below hb1).cell _ rfl j v hj) (by show i * 2 + 2 ≤ _; omega) (cellsV_one _) ?_; intro w2 hown2 hg2 hs2; have HO2 := Lib.hid hown2; clear hown2 tok2))
    have hgl := (HO.out.lt g rfl).2
    have hRS : ∀ j u, ((cellsV xs).drop (i * 2))[j]? = some u → w2.cell? ((⟨g, i * 2, none⟩ : Addr).add j) = some u := by
      intro j u hj
      rw [List.getElem?_drop] at hj
      have h0 := (own_rv' HO.out (cellsV_one _)).cell _ rfl _ _ hj
      have ha : (⟨g, i * 2, none⟩ : Addr).add j = (⟨g, 0, none⟩ : Addr).add (i * 2 + j) := by
        have := add_add ⟨g, 0, none⟩ (i * 2) j
        have e0 : (⟨g, 0, none⟩ : Addr).add (i * 2) = ⟨g, i * 2, none⟩ := by rw [Addr.add_lit, Nat.zero_add]
        rw [← this, e0]
      rw [ha, ← h0]
      refine World.cell?_of_block ?_
      rw [add_block]
      show w2.heap[g]? = w.heap[g]?
      rw [hg2.block g (by have := hb1.size; omega) (by simp; omega), hb1.block g hgl]
    have HRS := Lib.hid hRS
    clear hRS
    have hlen2 : ((cellsV xs).drop (i * 2)).length = Nat.min (n - i) (n - i) * 2 := by
      rw [List.length_drop, cellsV_length, HXL.out]
      have : Nat.min (n - i) (n - i) = n - i := by show min _ _ = _; omega
      rw [this]; omega
    have HL2 := Lib.hid hlen2
    clear hlen2
    have hi10 : (0 : Int) ≤ (i : Int) + 1 := by omega
    have hcne : ¬ (c1 = i + 1) := by omega
    go_region_law (refine step_copyK rfl (.tmp 50) (.tmp 53) 30 30 rfl 41 41 2 Tryd.underlying30 tE w.heap.size w.heap.size (n + 1) c1 ((i + 1) * 2) (n - i) (c1 - (i + 1)) (by simp [Act.eval, Act.put]) ⟨g, i * 2, none⟩ (n - i) (n - i) (by simp [Act.eval, Act.put]; omega) _ HO2.out ((cellsV xs).drop (i * 2)) HL2.out HRS.out (by rw [HL2.out]; have : Nat.min (n - i) (n - i) = n - i := (by show min _ _ = _; omega); rw [this]; omega) (fun v hv => cellsV_one _ v (List.mem_of_mem_drop hv)) ?_; intro w3 hown3 hg3 hs3; have HO3 := Lib.hid hown3; clear hown3)
    go_wp2_with fail
    go_ret
    refine ⟨c1, rfl, below_own (bdrew (below_own hb1 hg2 (Nat.le_refl _) hb1.size)) hg3 (Nat.le_refl _) (by show _ ≤ w2.heap.size; rw [hs2]; exact hb1.size), ?_⟩
    have hU : ((cellsV xs).take (i * 2)).length = i * 2 := by rw [List.length_take, cellsV_length, HXL.out]; omega
    have hD : ((cellsV xs).drop (i * 2)).length = (n - i) * 2 := by rw [List.length_drop, cellsV_length, HXL.out]; omega
    have hsp := splice2 ((cellsV xs).take (i * 2)) (Builtin.zeroCells (Value.agg #[Value.string ⟨#[]⟩, Value.slice none 0 0]).cells (n + 1 - i)).toList (cellsV [x]) ((cellsV xs).drop (i * 2)) (by
      rw [Array.length_toList, size_zeroCells, hD]
      show _ * 2 = 2 + _
      omega)
    rw [hU, hD, show (cellsV [x]).length = 2 from rfl] at hsp
    have hfin := HO3.out
    rw [hD, show (i + 1) * 2 = i * 2 + 2 by omega] at hfin
    rw [cellsV_append, cellsV_take, show cellsV (x :: List.drop i xs) = cellsV [x] ++ cellsV (List.drop i xs) from cellsV_append [x] _, cellsV_drop, ← List.append_assoc, ← hsp]
    exact hfin
end Go.Proofs.YtpacfelhjjmmkaaDoor
end
section
open Go Go.RowKit Go.Kb Go.Tr
namespace Go.Proofs.YtpacfelhjjmmkaaDoor
def ClonePost (w : World) (size n : Nat) (l : List Value) (e : Ending) (w' : World) : Prop :=
  ∃ A' c', e = .returned (.slice A' n c') ∧ Below w.heap.size w w' ∧ RV w' size A' n c' l ∧ (∀ ad, A' = some ad → w.heap.size ≤ ad.block ∧ ad.block < w'.heap.size) ∧ c' ≤ maxLen
set_option maxRecDepth 100000 in
theorem clone_any (w : World) (A : Option Addr) (n c : Nat) (l : List Value) (hR : RV w 2 A n c l) (hn : n ≤ 1000000) :
    Calls Tryd.prog 97 #[.slice A n c] w (ClonePost w 2 n l) := by
  obtain ⟨i0, hif, hz0, hz1, hz2⟩ := info_parts info_edge
  have hnil := fun w' a l c => Lib.run_eql_slice_nil (P := Tryd.prog) w' 30 41 a l c 0 0 Tryd.underlying30
  have HR := Lib.hid hR
  cases A with
  | none =>
    obtain ⟨rfl, rfl⟩ := hR.nil rfl
    obtain rfl : l = [] := List.eq_nil_of_length_eq_zero (by simpa using hR.len)
    clear hR
    go_enter Tryd.func97, Tryd.ntmps97
    go_wp2_with fail
    go_ret
    exact ⟨none, 0, rfl, Below.refl _ _, HR.out, (fun ad e => by cases e), by simp [maxLen]⟩
  | some ad =>
    clear hR
    go_enter Tryd.func97, Tryd.ntmps97
    go_wp2_with (first | (at_builtin; refine wpList_ap rfl _ _ 30 rfl w.heap.size 41 i0 _ 2 40 Tryd.underlying30 hif hz0 hz1 hz2 rfl (by decide) _ rfl _ _ _ rfl 0 [] (own_new (w := w) (cur := #[]) rfl (Nat.le_refl _) (by simp [maxLen]) rfl rfl) l (HR.out.below (balloc (Below.refl _ _) (Nat.le_refl _) _)) (by simp only [maxLen]; omega) (by omega) (by simp) ?_; intro A1 c1 w1 hown1 hg1; have HO1 := Lib.hid hown1; clear hown1))
    go_ret
    have h := HO1.out
    rw [Nat.zero_add, List.nil_append] at h
    obtain ⟨A', c', he, hR', hcm, hbl⟩ := own_rv h HR.out.one
    injection he with e1 _ e3
    subst e1
    subst e3
    exact ⟨A1, c1, rfl, below_own (balloc (Below.refl _ _) (Nat.le_refl _) _) hg1 (Nat.le_refl _) (by simp), hR', fun ad e => ⟨(hbl ad e).1, (hbl ad e).2.1⟩, hcm⟩
end Go.Proofs.YtpacfelhjjmmkaaDoor
end
section
open Go Go.RowKit Go.Kb Go.Tr
namespace Go.Proofs.YtpacfelhjjmmkaaDoor
def PutPost (w : World) (t : Tr) (e : Ending) (w' : World) : Prop := ∃ A n c, e = .returned (.slice A n c) ∧ Below w.heap.size w w' ∧ TV (fun b => w.heap.size ≤ b ∧ b < w'.heap.size) w' t A n c
theorem own_w (w : World) (t : Tr) (A : Option Addr) (n c : Nat) (hT : TVw w t A n c) (hz : t.size ≤ 1000000) :
    Calls Tryd.prog 31 #[.slice A n c] w (PutPost w t) :=
  (own_any (t.size + 1) t (Nat.lt_succ_self _) hz _ w A n c hT (fun _ h => h)).mono fun _ _ h => own_tv h hz
def PutMid (w w1 : World) (t : Tr) (nm : ByteArray) (s7 s8 : Value) (wx : World) : Prop :=
  ∃ (G n' c' : Nat) (xs2 : List EV) (y : EV), s7 = .slice (some ⟨G, 0, none⟩) n' c' ∧ s8 = .int .i64 (posL t.names nm : Int) ∧ Below w.heap.size w wx ∧ w.heap.size ≤ G ∧
    wx.ownsRow w.heap.size 41 2 (.slice (some ⟨G, 0, none⟩) n' c') n' (cellsV xs2) ∧ xs2[posL t.names nm]? = some y ∧ y.nm = nm ∧ n' ≤ 900001 ∧
    TV (fun b => w.heap.size < b ∧ b < w1.heap.size) wx ((t.get1 nm).getD .nil) y.A y.n y.c ∧ (∀ b, w.heap.size < b ∧ b < w1.heap.size → b < wx.heap.size ∧ b ≠ G) ∧
    ∀ (S' : Nat → Prop) (w' : World) (x' : Tr) (A : Option Addr) (n c : Nat), (∀ b, w.heap.size < b ∧ b < w1.heap.size → S' b ∧ w'.heap[b]? = wx.heap[b]?) → TV S' w' x' A n c → KidsAt S' w' (t.set1 nm x') (xs2.set (posL t.names nm) ⟨nm, A, n, c⟩)
theorem own_mono {w : World} {base base' : Nat} {e : TypeId} {size : Nat} {v : Value} {n : Nat} {xs : List Value} (h : w.ownsRow base e size v n xs) (hb : base' ≤ base) : w.ownsRow base' e size v n xs := by
  refine ⟨h.1, ?_⟩
  rcases h.2 with h | ⟨g, cap, cur, e1, hg, r⟩
  · exact .inl h
  · exact .inr ⟨g, cap, cur, e1, Nat.le_trans hb hg, r⟩
theorem put_mid_true {w w1 w2 : World} {t : Tr} {nm : ByteArray} {xs : List EV} (hk : KidsAt (fun b => w.heap.size < b ∧ b < w1.heap.size) w1 t xs)
    (ho : w1.ownsRow w.heap.size 41 2 (.slice (some ⟨w.heap.size, 0, none⟩) t.len t.len) t.len (cellsV xs)) (_hlt : w.heap.size < w1.heap.size) (hb1 : Below w.heap.size w w1) (hb2 : Below w1.heap.size w1 w2) (hh : hasL t.names nm = true) (hz : t.size ≤ 900000) :
    ∃ (G n' c' : Nat) (xs2 : List EV) (y : EV), (.slice (some ⟨w.heap.size, 0, none⟩) t.len t.len : Value) = .slice (some ⟨G, 0, none⟩) n' c' ∧ Below w.heap.size w w2 ∧ w.heap.size ≤ G ∧
    w2.ownsRow w.heap.size 41 2 (.slice (some ⟨G, 0, none⟩) n' c') n' (cellsV xs2) ∧ xs2[posL t.names nm]? = some y ∧ y.nm = nm ∧ n' ≤ 900001 ∧
    TV (fun b => w.heap.size < b ∧ b < w1.heap.size) w2 ((t.get1 nm).getD .nil) y.A y.n y.c ∧ (∀ b, w.heap.size < b ∧ b < w1.heap.size → b < w2.heap.size ∧ b ≠ G) ∧
    ∀ (S' : Nat → Prop) (w' : World) (x' : Tr) (A : Option Addr) (n c : Nat), (∀ b, w.heap.size < b ∧ b < w1.heap.size → S' b ∧ w'.heap[b]? = w2.heap[b]?) → TV S' w' x' A n c → KidsAt S' w' (t.set1 nm x') (xs2.set (posL t.names nm) ⟨nm, A, n, c⟩) := by
  have hlen : posL t.names nm < t.len := by
    rw [hasL_iff] at hh
    have := (List.getElem?_eq_some_iff.1 hh).1
    rwa [Tr.names_length] at this
  obtain ⟨y, nm', kd, hy, hat, hyn, hTV⟩ := hk.get _ hlen
  have hnm : nm' = nm := by
    rw [hasL_iff, Tr.names_get, hat] at hh
    simpa using hh
  subst hnm
  have hg : t.get1 nm' = some kd := by rw [Tr.get1, if_pos hh, hat]; rfl
  have hsz := hb2.size
  refine ⟨w.heap.size, t.len, t.len, xs, y, rfl, bthen hb1 (Nat.le_refl _) hb2, Nat.le_refl _, ho.kept (grown_of_below hb2 none) (.inr (by simp [Value.ownBlock])), hy, hyn, by have := t.len_le; omega, ?_, fun b hb => ⟨by omega, by omega⟩, ?_⟩
  · rw [hg]
    exact hTV.move (fun b hb => hb2.block b hb.2) fun _ hb => hb
  · intro S' w' x' A n c hag hx'
    exact KidsAt.has (fun b hb => by rw [(hag b hb).2, hb2.block b hb.2]) (fun b hb => (hag b hb).1) hx' hk hh
theorem put_mid_false {w w1 w2 w3 : World} {t : Tr} {nm : ByteArray} {xs : List EV} {o : Obj} {c3 : Nat} (hk : KidsAt (fun b => w.heap.size < b ∧ b < w1.heap.size) w1 t xs)
    (hb1 : Below w.heap.size w w1) (hlt : w.heap.size < w1.heap.size) (hb2 : Below w1.heap.size w1 w2) (hb3 : Below (w2.alloc o).heap.size (w2.alloc o) w3) (hh : hasL t.names nm = false) (hz : t.size ≤ 900000)
    (ho : w3.ownsRow (w2.alloc o).heap.size 41 2 (.slice (some ⟨(w2.alloc o).heap.size, 0, none⟩) (t.len + 1) c3) (t.len + 1) (cellsV (xs.take (posL t.names nm) ++ ⟨nm, none, 0, 0⟩ :: xs.drop (posL t.names nm)))) :
    ∃ (G n' c' : Nat) (xs2 : List EV) (y : EV), (.slice (some ⟨w2.heap.size + 1, 0, none⟩) (t.len + 1) c3 : Value) = .slice (some ⟨G, 0, none⟩) n' c' ∧ Below w.heap.size w w3 ∧ w.heap.size ≤ G ∧
    w3.ownsRow w.heap.size 41 2 (.slice (some ⟨G, 0, none⟩) n' c') n' (cellsV xs2) ∧ xs2[posL t.names nm]? = some y ∧ y.nm = nm ∧ n' ≤ 900001 ∧
    TV (fun b => w.heap.size < b ∧ b < w1.heap.size) w3 ((t.get1 nm).getD .nil) y.A y.n y.c ∧ (∀ b, w.heap.size < b ∧ b < w1.heap.size → b < w3.heap.size ∧ b ≠ G) ∧
    ∀ (S' : Nat → Prop) (w' : World) (x' : Tr) (A : Option Addr) (n c : Nat), (∀ b, w.heap.size < b ∧ b < w1.heap.size → S' b ∧ w'.heap[b]? = w3.heap[b]?) → TV S' w' x' A n c → KidsAt S' w' (t.set1 nm x') (xs2.set (posL t.names nm) ⟨nm, A, n, c⟩) := by
  have hp := posL_le t.names nm
  rw [Tr.names_length] at hp
  have hxl := hk.len
  have hsz := hb2.size
  have hs3 := hb3.size
  have hsa : (w2.alloc o).heap.size = w2.heap.size + 1 := by simp
  have hl1 : (xs.take (posL t.names nm)).length = posL t.names nm := by rw [List.length_take]; omega
  have hag3 : ∀ b, b < w1.heap.size → w3.heap[b]? = w1.heap[b]? := fun b hb => by
    rw [hb3.block b (by omega), ← hb2.block b hb]
    exact (balloc (Below.refl _ w2) (Nat.le_refl _) o).block b (by omega)
  rw [hsa] at ho
  refine ⟨_, _, _, _, ⟨nm, none, 0, 0⟩, rfl, bthen (balloc (bthen hb1 (Nat.le_refl _) hb2) (Nat.le_refl _) o) (Nat.le_refl _) hb3, by omega, own_mono ho (by omega), ?_, rfl, by have := t.len_le; omega, ?_, fun b hb => ⟨by omega, by omega⟩, ?_⟩
  · rw [List.getElem?_append_right (by omega), hl1, Nat.sub_self]
    rfl
  · have hg : t.get1 nm = none := by rw [Tr.get1, hh]; rfl
    rw [hg]
    exact ⟨[], ⟨rfl, Nat.le_refl _, fun _ => ⟨rfl, rfl⟩, (fun _ e => by cases e), (fun u hu => by cases hu)⟩, (fun _ e => by cases e), by simp [maxLen], rfl⟩
  · intro S' w' x' A n c hag hx'
    have := KidsAt.hasnt (S' := S') (w' := w') (fun b hb => by rw [(hag b hb).2, hag3 b hb.2]) (fun b hb => (hag b hb).1) hx' hk hh
    rw [List.set_append_right _ _ (by omega), hl1, Nat.sub_self]
    exact this
theorem set_same {α : Type} : ∀ (l : List α) (i : Nat) (a : α), l[i]? = some a → l.set i a = l := by
  intro l
  induction l with
  | nil => intro i a h; simp at h
  | cons b l ih =>
    intro i a h
    cases i with
    | zero => simp at h; subst h; rfl
    | succ i => rw [List.set_cons_succ, ih i a (by simpa using h)]
theorem put_laid {wq w5 : World} {base G n' c' pos : Nat} {E : TypeId} {xs2 : List EV} {y : EV} {nm : ByteArray} (A5 : Option Addr) (n5 c5 : Nat) (hox : wq.ownsRow base E 2 (.slice (some ⟨G, 0, none⟩) n' c') n' (cellsV xs2)) (hy : xs2[pos]? = some y) (hyn : y.nm = nm)
    (hb5 : Below wq.heap.size wq w5) :
    (w5.setCell ⟨G, pos * 2 + 1, none⟩ (.slice A5 n5 c5)).ownsRow base E 2 (.slice (some ⟨G, 0, none⟩) n' c') n' (cellsV (xs2.set pos ⟨nm, A5, n5, c5⟩)) ∧
    w5.grownBy (w5.setCell ⟨G, pos * 2 + 1, none⟩ (.slice A5 n5 c5)) (some G) ∧ (w5.setCell ⟨G, pos * 2 + 1, none⟩ (.slice A5 n5 c5)).heap.size = w5.heap.size := by
  have h5 := hox.kept (grown_of_below hb5 none) (.inr (by simp [Value.ownBlock]))
  obtain ⟨h6, g6⟩ := h5.stored (pos * 2 + 1) (.slice A5 n5 c5)
  refine ⟨?_, g6, by simp⟩
  have hs := set_same (cellsV xs2) (pos * 2) (.string nm) (by rw [(cellsV_get xs2 pos y hy).1, hyn])
  rw [cellsV_set]
  simp only
  rw [hs]
  exact h6
theorem put_end {w w1 wq w5 w7 : World} {G n' c' pos base : Nat} {E : TypeId} {xs2 : List EV} {y : EV} {nm : ByteArray} {t x' : Tr} {A5 A7 : Option Addr} {n5 c5 c7 : Nat}
    (hbx : Below w.heap.size w wq) (hG : w.heap.size ≤ G) (hox : wq.ownsRow base E 2 (.slice (some ⟨G, 0, none⟩) n' c') n' (cellsV xs2)) (hy : xs2[pos]? = some y) (hyn : y.nm = nm)
    (hSx : ∀ b, w.heap.size < b ∧ b < w1.heap.size → b < wq.heap.size ∧ b ≠ G)
    (hKx : ∀ (S' : Nat → Prop) (w' : World) (x' : Tr) (A : Option Addr) (n c : Nat), (∀ b, w.heap.size < b ∧ b < w1.heap.size → S' b ∧ w'.heap[b]? = wq.heap[b]?) → TV S' w' x' A n c → KidsAt S' w' (t.set1 nm x') (xs2.set pos ⟨nm, A, n, c⟩))
    (hb5 : Below wq.heap.size wq w5) (hT5 : TV (fun b => wq.heap.size ≤ b ∧ b < w5.heap.size) w5 x' A5 n5 c5)
    (hb7 : Below (w5.setCell ⟨G, pos * 2 + 1, none⟩ (.slice A5 n5 c5)).heap.size (w5.setCell ⟨G, pos * 2 + 1, none⟩ (.slice A5 n5 c5)) w7)
    (hR7 : RV w7 2 A7 n' c7 (cellsV (xs2.set pos ⟨nm, A5, n5, c5⟩))) (hA7 : ∀ ad, A7 = some ad → (w5.setCell ⟨G, pos * 2 + 1, none⟩ (.slice A5 n5 c5)).heap.size ≤ ad.block ∧ ad.block < w7.heap.size) (hc7 : c7 ≤ maxLen) :
    Below w.heap.size w w7 ∧ TV (fun b => w.heap.size ≤ b ∧ b < w7.heap.size) w7 (t.set1 nm x') A7 n' c7 := by
  obtain ⟨_, hg6, hs6⟩ := put_laid A5 n5 c5 hox hy hyn hb5
  have hGs := (hox.lt G rfl).2
  have h0 := hbx.size
  have h1 := hb5.size
  have h2 := hb7.size
  have hb : Below w.heap.size w w7 := bthen (below_own (bthen hbx (Nat.le_refl _) hb5) hg6 hG (by omega)) (Nat.le_refl _) hb7
  have hag : ∀ b, b ≠ G → b < w5.heap.size → w7.heap[b]? = w5.heap[b]? := fun b hne hlt => by
    rw [hb7.block b (by omega), hg6.block b hlt (by simp; omega)]
  refine ⟨hb, _, hR7, fun ad e => ⟨by have := (hA7 ad e).1; omega, (hA7 ad e).2⟩, hc7, hKx _ _ _ _ _ _ (fun b hb' => ?_) (hT5.move (fun b hb' => hag b (by omega) hb'.2) fun b hb' => ⟨by omega, by omega⟩)⟩
  have := hSx b hb'
  refine ⟨⟨by omega, by omega⟩, ?_⟩
  rw [hag b this.2 (by omega), hb5.block b this.1]
set_option maxRecDepth 100000 in
set_option maxHeartbeats 1600000 in
theorem put_any : ∀ (p : List ByteArray) (w : World) (t x : Tr) (A : Option Addr) (n c : Nat) (B : Option Addr) (m d : Nat) (C : Option Addr) (k e : Nat), TVw w t A n c → TVw w x C k e → t.ok → t.size ≤ 900000 → x.size ≤ 900000 →
    RV w 1 B m d (p.map Value.string) → (∀ ad, B = some ad → ad.block < w.heap.size) → m ≤ 1000000 →
    Calls Tryd.prog 77 #[.slice A n c, .slice B m d, .slice C k e] w (PutPost w (t.putp p x)) := by
  intro p
  induction p with
  | nil =>
    intro w t x A n c B m d C k e hT hX ht hz hxz hP hB hm
    obtain rfl : m = 0 := by have := hP.len; simpa using this.symm
    have HX := Lib.hid hX
    clear hT hX ht hP hB
    go_enter Tryd.func77, Tryd.ntmps77
    go_wp2_with (first | (go_at_call 31; ((with_reducible refine (own_w _ x _ _ _ HX.out (by omega)).mono ?_); rintro e w1 ⟨A1, n1, c1, rfl, hb1, hT1⟩; have HT1 := Lib.hid hT1; clear hT1)))
    go_ret
    exact ⟨A1, n1, c1, rfl, hb1, HT1.out⟩
  | cons nm p ih =>
    intro w t x A n c B m d C k e hT hX ht hz hxz hP hB hm
    have hpl : p.length + 1 = m := by have := hP.len; simpa using this
    cases B with
    | none => have := (hP.nil rfl).1; omega
    | some bd =>
    have hm1 : 0 < m := by omega
    have hcap := hP.cap
    have hbd := hB bd rfl
    have r0 : w.cell? bd = some (.string nm) := by
      have h0 := hP.cell bd rfl 0 (.string nm) (by simp)
      unfold Addr.add at h0
      simpa using h0
    have hm0 : ((m : Int) == 0) = false := by simp; omega
    have HT := Lib.hid hT
    have HX := Lib.hid hX
    have HOK := Lib.hid ht
    have HP := Lib.hid hP
    have IH := Lib.hid ih
    clear hT hX ht hP hB ih
    go_enter Tryd.func77, Tryd.ntmps77
    go_upto_region 4 with (first | (go_at_call 31; ((with_reducible refine (own_any (t.size + 1) t (Nat.lt_succ_self _) (by omega) (fun b => b < w.heap.size) w A n c HT.out (fun _ h => h)).mono ?_); rintro e1 w1 ⟨xs, rfl, hb1, hlt1, hown1, hk1⟩; have HO1 := Lib.hid hown1; have HK1 := Lib.hid hk1; clear hown1 hk1)))
    have hns := HK1.out.names
    have r1 : w1.cell? bd = some (.string nm) := (hb1.cell hbd).trans r0
    have cf : Calls Tryd.prog 30 #[.slice (some ⟨w.heap.size, 0, none⟩) t.len t.len, .string nm] w1 (fun e w2 => e = .returned (.tuple #[.int .i64 (posL t.names nm : Int), .bool (hasL t.names nm)]) ∧ Below w1.heap.size w1 w2) := by
      have := find_any w1 (some ⟨w.heap.size, 0, none⟩) t.len t.len xs nm (own_rv' HO1.out (cellsV_one _)) (fun ad e => by injection e with e; subst e; exact hlt1) (by have := t.len_le; omega) (by rw [hns]; exact HOK.out.srt)
      rwa [hns] at this
    obtain ⟨hv, hhv⟩ : ∃ hv, hasL t.names nm = hv := ⟨_, rfl⟩
    rw [hhv] at cf
    have CF := Lib.hid cf
    have HH := Lib.hid hhv
    have HPOS : Hid (posL t.names nm ≤ t.len) := Lib.hid (by have := posL_le t.names nm; rwa [Tr.names_length] at this)
    clear cf hhv hns
    go_upto_region 5 with (first | (go_at_call 30; ((with_reducible refine CF.out.mono ?_); rintro e2 w2 ⟨rfl, hb2⟩)))
    cases hv
    case' true =>
      go_upto_region 7 with fail
      obtain ⟨G, n', c', xs2, y, e7, hbx, hG, hox, hy, hyn, hnx, hTy, hSx, hKx⟩ := put_mid_true HK1.out HO1.out hlt1 hb1 hb2 HH.out (by omega)
    case' false =>
      have r2 : w2.cell? bd = some (.string nm) := (hb2.cell (Nat.lt_of_lt_of_le hbd hb1.size)).trans r1
      have hpl := HPOS.out
      have hvv : RV (w2.alloc (.cells #[.string nm, .slice none 0 0] 41)) 2 (some ⟨w2.heap.size, 0, none⟩) 1 1 (cellsV [⟨nm, none, 0, 0⟩]) := rv_at (cs := [.string nm, .slice none 0 0]) (heap_alloc_new _ _) (by simp [Value.oneCell']) 2 1 rfl 1 (Nat.le_refl _)
      have hoo : (w2.alloc (.cells #[.string nm, .slice none 0 0] 41)).ownsRow w.heap.size 41 2 (.slice (some ⟨w.heap.size, 0, none⟩) t.len t.len) t.len (cellsV xs) := (HO1.out.kept (grown_of_below hb2 none) (.inr (by simp [Value.ownBlock]))).alloc _
      have HVV := Lib.hid hvv
      have HOO := Lib.hid hoo
      have htl : t.len ≤ 1000000 := by have := t.len_le; omega
      clear hvv hoo
      go_upto_region 7 with (first | (go_at_call 96; ((with_reducible refine (insert_any _ _ _ _ _ _ xs ⟨nm, none, 0, 0⟩ HOO.out HVV.out hpl htl).mono ?_); rintro e3 w3 ⟨c3, rfl, hb3, hown3⟩; have HO3 := Lib.hid hown3; clear hown3)))
      obtain ⟨G, n', c', xs2, y, e7, hbx, hG, hox, hy, hyn, hnx, hTy, hSx, hKx⟩ := put_mid_false HK1.out hb1 hlt1 hb2 hb3 HH.out (by omega) HO3.out
    case' true =>
      clear hb2
      obtain ⟨wq, rfl⟩ : ∃ wq : World, wq = w2 := ⟨_, rfl⟩
    case' false =>
      clear hb3 r2 HVV HOO HO3 htl hpl
      obtain ⟨wq, rfl⟩ : ∃ wq : World, wq = w3 := ⟨_, rfl⟩
    all_goals (rw [e7]; clear e7)
    all_goals
      have hyx := hox.1
      rw [cellsV_length] at hyx
      have hpn : posL t.names nm < n' := by
        have := (List.getElem?_eq_some_iff.1 hy).1
        omega
      obtain ⟨v1, v2⟩ := cellsV_get xs2 _ y hy
      have c1 : wq.cell? ⟨G, posL t.names nm * 2, none⟩ = some (.string y.nm) := (hox.cellAt _ (by omega)).trans v1
      have c2 : wq.cell? ⟨G, posL t.names nm * 2 + 1, none⟩ = some (.slice y.A y.n y.c) := (hox.cellAt _ (by omega)).trans v2
      have f1 := hox.frozenAt (posL t.names nm * 2)
      have f2 := hox.frozenAt (posL t.names nm * 2 + 1)
      have hGs : G < wq.heap.size := (hox.lt G rfl).2
      have hkid : ((t.get1 nm).getD .nil).ok ∧ ((t.get1 nm).getD .nil).size ≤ 900000 := by
        cases hg : t.get1 nm with
        | none => exact ⟨trivial, Nat.zero_le _⟩
        | some kd => exact ⟨Tr.get1_ok HOK.out hg, by have := Tr.get1_lt hg; show kd.size ≤ _; omega⟩
      have hm1' : (1 : Int) ≤ (m : Int) := by omega
      have hd1' : 1 ≤ d := by omega
      have hadd : bd.add 1 = ⟨bd.block, bd.off + 1, none⟩ := by unfold Addr.add; rw [if_neg (by omega)]
      have cp : ∀ B' D, (B' = some (if d = 1 then bd else ⟨bd.block, bd.off + 1, none⟩)) → (D = d - 1) → ∀ W', Below wq.heap.size wq W' → Calls Tryd.prog 77 #[.slice y.A y.n y.c, .slice B' (m - 1) D, .slice C k e] W' (PutPost W' (((t.get1 nm).getD .nil).putp p x)) := fun B' D hB' hD W' hW => by
        subst hD
        rw [← hadd] at hB'
        subst hB'
        refine IH.out W' _ x y.A y.n y.c _ (m - 1) (d - 1) C k e ?_ (HX.out.below (bthen hbx (Nat.le_refl _) hW)) hkid.1 hkid.2 hxz ?_ ?_ (by omega)
        · exact TVw.below (hTy.w fun b hb => (hSx b hb).1) hW
        · have h1 := (HP.out.below (bthen hbx (Nat.le_refl _) hW)).drop 1 (d - 1) (by omega) (some (if d = 1 then bd else bd.add 1)) (fun ad e => by
            injection e with e
            subst e
            by_cases hd : d = 1
            · exact .inl (by omega)
            · exact .inr (by rw [if_neg hd, Nat.mul_one])) (fun e => by cases e)
          simpa using h1
        · intro ad e
          injection e with e
          subst e
          have := hbx.size
          have := hW.size
          split
          · omega
          · rw [add_block]; omega
      have HOX := Lib.hid hox
      have HCP := Lib.hid cp
      have HKX := Lib.hid hKx
      have HY := Lib.hid hy
      clear hox cp hKx hy v1 v2 hTy hyx r0 r1 hadd
    case' true => generalize posL t.names nm = pos at *
    case' false => generalize posL t.names nm = pos at *
    all_goals
      have hpi : (pos : Int) < (n' : Int) := by omega
      have hp0 : (0 : Int) ≤ (pos : Int) := by omega
      by_cases hd : d = 1
    all_goals
      go_region_with (go_at_call 77; ((with_reducible refine (HCP.out _ _ (by simp [hd]) (by simp [hd]) _ (bdrew (Below.refl _ _))).mono ?_); rintro e5 w5 ⟨A5, n5, c5, rfl, hb5, hT5⟩; have d1 : w5.cell? ⟨G, pos * 2 + 1, none⟩ = some (.slice y.A y.n y.c) := ((hb5.cell (p := ⟨G, pos * 2 + 1, none⟩) hGs).trans c2); have d2 : w5.frozen? ⟨G, pos * 2 + 1, none⟩ = false := ((hb5.frozen (p := ⟨G, pos * 2 + 1, none⟩) hGs).trans f2); have HT5 := Lib.hid hT5; clear hT5))
    all_goals
      have hb5' : Below wq.heap.size wq w5 := bundrew hb5
      obtain ⟨ho6, hg6, hs6⟩ := put_laid A5 n5 c5 HOX.out HY.out hyn hb5'
      have hr6 := own_rv' ho6 (cellsV_one _)
      have HR6 := Lib.hid hr6
      clear ho6 hg6 hs6 hr6 d1 d2
      have hn6 : n' ≤ 1000000 := by omega
      go_wp2_with (first | (go_at_call 97; ((with_reducible refine (clone_any _ _ _ _ _ HR6.out hn6).mono ?_); rintro e7 w7 ⟨A7, c7, rfl, hb7, hR7, hA7, hc7⟩; have HR7 := Lib.hid hR7; clear hR7)))
      go_ret
      obtain ⟨q1, q2⟩ := put_end hbx hG HOX.out HY.out hyn hSx HKX.out hb5' HT5.out hb7 HR7.out hA7 hc7
      exact ⟨A7, n', c7, rfl, q1, q2⟩
end Go.Proofs.YtpacfelhjjmmkaaDoor
end
section
open Go Go.RowKit Go.Kb Go.Tr
namespace Go.Proofs.YtpacfelhjjmmkaaDoor
theorem more_any (w : World) (b c : Nat) (hc : c < 1000000) (h0 : w.cell? ⟨b, 0, none⟩ = some (.int .i64 c)) (h1 : w.cell? ⟨b, 1, none⟩ = some (.int .i64 400)) (hf : w.frozen? ⟨b, 0, none⟩ = false) :
    Calls Tryd.prog 82 #[.pointer (some ⟨b, 0, none⟩)] w (fun e w' => e = .returned (.bool (decide ((c : Int) + 1 ≤ 400))) ∧ ∃ q, w' = (w.setCell ⟨b, 0, none⟩ (.int .i64 ((c : Int) + 1))).drewN q) := by
  have e1 : IntKind.i64.wrap ((c : Int) + 1) = (c : Int) + 1 := IntWalk.i64_in _ (by omega)
  go_enter Tryd.func82, Tryd.ntmps82
  go_wp2_with fail
  go_quiet (fail)
  go_wp2_with fail
  go_ret
  exact ⟨rfl, _, rfl⟩
structure TallyAt (w : World) (b c : Nat) : Prop where
  n : w.cell? ⟨b, 0, none⟩ = some (.int .i64 c)
  most : w.cell? ⟨b, 1, none⟩ = some (.int .i64 400)
  free : w.frozen? ⟨b, 0, none⟩ = false
theorem TallyAt.lt {w : World} {b c : Nat} (h : TallyAt w b c) : b < w.heap.size := World.block_lt_of_cell? _ _ h.n
theorem TallyAt.agree {w w' : World} {b c : Nat} (h : TallyAt w b c) (hag : w'.heap[b]? = w.heap[b]?) : TallyAt w' b c :=
  ⟨(World.cell?_of_block (w := w) hag).trans h.n, (World.cell?_of_block (w := w) hag).trans h.most, (World.frozen?_of_block (w := w) hag).trans h.free⟩
theorem TallyAt.set {w : World} {b c : Nat} (h : TallyAt w b c) (d q : Nat) : TallyAt ((w.setCell ⟨b, 0, none⟩ (.int .i64 (d : Int))).drewN q) b d ∧ w.grownBy ((w.setCell ⟨b, 0, none⟩ (.int .i64 (d : Int))).drewN q) (some b) := by
  have h1 := h.n
  have h2 := h.most
  have h3 := h.free
  refine ⟨⟨?_, ?_, ?_⟩, ⟨rfl, rfl, rfl, by simp, fun k _ hk => heap_setCell_other w ⟨b, 0, none⟩ k _ (fun e => hk (by simp [e]))⟩⟩
  · go_simp
  · go_simp
  · go_simp
def fitsE (c d : Nat) (nm : ByteArray) (prev : Option ByteArray) : Int :=
  if 400 < c then 4 else if 12 < d then 11 else if 80 < nm.size then 5 else match prev with
    | none => 0
    | some p => if ltB p nm then 0 else 12
theorem leq_ltB (a b : ByteArray) : (Op.bytesLess a.toList b.toList || a.toList == b.toList) = !ltB b a := by
  rw [ByteArray.toList_eq a, ByteArray.toList_eq b]
  unfold ltB
  rcases less_eq_or a.data.toList b.data.toList with h | h | h
  · have hn : Op.bytesLess b.data.toList a.data.toList = false := by
      cases hb : Op.bytesLess b.data.toList a.data.toList with
      | false => rfl
      | true => have := less_trans _ _ _ h hb; rw [less_irrefl] at this; cases this
    rw [h, hn]; rfl
  · rw [h, less_irrefl]; simp
  · have hn : Op.bytesLess a.data.toList b.data.toList = false := by
      cases hb : Op.bytesLess a.data.toList b.data.toList with
      | false => rfl
      | true => have := less_trans _ _ _ h hb; rw [less_irrefl] at this; cases this
    have he : (a.data.toList == b.data.toList) = false := by
      rw [beq_eq_false_iff_ne]
      intro e
      rw [e, less_irrefl] at h
      cases h
    rw [h, hn, he]; rfl
set_option maxRecDepth 100000 in
theorem fits_any (w : World) (b c d : Nat) (nm : ByteArray) (A : Option Addr) (i k : Nat) (xs : List EV) (prev : Option ByteArray) (hc : c < 900000) (hd : d < 900000) (hT : TallyAt w b c) (hR : RV w 2 A i k (cellsV xs)) (hi : i ≤ 900000)
    (hp : prev = (xs[i - 1]?).map EV.nm) (hAb : ∀ ad, A = some ad → ad.block ≠ b) :
    Calls Tryd.prog 65 #[.pointer (some ⟨b, 0, none⟩), .int .i64 d, .string nm, .slice A i k] w (fun e w' => e = .returned (.int .i64 (fitsE (c + 1) d nm prev)) ∧ TallyAt w' b (c + 1) ∧ w.grownBy w' (some b)) := by
  have hm := fun w' (h : TallyAt w' b c) => more_any w' b c (by omega) h.n h.most h.free
  have fin : ∀ w1 q1, w1 = (w.setCell ⟨b, 0, none⟩ (.int .i64 ((c : Int) + 1))).drewN q1 → TallyAt w1 b (c + 1) ∧ w.grownBy w1 (some b) := fun w1 q1 e => by
    have := hT.set (c + 1) q1
    rw [show (((c + 1 : Nat) : Int)) = (c : Int) + 1 by omega] at this
    rw [e]
    exact this
  have hlen : xs.length = i := by have := hR.len; rw [cellsV_length] at this; omega
  have HM := Lib.hid hm
  have HT := Lib.hid hT
  have HR := Lib.hid hR
  have HF := Lib.hid fin
  clear hm hT hR fin
  by_cases k1 : 400 < c + 1
  · have a1 : decide ((c : Int) + 1 ≤ 400) = false := by simp; omega
    have hf : fitsE (c + 1) d nm prev = 4 := by unfold fitsE; rw [if_pos k1]
    have HE := Lib.hid hf
    clear hf hp hlen
    go_enter Tryd.func65, Tryd.ntmps65
    go_wp2_with (first | (go_at_call 82; ((with_reducible refine (HM.out _ HT.out).mono ?_); rintro e w1 ⟨rfl, q1, hq1⟩; have HQ := Lib.hid hq1; clear hq1)))
    go_ret
    exact ⟨by rw [HE.out]; rfl, HF.out _ _ HQ.out⟩
  have a1 : decide ((c : Int) + 1 ≤ 400) = true := by simp; omega
  by_cases k2 : 12 < d
  · have a2 : decide ((12 : Int) < (d : Int)) = true := by simp; omega
    have hf : fitsE (c + 1) d nm prev = 11 := by unfold fitsE; rw [if_neg k1, if_pos k2]
    have HE := Lib.hid hf
    clear hf hp hlen
    go_enter Tryd.func65, Tryd.ntmps65
    go_wp2_with (first | (go_at_call 82; ((with_reducible refine (HM.out _ HT.out).mono ?_); rintro e w1 ⟨rfl, q1, hq1⟩; have HQ := Lib.hid hq1; clear hq1)))
    go_ret
    exact ⟨by rw [HE.out]; rfl, HF.out _ _ HQ.out⟩
  have a2 : decide ((12 : Int) < (d : Int)) = false := by simp; omega
  by_cases k3 : 80 < nm.size
  · have a3 : decide ((80 : Int) < (nm.size : Int)) = true := by simp; omega
    have hf : fitsE (c + 1) d nm prev = 5 := by unfold fitsE; rw [if_neg k1, if_neg k2, if_pos k3]
    have HE := Lib.hid hf
    clear hf hp hlen
    go_enter Tryd.func65, Tryd.ntmps65
    go_wp2_with (first | (go_at_call 82; ((with_reducible refine (HM.out _ HT.out).mono ?_); rintro e w1 ⟨rfl, q1, hq1⟩; have HQ := Lib.hid hq1; clear hq1)))
    go_ret
    exact ⟨by rw [HE.out]; rfl, HF.out _ _ HQ.out⟩
  have a3 : decide ((80 : Int) < (nm.size : Int)) = false := by simp; omega
  by_cases k4 : i = 0
  · subst k4
    obtain rfl : xs = [] := List.eq_nil_of_length_eq_zero hlen
    have hf : fitsE (c + 1) d nm prev = 0 := by unfold fitsE; rw [if_neg k1, if_neg k2, if_neg k3, hp]; rfl
    have HE := Lib.hid hf
    clear hf hp hlen
    go_enter Tryd.func65, Tryd.ntmps65
    go_wp2_with (first | (go_at_call 82; ((with_reducible refine (HM.out _ HT.out).mono ?_); rintro e w1 ⟨rfl, q1, hq1⟩; have HQ := Lib.hid hq1; clear hq1)))
    go_ret
    exact ⟨by rw [HE.out]; rfl, HF.out _ _ HQ.out⟩
  · obtain ⟨x, hx⟩ : ∃ x, xs[i - 1]? = some x := ⟨xs[i - 1]'(by omega), List.getElem?_eq_getElem _⟩
    rw [hx] at hp
    obtain ⟨ad, rfl, r1, _⟩ := readV HR.out (i - 1) x hx
    have hne := hAb ad rfl
    have hlw : (ad.add ((i - 1) * 2)).block < w.heap.size := World.block_lt_of_cell? _ _ r1
    have hc1 : ∀ w1, w.grownBy w1 (some b) → w1.cell? (ad.add ((i - 1) * 2)) = some (.string x.nm) := fun w1 hg => by
      rw [World.cell?_of_block (w := w) (hg.block _ hlw (by rw [add_block]; simpa using hne))]
      exact r1
    have e1 : IntKind.i64.wrap ((i : Int) - 1) = ((i - 1 : Nat) : Int) := by rw [IntWalk.i64_in _ (by omega)]; omega
    have e2 : ((i - 1 : Nat) : Int) < (i : Int) := by omega
    have e3 : decide ((0 : Int) < (i : Int)) = true := by simp; omega
    have hle := leq_ltB nm x.nm
    have hf : fitsE (c + 1) d nm prev = if ltB x.nm nm then 0 else 12 := by unfold fitsE; rw [if_neg k1, if_neg k2, if_neg k3, hp]; rfl
    have HC := Lib.hid hc1
    have HE := Lib.hid hf
    clear hf hp hlen hc1 r1 hx hAb
    cases hlt : ltB x.nm nm
    all_goals
      have HLT := Lib.hid hlt
      rw [hlt] at hle
      clear hlt
      go_enter Tryd.func65, Tryd.ntmps65
      go_wp2_with (first | (go_at_call 82; ((with_reducible refine (HM.out _ HT.out).mono ?_); rintro e w1 ⟨rfl, q1, hq1⟩; have HQ := Lib.hid hq1; have c1 := HC.out _ (HF.out _ _ hq1).2; clear hq1)))
    all_goals go_ret
    all_goals exact ⟨by rw [HE.out, HLT.out]; rfl, HF.out _ _ HQ.out⟩
end Go.Proofs.YtpacfelhjjmmkaaDoor
end
section
open Go Go.RowKit Go.Kb Go.Tr
namespace Go.Tr
def Tr.drop : Tr → Nat → Tr
  | t, 0 => t
  | .nil, _ + 1 => .nil
  | .cons _ _ r, i + 1 => r.drop i
theorem Tr.drop_at {nm : ByteArray} {k : Tr} : ∀ {t : Tr} {i : Nat}, t.at? i = some (nm, k) → t.drop i = .cons nm k (t.drop (i + 1)) := by
  intro t
  induction t with
  | nil => intro i h; simp [Tr.at?] at h
  | cons a x r _ ih =>
    intro i h
    cases i with
    | zero =>
      simp only [Tr.at?, Option.some.injEq, Prod.mk.injEq] at h
      obtain ⟨rfl, rfl⟩ := h
      cases r <;> rfl
    | succ i => exact ih h
theorem Tr.drop_zero (t : Tr) : t.drop 0 = t := by cases t <;> rfl
theorem Tr.drop_len : ∀ (t : Tr), t.drop t.len = .nil := by
  intro t
  induction t with
  | nil => rfl
  | cons a x r _ ih => exact ih
theorem Tr.drop_size : ∀ (t : Tr) (i : Nat), (t.drop i).size ≤ t.size := by
  intro t
  induction t with
  | nil => intro i; cases i <;> exact Nat.le_refl _
  | cons a x r _ ih =>
    intro i
    cases i with
    | zero => exact Nat.le_refl _
    | succ i => have := ih i; simp only [Tr.drop, Tr.size]; omega
end Go.Tr
namespace Go.Proofs.YtpacfelhjjmmkaaDoor
def chk : Tr → Nat → Nat → Option ByteArray → Int × Nat
  | .nil, _, c, _ => (0, c)
  | .cons nm k r, d, c, p =>
    if fitsE (c + 1) d nm p ≠ 0 then (fitsE (c + 1) d nm p, c + 1)
    else if (chk k (d + 1) (c + 1) none).1 ≠ 0 then chk k (d + 1) (c + 1) none
    else chk r d (chk k (d + 1) (c + 1) none).2 (some nm)
theorem chk_le : ∀ (t : Tr) (d c : Nat) (p : Option ByteArray), (chk t d c p).2 ≤ c + t.size := by
  intro t
  induction t with
  | nil => intro d c p; exact Nat.le_refl _
  | cons nm k r ihk ihr =>
    intro d c p
    have h1 := ihk (d + 1) (c + 1) none
    unfold chk
    split
    · simp only [Tr.size]; omega
    · split
      · simp only [Tr.size]; omega
      · have := ihr d (chk k (d + 1) (c + 1) none).2 (some nm)
        simp only [Tr.size]; omega
theorem fitsE_deep {c d : Nat} {nm : ByteArray} {p : Option ByteArray} (h : fitsE c d nm p = 0) : d ≤ 12 := by
  unfold fitsE at h
  split at h
  · cases h
  · split at h
    · cases h
    · omega
end Go.Proofs.YtpacfelhjjmmkaaDoor
end
section
open Go Go.RowKit Go.Kb Go.Tr
namespace Go.Proofs.YtpacfelhjjmmkaaDoor
def prevN (xs : List EV) : Nat → Option ByteArray
  | 0 => none
  | i + 1 => (xs[i]?).map EV.nm
def ChkPost (w : World) (b : Nat) (r : Int × Nat) (e : Ending) (w' : World) : Prop := e = .returned (.int .i64 r.1) ∧ TallyAt w' b r.2 ∧ w.grownBy w' (some b)
set_option maxRecDepth 100000 in
set_option maxHeartbeats 1600000 in
theorem check_any : ∀ (m : Nat) (t : Tr), t.size < m → ∀ (S : Nat → Prop) (w : World) (b c d : Nat) (A : Option Addr) (n k : Nat), TV S w t A n k → (∀ x, S x → x < w.heap.size ∧ x ≠ b) → TallyAt w b c → c + t.size ≤ 800000 → d ≤ 13 →
    Calls Tryd.prog 39 #[.pointer (some ⟨b, 0, none⟩), .int .i64 d, .slice A n k] w (ChkPost w b (chk t d c none)) := by
  intro m
  induction m with
  | zero => intro t ht; omega
  | succ m ih =>
    intro t ht S w b c d A n k hT hS hTl hsz hd
    have hn := hT.len
    have hle : n ≤ 800000 := by have := t.len_le; omega
    obtain ⟨xs, hR, hA, hk', hk⟩ := hT
    have HN := Lib.hid hn
    have HR := Lib.hid hR
    have HA := Lib.hid hA
    have HK := Lib.hid hk
    have HS := Lib.hid hS
    have HT := Lib.hid hTl
    have IH := Lib.hid ih
    clear hn hR hA hk hS hTl ih
    go_enter Tryd.func39, Tryd.ntmps39
    go_wp2_with fail
    go_loopw [13] (fun v wr => ∃ (i ci : Nat), i ≤ n ∧ v = .int .i64 i ∧ w.grownBy wr (some b) ∧ Hid (TallyAt wr b ci) ∧ ci + (t.drop i).size ≤ 800000 ∧ Hid (chk t d c none = chk (t.drop i) d ci (prevN xs i))) (fun v _ => n - (intOf v).toNat)
    case atStart => exact ⟨0, c, Nat.zero_le _, rfl, World.grownBy.refl _ _, HT, by rw [Tr.drop_zero]; exact hsz, Lib.hid (by rw [Tr.drop_zero]; rfl)⟩
    case round =>
      obtain ⟨i, ci, hin, rfl, hgr, HTr, hcs, HC⟩ := hrel
      by_cases hi : i < n
      · obtain ⟨x, nm, kd, hx, hat, hnm, hTV⟩ := HK.out.get i (by have := HN.out; omega)
        obtain ⟨ad, rfl, r1, r2⟩ := readV HR.out i x hx
        obtain ⟨nmx, Ax, nx, cx⟩ := x
        simp only at hnm hTV r1 r2
        subst hnm
        have hS1 := HS.out _ (HA.out ad rfl)
        have hblk : (ad.add (i * 2)).block = ad.block := add_block _ _
        have hagr : ∀ y, S y → wr.heap[y]? = w.heap[y]? := fun y hy => hgr.block y (HS.out y hy).1 (by simpa using (HS.out y hy).2)
        have q1 : wr.cell? (ad.add (i * 2)) = some (.string nmx) := (World.cell?_of_block (w := w) (by rw [hblk]; exact hagr _ (HA.out ad rfl))).trans r1
        have q2 : wr.cell? ⟨(ad.add (i * 2)).block, (ad.add (i * 2)).off + 1, none⟩ = some (.slice Ax nx cx) := (World.cell?_of_block (w := w) (by show wr.heap[(ad.add (i * 2)).block]? = _; rw [hblk]; exact hagr _ (HA.out ad rfl))).trans r2
        have kb0 : (0 : Int) ≤ (i : Int) := by omega
        have kb1 : (i : Int) < (n : Int) := by omega
        have kb2 : (i : Int) ≤ (n : Int) := by omega
        have kb3 : (i : Int) ≤ (k : Int) := by have := HR.out.cap; omega
        have hdrop := Tr.drop_at hat
        have hsz2 := Tr.drop_size t (i + 1)
        rw [hdrop] at hcs
        simp only [Tr.size] at hcs
        have hkm : kd.size < m := by have := Tr.at_lt hat; omega
        have hbS : b < wr.heap.size := HTr.out.lt
        have cF : ∀ W, Below wr.heap.size wr W → Calls Tryd.prog 65 #[.pointer (some ⟨b, 0, none⟩), .int .i64 d, .string nmx, .slice (some ad) i k] W (fun e w' => e = .returned (.int .i64 (fitsE (ci + 1) d nmx (prevN xs i))) ∧ TallyAt w' b (ci + 1) ∧ W.grownBy w' (some b)) := fun W hW => by
          have hRw : RV W 2 (some ad) i k (cellsV (xs.take i)) := by
            have h1 := (RV.agree (w' := W) HR.out fun ad' e => by
              injection e with e
              subst e
              rw [hW.block _ (Nat.lt_of_lt_of_le hS1.1 hgr.size)]
              exact hagr _ (HA.out ad rfl)).take i k (by omega) (by have := HR.out.cap; omega) (fun e => by cases e)
            rwa [← cellsV_take] at h1
          refine fits_any W b ci d nmx (some ad) i k (xs.take i) (prevN xs i) (by omega) (by omega) (HTr.out.agree (hW.block _ hbS)) hRw (by omega) ?_ (fun ad' e => by injection e with e; subst e; exact hS1.2)
          cases i with
          | zero => rfl
          | succ j => show (xs[j]?).map EV.nm = _; rw [Nat.add_sub_cancel, List.getElem?_take, if_pos (Nat.lt_succ_self j)]
        have hchk : chk t d c none = if fitsE (ci + 1) d nmx (prevN xs i) ≠ 0 then (fitsE (ci + 1) d nmx (prevN xs i), ci + 1) else if (chk kd (d + 1) (ci + 1) none).1 ≠ 0 then chk kd (d + 1) (ci + 1) none else chk (t.drop (i + 1)) d (chk kd (d + 1) (ci + 1) none).2 (some nmx) := by
          rw [HC.out, hdrop, chk]
        have cK : fitsE (ci + 1) d nmx (prevN xs i) = 0 → ∀ W, TallyAt W b (ci + 1) → (∀ y, S y → W.heap[y]? = w.heap[y]?) → w.heap.size ≤ W.heap.size → Calls Tryd.prog 39 #[.pointer (some ⟨b, 0, none⟩), .int .i64 ((d : Int) + 1), .slice Ax nx cx] W (ChkPost W b (chk kd (d + 1) (ci + 1) none)) := fun hE0 W hWT hWS hWs => by
          have := IH.out kd hkm S W b (ci + 1) (d + 1) Ax nx cx (hTV.move hWS fun _ h => h) (fun y hy => ⟨Nat.lt_of_lt_of_le (HS.out y hy).1 hWs, (HS.out y hy).2⟩) hWT (by omega) (by have := fitsE_deep hE0; omega)
          rwa [show (((d + 1 : Nat) : Int)) = (d : Int) + 1 by omega] at this
        have hcl := chk_le kd (d + 1) (ci + 1) none
        have hd1 : IntKind.i64.wrap ((d : Int) + 1) = (d : Int) + 1 := IntWalk.i64_in _ (by omega)
        have hpn : prevN xs (i + 1) = some nmx := by show (xs[i]?).map EV.nm = _; rw [hx]; rfl
        generalize fitsE (ci + 1) d nmx (prevN xs i) = E at *
        generalize chk kd (d + 1) (ci + 1) none = R at *
        have HAG := Lib.hid hagr
        have HQ := Lib.hid hchk
        have CF := Lib.hid cF
        have HPN := Lib.hid hpn
        have HDR := Lib.hid hdrop
        clear hagr hchk cF hpn hdrop hx hat hTV hblk
        by_cases hE : E = 0
        · subst hE
          have CK := Lib.hid (cK rfl)
          clear cK
          by_cases hR0 : R.1 = 0
          · have hR1 : (R.1 == 0) = true := by simpa using hR0
            have HR2 : Hid (chk t d c none = chk (t.drop (i + 1)) d R.2 (some nmx)) := Lib.hid (by rw [HQ.out, if_neg (by simp), if_neg (by simpa using hR0)])
            go_upto_region 4 with fail
            go_region_with (go_at_call 65; ((with_reducible refine (CF.out _ (bdrew (balloc (Below.refl _ _) (Nat.le_refl _) _))).mono ?_); rintro e5 w5 ⟨rfl, hT5, hg5⟩; have d1 : w5.cell? ⟨wr.heap.size, 1, none⟩ = some (.slice Ax nx cx) := ((World.cell?_of_block (hg5.block wr.heap.size (by simp) (by simp; omega))).trans (by go_simp)); have HT5 := Lib.hid hT5; have HG5 := Lib.hid hg5; clear hT5 hg5))
            go_wp2_with (first | (go_at_call 39; ((with_reducible refine (CK.out _ HT5.out (fun y hy => (((grown_of_below (bdrew (balloc (Below.refl _ _) (Nat.le_refl _) _)) _).trans HG5.out).block y (Nat.lt_of_lt_of_le (HS.out y hy).1 hgr.size) (by simpa using (HS.out y hy).2)).trans (HAG.out y hy)) (Nat.le_trans hgr.size ((grown_of_below (bdrew (balloc (Below.refl _ _) (Nat.le_refl _) _)) _).trans HG5.out).size)).mono ?_); rintro e6 w6 ⟨rfl, hT6, hg6⟩; have HT6 := Lib.hid hT6; have HG6 := Lib.hid hg6; clear hT6 hg6)))
            exact ⟨⟨i + 1, R.2, by omega, by go_num, (hgr.trans ((grown_of_below (bdrew (balloc (Below.refl _ _) (Nat.le_refl _) _)) _).trans HG5.out)).trans HG6.out, HT6, by omega, Lib.hid (by rw [HR2.out, HPN.out])⟩, by simp [intOf]; omega⟩
          · have hR1 : (R.1 == 0) = false := by simpa using hR0
            have HR2 : Hid (chk t d c none = R) := Lib.hid (by rw [HQ.out, if_neg (by simp), if_pos hR0])
            go_upto_region 4 with fail
            go_region_with (go_at_call 65; ((with_reducible refine (CF.out _ (bdrew (balloc (Below.refl _ _) (Nat.le_refl _) _))).mono ?_); rintro e5 w5 ⟨rfl, hT5, hg5⟩; have d1 : w5.cell? ⟨wr.heap.size, 1, none⟩ = some (.slice Ax nx cx) := ((World.cell?_of_block (hg5.block wr.heap.size (by simp) (by simp; omega))).trans (by go_simp)); have HT5 := Lib.hid hT5; have HG5 := Lib.hid hg5; clear hT5 hg5))
            go_wp2_with (first | (go_at_call 39; ((with_reducible refine (CK.out _ HT5.out (fun y hy => (((grown_of_below (bdrew (balloc (Below.refl _ _) (Nat.le_refl _) _)) _).trans HG5.out).block y (Nat.lt_of_lt_of_le (HS.out y hy).1 hgr.size) (by simpa using (HS.out y hy).2)).trans (HAG.out y hy)) (Nat.le_trans hgr.size ((grown_of_below (bdrew (balloc (Below.refl _ _) (Nat.le_refl _) _)) _).trans HG5.out).size)).mono ?_); rintro e6 w6 ⟨rfl, hT6, hg6⟩; have HT6 := Lib.hid hT6; have HG6 := Lib.hid hg6; clear hT6 hg6)))
            go_ret
            rw [HR2.out]
            exact ⟨rfl, HT6.out, (hgr.trans ((grown_of_below (bdrew (balloc (Below.refl _ _) (Nat.le_refl _) _)) _).trans HG5.out)).trans HG6.out⟩
        · have hE1 : (E == 0) = false := by simpa using hE
          have hE2 : (E != 0) = true := by simpa using hE
          have HR2 : Hid (chk t d c none = (E, ci + 1)) := Lib.hid (by rw [HQ.out, if_pos hE])
          clear cK
          go_upto_region 4 with fail
          go_region_with (go_at_call 65; ((with_reducible refine (CF.out _ (bdrew (balloc (Below.refl _ _) (Nat.le_refl _) _))).mono ?_); rintro e5 w5 ⟨rfl, hT5, hg5⟩; have HT5 := Lib.hid hT5; have HG5 := Lib.hid hg5; clear hT5 hg5))
          go_wp2_with fail
          go_ret
          rw [HR2.out]
          exact ⟨rfl, HT5.out, (hgr.trans (grown_of_below (bdrew (balloc (Below.refl _ _) (Nat.le_refl _) _)) _)).trans HG5.out⟩
      · obtain rfl : i = n := by omega
        go_wp2_with fail
        go_ret
        have hz : t.drop i = .nil := by rw [HN.out]; exact Tr.drop_len t
        have hc0 : chk t d c none = (0, ci) := by rw [HC.out, hz]; rfl
        rw [hc0]
        exact ⟨rfl, HTr.out, hgr⟩
end Go.Proofs.YtpacfelhjjmmkaaDoor
end
section
open Go Go.RowKit Go.Kb Go.Tr
namespace Go.Proofs.YtpacfelhjjmmkaaDoor
theorem checkT_any (w : World) (t : Tr) (A : Option Addr) (n k : Nat) (hT : TVw w t A n k) (hz : t.size ≤ 700000) :
    Calls Tryd.prog 25 #[.slice A n k] w (fun e w' => e = .returned (.int .i64 (chk t 1 0 none).1) ∧ Below w.heap.size w w') := by
  have hc : ∀ W, Below w.heap.size w W → W.heap.size = w.heap.size + 1 → TallyAt W w.heap.size 0 → Calls Tryd.prog 39 #[.pointer (some ⟨w.heap.size, 0, none⟩), .int .i64 1, .slice A n k] W (ChkPost W w.heap.size (chk t 1 0 none)) := fun W hW hs hTl =>
    check_any (t.size + 1) t (Nat.lt_succ_self _) (fun b => b < w.heap.size) W w.heap.size 0 1 A n k (hT.move (fun b hb => hW.block b hb) fun _ h => h) (fun x hx => ⟨by omega, by omega⟩) hTl (by omega) (by omega)
  have HC := Lib.hid hc
  clear hc hT
  generalize chk t 1 0 none = R at *
  go_enter Tryd.func25, Tryd.ntmps25
  go_wp2_with (first | (go_at_call 39; ((with_reducible refine (HC.out _ (balloc (Below.refl _ _) (Nat.le_refl _) _) (by simp) ⟨by go_simp, by go_simp, by go_simp⟩).mono ?_); rintro e1 w1 ⟨rfl, hT1, hg1⟩; clear hT1)))
  go_ret
  exact ⟨rfl, below_own (balloc (Below.refl _ _) (Nat.le_refl _) _) hg1 (Nat.le_refl _) (by simp)⟩
end Go.Proofs.YtpacfelhjjmmkaaDoor
end
section
open Go Go.RowKit Go.Kb Go.Tr Go.Sy
set_option linter.unusedVariables false
namespace Go.Proofs.YtpacfelhjjmmkaaDoor
theorem get_sc {s : St} {v pv : SV} {t : Tr} {p : List (List UInt8)} (hv : rdS 2 s v = some (t.len, tvc t)) (hp : rdS 1 s pv = some (p.length, p.map SV.s)) (ht : t.ok) (hz : t.size ≤ 1000000) (hpl : p.length ≤ 1000000) :
    SCall Tryd.prog 19 [v, pv] s (getV (t.getp (p.map bA))) s :=
  SCall.of (by kernel_rfl) fun σ w vs hh hvs => by
    cases hvs with
    | cons h1 h2 =>
      cases h2 with
      | cons h2 h3 =>
        cases h3
        obtain ⟨A, c, rfl, hT⟩ := tv_in hh hv h1
        obtain ⟨B, d, rfl, hR, hB⟩ := strs_in hh hp h2
        refine (get_any _ w t A t.len c (p.map bA) B p.length d hT (fun _ h => h) ht hz hR hB hpl).mono fun e w' h => ?_
        cases hg : t.getp (p.map bA) with
        | none =>
          rw [hg] at h
          obtain ⟨rfl, hb⟩ := h
          exact ⟨_, _, rfl, .tup (.cons .nils (.cons .b .nil)), Good.frzNew hh hb⟩
        | some k =>
          rw [hg] at h
          obtain ⟨A', n', c', rfl, hb, hT'⟩ := h
          exact ⟨_, _, rfl, .tup (.cons (tv_out hT') (.cons .b .nil)), Good.frzNew hh hb⟩
theorem put_sc {s : St} {v pv xv : SV} {t x : Tr} {p : List (List UInt8)} (hv : rdS 2 s v = some (t.len, tvc t)) (hp : rdS 1 s pv = some (p.length, p.map SV.s)) (hx : rdS 2 s xv = some (x.len, tvc x)) (ht : t.ok) (hz : t.size ≤ 900000) (hxz : x.size ≤ 900000) (hpl : p.length ≤ 1000000) :
    SCall Tryd.prog 77 [v, pv, xv] s (tv (t.putp (p.map bA) x)) s :=
  SCall.of (by kernel_rfl) fun σ w vs hh hvs => by
    cases hvs with
    | cons h1 h2 =>
      cases h2 with
      | cons h2 h3 =>
        cases h3 with
        | cons h3 h4 =>
          cases h4
          obtain ⟨A, c, rfl, hT⟩ := tv_in hh hv h1
          obtain ⟨B, d, rfl, hR, hB⟩ := strs_in hh hp h2
          obtain ⟨C, k, rfl, hX⟩ := tv_in hh hx h3
          refine (put_any (p.map bA) w t x A t.len c B p.length d C x.len k hT hX ht hz hxz hR hB hpl).mono fun e w' h => ?_
          obtain ⟨A', n', c', rfl, hb, hT'⟩ := h
          exact ⟨_, _, rfl, tv_out hT', Good.frzNew hh hb⟩
theorem check_sc {s : St} {v : SV} {t : Tr} (hv : rdS 2 s v = some (t.len, tvc t)) (hz : t.size ≤ 700000) :
    SCall Tryd.prog 25 [v] s (.i .i64 (chk t 1 0 none).1) s :=
  SCall.of (by kernel_rfl) fun σ w vs hh hvs => by
    cases hvs with
    | cons h1 h2 =>
      cases h2
      obtain ⟨A, c, rfl, hT⟩ := tv_in hh hv h1
      exact (checkT_any w t A t.len c hT hz).mono fun e w' ⟨he, hb⟩ => ⟨_, _, he, .i, Good.below hh hb⟩
end Go.Proofs.YtpacfelhjjmmkaaDoor
end
