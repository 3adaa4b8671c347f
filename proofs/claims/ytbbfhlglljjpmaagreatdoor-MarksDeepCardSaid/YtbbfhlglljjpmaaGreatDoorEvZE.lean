import Derived.Test.YtbbfhlglljjpmaaGreatDoorEvZD
import Derived.Lib.Index
import Derived.Shelf.Vars
namespace Go.Ev
open Go
set_option linter.unusedVariables false
/-! stringslite.Index, whatever bytealg.MaxLen holds -/
theorem fnd_step (p : Nat → Bool) (n k : Nat) : fnd p (n + 1) k = match p k with
    | true => some k
    | false => fnd p n (k + 1) := rfl
theorem fnd_some (p : Nat → Bool) : ∀ (n k i : Nat), fnd p n k = some i → k ≤ i ∧ i < k + n ∧ p i = true ∧ ∀ j, k ≤ j → j < i → p j = false
  | 0, k, i, h => by cases h
  | n + 1, k, i, h => by
    rw [fnd_step] at h
    cases hp : p k with
    | true =>
      rw [hp] at h
      obtain rfl := Option.some.inj h
      exact ⟨Nat.le_refl _, by omega, hp, fun j h1 h2 => by omega⟩
    | false =>
      rw [hp] at h
      obtain ⟨h1, h2, h3, h4⟩ := fnd_some p n (k + 1) i h
      refine ⟨by omega, by omega, h3, fun j h5 h6 => ?_⟩
      rcases Nat.eq_or_lt_of_le h5 with rfl | h5
      · exact hp
      · exact h4 j h5 h6
theorem fnd_none (p : Nat → Bool) : ∀ (n k : Nat), fnd p n k = none → ∀ j, k ≤ j → j < k + n → p j = false
  | 0, k, h, j, h1, h2 => by omega
  | n + 1, k, h, j, h1, h2 => by
    rw [fnd_step] at h
    cases hp : p k with
    | true => rw [hp] at h; cases h
    | false =>
      rw [hp] at h
      rcases Nat.eq_or_lt_of_le h1 with rfl | h1
      · exact hp
      · exact fnd_none p n (k + 1) h j h1 (by omega)
noncomputable def occN (l1 n1 l2 n2 i : Nat) : Bool := Bool.rec (motive := fun _ => Bool) false (Nat.beq (Nat.div (Nat.mod n1 (Nat.pow 256 (Nat.sub l1 i))) (Nat.pow 256 (Nat.sub (Nat.sub l1 i) l2))) n2) (Nat.ble (Nat.add i l2) l1)
theorem occN_eq (s sub : List UInt8) (i : Nat) (hi : i ≤ s.length) : occN s.length (bval s) sub.length (bval sub) i = Lib.occAt s sub i := by
  show (Bool.rec false (Nat.beq (bval s % 256 ^ (s.length - i) / 256 ^ (s.length - i - sub.length)) (bval sub)) (Nat.ble (i + sub.length) s.length) : Bool) = sub.isPrefixOf (s.drop i)
  by_cases h : i + sub.length ≤ s.length
  · rw [Nat.ble_eq_true_of_le h]
    show Nat.beq (bval s % 256 ^ (s.length - i) / 256 ^ (s.length - i - sub.length)) (bval sub) = _
    have hl : (s.drop i).length = s.length - i := by simp
    rw [← bval_drop s i hi, ← hl, ← bval_take (s.drop i) sub.length (by omega)]
    rw [Bool.eq_iff_iff, Nat.beq_eq, List.isPrefixOf_iff_prefix, List.prefix_iff_eq_take]
    constructor
    · intro e
      exact (bval_inj _ _ (by rw [List.length_take]; omega) e).symm
    · intro e
      rw [← e]
  · have hb : Nat.ble (i + sub.length) s.length = false := by
      cases hb : Nat.ble (i + sub.length) s.length with
      | false => rfl
      | true => exact absurd (Nat.le_of_ble_eq_true hb) h
    rw [hb]
    symm
    show sub.isPrefixOf (s.drop i) = false
    cases hp : sub.isPrefixOf (s.drop i) with
    | false => rfl
    | true =>
      have := (List.isPrefixOf_iff_prefix.1 hp).length_le
      simp at this
      omega
noncomputable def idxI (l1 n1 l2 n2 : Nat) : Int := Option.rec (motive := fun _ => Int) (.negSucc 0) (fun i => .ofNat i) (fnd (fun i => occN l1 n1 l2 n2 i) (Nat.succ l1) 0)
theorem idxI_eq (s sub : List UInt8) : idxI s.length (bval s) sub.length (bval sub) = Lib.index s sub := by
  unfold idxI
  cases h : fnd (fun i => occN s.length (bval s) sub.length (bval sub) i) (Nat.succ s.length) 0 with
  | none =>
    refine (Lib.index_none fun j hj => ?_).symm
    rw [← occN_eq s sub j hj]
    exact fnd_none _ _ _ h j (Nat.zero_le _) (by omega)
  | some i =>
    obtain ⟨_, h2, h3, h4⟩ := fnd_some _ _ _ _ h
    refine (Lib.index_first (i := i) (by omega) ?_ fun j hj => ?_).symm
    · rw [← occN_eq s sub i (by omega)]; exact h3
    · rw [← occN_eq s sub j (by omega)]; exact h4 j (Nat.zero_le _) hj
/-- The variable MaxLen's block: one whole number that is not known. -/
def maxBlk (e k : Nat) : Blk := .row e 0 (.node (some (.opq k)) .leaf .leaf) 1 true 2
noncomputable def isMax (e : Nat) (o : Option Blk) : Bool := match o with
  | some (.row e' _ (.node (some (.opq _)) _ _) u true _) => match Nat.beq u 1 with
    | true => Nat.beq e e'
    | false => false
  | _ => false
noncomputable def idxY (ix g e : Nat) : YT := fun n0 call f l s => match Nat.beq f ix with
  | false => none
  | true => match l with
    | .cons (.s l1 n1) (.cons (.s l2 n2) .nil) => match Nat.ble l1 4294967280 with
      | true => match isMax e (s.H.get g) with
        | true => some (.i .i64 (idxI l1 n1 l2 n2), s)
        | false => none
      | false => none
    | _ => none
/-- 'known', which answers true whatever MaxLen holds. -/
noncomputable def knY (kn g e : Nat) : YT := fun n0 call f l s => match Nat.beq f kn with
  | false => none
  | true => match l with
    | .nil => match isMax e (s.H.get g) with
      | true => some (.b true, s)
      | false => none
    | _ => none
def IdxOK (P : Program) (ix g : Nat) : Prop := ∀ (s sub : ByteArray) (m : Int) (w : World), s.size < 4294967281 → w.cell? ⟨g, 0, none⟩ = some (.int .i64 m) →
  Calls P ix #[.string s, .string sub] w fun e w' => e = .returned (.int .i64 (Lib.index s.data.toList sub.data.toList)) ∧ w' = w
def MaxAt (g : Nat) (e : Nat) (m : Int) (w : World) : Prop := ∃ fr, w.heap[g]? = some (.cells #[.int .i64 m] e fr)
def KnM (P : Program) (kn g e : Nat) : Prop := ∀ w : World, P.globals.size ≤ w.heap.size → (∃ m, MaxAt g e m w) → Calls P kn #[] w fun e w' => e = .returned (.bool true) ∧ RowKit.Below w.heap.size w w'
theorem maxAt_of {P : Program} {w : World} {g t : Nat} {zero : Array Value} (h : w.ShapedOpen P) (hg : g < P.globals.size)
    (h0 : ((begin P (fun _ _ => 0) default).world.heap[g]?).bind Obj.row? = some (zero, t)) (hb : P.buildable t = true) (hc : P.cellTypes P.depth t = some [t]) (hu : P.underlying t = some (.int .i64)) (hz : zero.size = 1 := by rfl) : ∃ m, MaxAt g t m w := by
  letI : Theta := ⟨fun _ => 0⟩
  obtain ⟨m, hm⟩ := Go.Proofs.cell_of_shapedOpen_int h hg h0 hz hb hc hu
  obtain ⟨cs, hh, hs, _⟩ := h.1 g zero t hg h0
  refine ⟨m, (0, 0), ?_⟩
  rw [cell_of_heap hh] at hm
  rw [hh]
  have : cs = #[.int .i64 m] := by
    apply Array.ext
    · rw [hs, hz]; rfl
    · intro j h1 h2
      have hj : j = 0 := by rw [hs, hz] at h1; omega
      subst hj
      have := (Array.getElem?_eq_some_iff.1 hm).2
      rw [this]; rfl
  rw [this]
/-- The extern functions, 'within' by a table. -/
noncomputable def wiX (idx cmp wi : Nat) (tab : List (Nat × Nat × Nat)) (f : Nat) (l : AVs) : Option AV := match Nat.beq f wi with
  | true => match l with
    | .cons (.opq i) (.cons (.i .i64 (.ofNat n)) .nil) => match look i n tab with
      | some k => some (.i .i64 (.ofNat k))
      | none => none
    | _ => none
  | false => extX idx cmp f l
section
variable {P : Program} [Theta]
theorem wiX_ok {idx cmp wi : Nat} {tab : List (Nat × Nat × Nat)} (h1 : ExtOK P idx Extern.BytealgIndexByte.indexByte) (h2 : ExtOK P cmp Extern.BytealgCompare.compare)
    (hw : WiOK P wi) (ew : EntOK P wi) (ht : TabOK tab) : XOK P (wiX idx cmp wi tab) := by
  intro f l v h σ vs w hsz hv
  unfold wiX at h
  split at h
  · rename_i hf
    obtain rfl := Nat.eq_of_beq_eq_true hf
    split at h
    · rename_i i n
      split at h
      · rename_i k hl
        obtain rfl := Option.some.inj h
        simp only [VRs, VR] at hv
        obtain ⟨x, xs, rfl, rfl, y, ys, rfl, rfl, rfl⟩ := hv
        obtain ⟨t1, t2, t3⟩ := ht _ (look_mem hl)
        simp only at t1 t2
        refine .inr ⟨ew _ _, (hw _ _ w (by simp only [Int.ofNat_eq_natCast]; omega) (by simp only [Int.ofNat_eq_natCast]; omega)).mono ?_⟩
        rintro e w' ⟨rfl, rfl⟩
        refine ⟨_, rfl, ?_, .refl _ _⟩
        simp only [VR]
        simp only at t3
        rw [Int.ofNat_eq_natCast, t3]
        rfl
      · cases h
    · cases h
  · exact extX_ok h1 h2 f l v h σ vs w hsz hv
theorem isMax_at {p : Px} {σ : Env} {s : St} {w : World} (hH : HR p σ s w) {g e : Nat} (hg : g < p.ng) (h : isMax e (s.H.get g) = true) : ∃ m, MaxAt g e m w := by
  unfold isMax at h
  split at h
  · rename_i e' z k lf rt u fz hrow
    split at h
    · rename_i hu
      obtain rfl := Nat.eq_of_beq_eq_true hu
      obtain rfl := Nat.eq_of_beq_eq_true h
      obtain ⟨κ, hs⟩ := hH.glob g hg
      obtain ⟨c, lo, hi, g1, g2, _, g4, _⟩ := hH.row hrow hs
      obtain ⟨q, hq, hv⟩ := g2 0 (.opq k) rfl
      simp only [VR] at hv
      subst hv
      have hs1 := g4 rfl
      refine ⟨Theta.th k, (lo, hi), ?_⟩
      rw [g1]
      have : c = #[.int .i64 (Theta.th k)] := by
        apply Array.ext
        · rw [hs1]; rfl
        · intro j h1 h2
          have hj : j = 0 := by rw [hs1] at h1; omega
          subst hj
          have := (Array.getElem?_eq_some_iff.1 hq).2
          rw [this]; rfl
      rw [this]
    · cases h
  · cases h
theorem idxY_ok {ix g e : Nat} (hI : IdxOK P ix g) (eI : EntOK P ix) (hg : g < P.globals.size) : YOK P (idxY ix g e) := by
  intro n0 call hc f l s v s' h
  unfold idxY at h
  split at h
  · cases h
  rename_i hf
  obtain rfl := Nat.eq_of_beq_eq_true hf
  split at h
  · rename_i l1 n1 l2 n2
    split at h
    · rename_i hl
      have hl := Nat.le_of_ble_eq_true hl
      split at h
      · rename_i hmx
        obtain ⟨rfl, rfl⟩ := Prod.mk.inj (Option.some.inj h)
        refine ⟨Nat.le_refl _, fun p hp hgl hL σ vs w hvs hH => ?_⟩
        simp only [VRs, VR] at hvs
        obtain ⟨x, xs, rfl, ⟨bs, rfl, e1, e2⟩, y, ys, rfl, ⟨cs, rfl, e3, e4⟩, rfl⟩ := hvs
        obtain ⟨m, fr, hM⟩ := isMax_at hH (by rw [hgl]; exact hg) hmx
        have hcell : w.cell? ⟨g, 0, none⟩ = some (.int .i64 m) := by simp [World.cell?, hM]
        refine .inr ⟨eI _ _, (hI bs cs _ w (by omega) hcell).mono ?_⟩
        rintro e w' ⟨rfl, rfl⟩
        refine ⟨_, rfl, σ, ?_, Good.refl hH⟩
        simp only [VR]
        rw [← e1, ← e2, ← e3, ← e4, show bs.size = bs.data.toList.length by simp, show cs.size = cs.data.toList.length by simp, idxI_eq]
      · cases h
    · cases h
  · cases h
theorem knY_ok {kn g e : Nat} (hK : KnM P kn g e) (eK : EntOK P kn) (hg : g < P.globals.size) : YOK P (knY kn g e) := by
  intro n0 call hc f l s v s' h
  unfold knY at h
  split at h
  · cases h
  rename_i hf
  obtain rfl := Nat.eq_of_beq_eq_true hf
  split at h
  · split at h
    · rename_i hmx
      obtain ⟨rfl, rfl⟩ := Prod.mk.inj (Option.some.inj h)
      refine ⟨Nat.le_refl _, fun p hp hgl hL σ vs w hvs hH => ?_⟩
      simp only [VRs] at hvs
      subst hvs
      have hsz : P.globals.size ≤ w.heap.size := by
        rw [← hgl]
        rcases Nat.eq_zero_or_pos p.ng with h0 | h0
        · omega
        · obtain ⟨κ, hs⟩ := hH.glob (p.ng - 1) (by omega)
          have := hH.lt _ _ _ hs
          omega
      refine .inr ⟨eK _ _, (hK w hsz (isMax_at hH (by rw [hgl]; exact hg) hmx)).mono ?_⟩
      rintro e w' ⟨rfl, hb⟩
      exact ⟨_, rfl, σ, by simp only [VR], Good.same hH hb⟩
    · cases h
  · cases h
/-- The start, with MaxLen. -/
theorem max_start {P : Program} {g e k : Nat} {m : Int} {W : World} (hg : g < P.globals.size) (hM : MaxAt g e m W) (hk : Theta.th k = m) :
    ∀ b x, (Tr.set Tr.leaf g (some (maxBlk e k))).get b = some x → b < P.globals.size ∧ ∃ o, W.heap[b]? = some o ∧ BR (envAt P) 0 x o := by
  intro b x hx
  rw [Tr.get_set] at hx
  by_cases hb : b = g
  · subst hb
    rw [if_pos rfl] at hx
    obtain rfl := Option.some.inj hx
    obtain ⟨fr, hM⟩ := hM
    refine ⟨hg, _, hM, #[.int .i64 m], fr.1, fr.2, rfl, ?_, by simp, (fun _ => by simp), (fun h => by cases h), (fun h => by omega), (fun h => by cases h), ?_⟩
    · intro j a ha
      cases j with
      | zero =>
        have ha : some (AV.opq k) = some a := ha
        obtain rfl := Option.some.inj ha
        exact ⟨.int .i64 m, rfl, by simp only [VR]; rw [hk]⟩
      | succ j =>
        have : (Tr.node (some (AV.opq k)) .leaf .leaf).get (j + 1) = none := by
          rcases Nat.mod_two_eq_zero_or_one j with e | e
          · rw [Tr.get_node_even _ _ _ _ e]; rfl
          · rw [Tr.get_node_odd _ _ _ _ e]; rfl
        rw [this] at ha; cases ha
    · intro j a ha
      cases j with
      | zero => omega
      | succ j =>
        have : (Tr.node (some (AV.opq k)) .leaf .leaf).get (j + 1) = none := by
          rcases Nat.mod_two_eq_zero_or_one j with e | e
          · rw [Tr.get_node_even _ _ _ _ e]; rfl
          · rw [Tr.get_node_odd _ _ _ _ e]; rfl
        rw [this] at ha; cases ha
  · rw [if_neg hb, Tr.get_leaf] at hx; cases hx
end
end Go.Ev
