/- Part of a proof: contracts and lemmas; no condition. -/
import Derived.Test.YthipfcgkongfjaaGreatDoorGkc
import Derived.Laws.Tables
import Derived.Lib.Builder
import Derived.Laws.RangeString
import Derived.Laws.IdiomStrings
import Derived.Laws.BytesString
import Derived.Laws.MakeOwn
import Derived.Laws.Append
import Derived.Lib.UnsafeStr
import Derived.Lib.AppendZerosOnto
section
namespace Go.Ev
open Go
set_option linter.unusedVariables false
variable [Theta]
set_option linter.unusedSectionVars false
set_option linter.unusedSimpArgs false
section
variable {P : Program} {p : Px} {σ : Env} {s : St} {w : World} {T : Tr AV} {a : Act}
theorem cellsOk_leaf (σ : Env) (c : Array Value) : cellsOk σ .leaf c := fun j a h => by rw [Tr.get_leaf] at h; cases h
theorem cellsOk_lay {l : AVs} {xs : List Value} (h : VRs σ l xs) : cellsOk σ (stC l 0 .leaf) xs.toArray := by
  have key : ∀ (l : AVs) (xs : List Value) (off : Nat) (t : Tr AV) (c : List Value), VRs σ l xs → cellsOk σ t c.toArray → c.length = off → cellsOk σ (stC l off t) (c ++ xs).toArray := by
    intro l
    induction l using AVs.rec (motive_1 := fun _ => True) with
    | nil => intro xs off t c h k _; simp only [VRs] at h; subst h; simpa [stC_nil] using k
    | cons a l _ ih =>
      intro xs off t c h k hc
      simp only [VRs] at h
      obtain ⟨y, ys, rfl, hy, h⟩ := h
      rw [stC_cons, show c ++ y :: ys = (c ++ [y]) ++ ys from by simp]
      refine ih ys (off + 1) _ _ h ?_ (by simp [hc])
      intro j a' e
      rw [Tr.get_set] at e
      by_cases hj : j = off
      · subst hj
        rw [if_pos rfl] at e
        obtain rfl := Option.some.inj e
        exact ⟨y, by simp [hc], hy⟩
      · rw [if_neg hj] at e
        obtain ⟨x, hx, hv⟩ := k _ _ e
        refine ⟨x, ?_, hv⟩
        simp only [List.getElem?_toArray] at hx ⊢
        rw [List.getElem?_append_left]
        · exact hx
        · rcases Nat.lt_or_ge j c.length with h' | h'
          · exact h'
          · rw [List.getElem?_eq_none h'] at hx; cases hx
    | _ => trivial
  simpa using key l xs 0 .leaf [] h (cellsOk_leaf _ _) rfl
theorem HR.newRow (h : Rel P p σ T s a w) (hlim : s.nxt < p.lim) (e esz κ : Nat) {cells : Tr AV} {c : Array Value} {used : Nat} {ex : Bool} (hc : ∀ σ', σ.Ext σ' → cellsOk σ' cells c) (hu : used ≤ c.size) (h1 : ex = true → c.size = used) (h2 : ex = false → c.size = κ * esz) (hd : ex = false → ∀ j a, cells.get j = some a → j < used) :
    ∃ σ', σ' s.nxt = some (w.heap.size, κ) ∧ σ.Ext σ' ∧ Good p σ s w σ' (evNew e esz cells used ex 0 s) (w.alloc (.cells c e)) := by
  have g := h.h.new h.n0 h.g0 hlim κ (.row e esz cells used ex 0) (.cells c e) (by
    have hext : σ.Ext (σ.put s.nxt (w.heap.size, κ)) := by
      intro b q hb
      unfold Env.put
      by_cases hbn : b = s.nxt
      · subst hbn; rw [h.h.fresh _ (Nat.le_refl _) hlim] at hb; cases hb
      · rw [if_neg hbn]; exact hb
    refine ⟨c, 0, 0, rfl, hc _ hext, hu, h1, h2, (fun _ j _ => by omega), (fun _ j => by omega), fun j a' hj => ?_⟩
    cases ex with
    | false => exact hd rfl j a' hj
    | true =>
      obtain ⟨x, hx, _⟩ := hc _ hext j a' hj
      rw [← h1 rfl]
      rcases Nat.lt_or_ge j c.size with h' | h'
      · exact h'
      · rw [Array.getElem?_eq_none h'] at hx; cases hx)
  refine ⟨_, ?_, g.ext, g⟩
  unfold Env.put; rw [if_pos rfl]
theorem zOf_sound {t : TypeId} {z : AVs} (h : zOf P t = some z) : ∃ i v, P.info? t = some i ∧ i.zero = some v ∧ z.len = i.size ∧ (∀ σ, VRs σ z v.cells.toList) ∧ v.cells.size = i.size := by
  unfold zOf at h
  split at h
  · rename_i i hi
    split at h
    · rename_i v hv
      split at h
      · rename_i a ha
        split at h
        · rename_i hl
          obtain rfl := Option.some.inj h
          have hc : ∀ σ, VRs σ (cellsOf a) v.cells.toList := fun σ => VR_cells (cv_sound _ _ _ ha σ)
          refine ⟨i, v, hi, hv, hl, hc, ?_⟩
          rw [← hl, (hc (fun _ => none)).len, Array.length_toList]
        · cases h
      · cases h
    · cases h
  · cases h
theorem snd_box (h : Rel P p σ T s a w) {o : Oper} {t : TypeId} {x : Operand} (ho : o.op = .box t x) {ai : AI} (hc : compOp P o = some ai) {v : AV} {s' : St} (he : evAI p.n0 ai T s = some (v, s')) (hL : s'.nxt ≤ p.lim) : Sound P p σ s w o a v s' := by
  unfold compOp at hc; rw [ho] at hc
  obtain ⟨x', h1, rfl⟩ := Option.map_eq_some_iff.1 hc
  simp only [evAI] at he
  split at he
  · cases he
  · rename_i X hX
    obtain ⟨rfl, rfl⟩ := Prod.mk.inj (Option.some.inj he)
    have hx := VR_cells (oo_sound h h1 hX)
    have hl := hx.len
    obtain ⟨σ', g1, g2, g3⟩ := HR.newRow h hL t 0 0 (c := (a.eval x).cells) (cells := stC (cellsOf X) 0 .leaf) (used := (cellsOf X).len) (ex := true)
      (fun σ' he => by have := cellsOk_lay (hx.ext he); simpa using this) (by rw [hl]; simp) (fun _ => by rw [hl]; simp) (fun e => by cases e) (fun e => by cases e)
    refine ⟨.pointer (some ⟨w.heap.size, 0, none⟩), σ', _, .inl ?_, by simp only [VR]; exact ⟨_, _, g1, rfl⟩, g3⟩
    simp [execOp, ho, Instr.box, newVar, newRow, newObj, Sem.run]
theorem snd_alloc (h : Rel P p σ T s a w) {o : Oper} {t : TypeId} (ho : o.op = .alloc t) {ai : AI} (hc : compOp P o = some ai) {v : AV} {s' : St} (he : evAI p.n0 ai T s = some (v, s')) (hL : s'.nxt ≤ p.lim) : Sound P p σ s w o a v s' := by
  unfold compOp at hc; rw [ho] at hc
  obtain ⟨z, h1, rfl⟩ := Option.map_eq_some_iff.1 hc
  obtain ⟨i, zv, q1, q2, q3, q4, q5⟩ := zOf_sound h1
  simp only [evAI] at he
  obtain ⟨rfl, rfl⟩ := Prod.mk.inj (Option.some.inj he)
  obtain ⟨σ', g1, g2, g3⟩ := HR.newRow h hL t 0 0 (c := zv.cells) (cells := stC z 0 .leaf) (used := z.len) (ex := true)
    (fun σ' he => by have := cellsOk_lay (q4 σ'); simpa using this) (by rw [q3, q5]; exact Nat.le_refl _) (fun _ => by rw [q3, q5]) (fun e => by cases e) (fun e => by cases e)
  refine ⟨.pointer (some ⟨w.heap.size, 0, none⟩), σ', _, .inl ?_, by simp only [VR]; exact ⟨_, _, g1, rfl⟩, g3⟩
  simp [execOp, ho, Instr.alloc, zeroValue, typeInfo, program, q1, q2, newVar, newRow, newObj, Sem.run]
theorem putA_len : ∀ (z : AVs) (k : Nat) (l : AVs), (putA z k l).len = z.len
  | z, _, .nil => by cases z <;> simp [putA]
  | .nil, _, .cons _ _ => by simp [putA]
  | .cons z zs, k + 1, .cons b l => by simp [putA, AVs.len, putA_len zs k (.cons b l)]
  | .cons z zs, 0, .cons b l => by simp [putA, AVs.len, putA_len zs 0 l]
theorem foldl_put (off : Nat) : ∀ (l : List Value) (j : Nat) (cs : Array Value), (l.zipIdx j).foldl (fun cs q => cs.setIfInBounds (off + q.2) q.1) cs = ovl cs (off + j) l
  | [], _, _ => rfl
  | v :: l, j, cs => by
    simp only [List.zipIdx_cons, List.foldl_cons, ovl]
    rw [foldl_put off l (j + 1)]
    rfl
theorem ovl_cons_succ (v : Value) : ∀ (l : List Value) (k : Nat) (c : List Value), ovl (v :: c).toArray (k + 1) l = (v :: (ovl c.toArray k l).toList).toArray
  | [], k, c => by simp [ovl]
  | x :: l, k, c => by
    have e : (v :: c).toArray.setIfInBounds (k + 1) x = (v :: (c.set k x)).toArray := by simp
    have e2 : c.toArray.setIfInBounds k x = (c.set k x).toArray := by simp
    rw [ovl, ovl, e, e2, ovl_cons_succ v l (k + 1)]
theorem putA_sound : ∀ (z : AVs) (k : Nat) (l : AVs) (zs xs : List Value), VRs σ z zs → VRs σ l xs → VRs σ (putA z k l) (ovl zs.toArray k xs).toList
  | z, k, .nil, zs, xs, hz, hl => by
    simp only [VRs] at hl; subst hl
    have : putA z k .nil = z := by cases z <;> simp [putA]
    rw [this]; simpa [ovl] using hz
  | .nil, k, .cons b l, zs, xs, hz, hl => by
    simp only [VRs] at hz; subst hz
    have e : ∀ (xs : List Value) k, ovl (#[] : Array Value) k xs = #[] := by
      intro xs
      induction xs with
      | nil => intro k; rfl
      | cons x xs ih => intro k; simpa [ovl] using ih (k + 1)
    simp [putA, e, VRs]
  | .cons z zs', k + 1, .cons b l, zs, xs, hz, hl => by
    simp only [VRs] at hz
    obtain ⟨y, ys, rfl, h1, h2⟩ := hz
    have := putA_sound zs' k (.cons b l) ys xs h2 hl
    rw [ovl_cons_succ]
    simp only [putA, VRs]
    exact ⟨y, _, rfl, h1, this⟩
  | .cons z zs', 0, .cons b l, zs, xs, hz, hl => by
    simp only [VRs] at hz hl
    obtain ⟨y, ys, rfl, h1, h2⟩ := hz
    obtain ⟨x, xs', rfl, h3, h4⟩ := hl
    have := putA_sound zs' 0 l ys xs' h2 h4
    have e : ovl (y :: ys).toArray 0 (x :: xs') = ovl (x :: ys).toArray 1 xs' := by simp [ovl]
    rw [e, ovl_cons_succ]
    simp only [putA, VRs]
    exact ⟨x, _, rfl, h3, this⟩
theorem fill_sound (h : Rel P p σ T s a w) (place : Nat → Option (Nat × Nat)) (prt : List (Nat × Operand) → Option (List (Nat × Nat × O)))
    (hp0 : prt [] = some []) (hps : ∀ i x r l, prt ((i, x) :: r) = some l → ∃ off n o l', l = (off, n, o) :: l' ∧ place i = some (off, n) ∧ oo P x = some o ∧ prt r = some l') :
    ∀ (q : List (Nat × Operand)) (l : List (Nat × Nat × O)) (z z' : AVs) (c : Array Value), prt q = some l → VRs σ z c.toList → bldP T l z = some z' →
      ∃ c', Instr.fill place c (q.map fun (i, x) => (i, a.eval x)) = some c' ∧ VRs σ z' c'.toList
  | [], l, z, z', c, hl, hz, hb => by
    rw [hp0] at hl
    obtain rfl := Option.some.inj hl
    obtain rfl := Option.some.inj hb
    exact ⟨c, rfl, hz⟩
  | (i, x) :: q, l, z, z', c, hl, hz, hb => by
    obtain ⟨off, n, o, l', rfl, h1, h2, h3⟩ := hps i x q l hl
    have hb' : (match evO T o with
      | none => none
      | some v => match Nat.beq (cellsOf v).len n with
        | true => match Nat.ble (off + n) z.len with
          | true => bldP T l' (putA z off (cellsOf v))
          | false => none
        | false => none) = some z' := hb
    split at hb'
    · cases hb'
    · rename_i v hv
      split at hb'
      · rename_i hn
        split at hb'
        · rename_i hle
          have hx := VR_cells (oo_sound h h2 hv)
          have hlen := hx.len
          rw [Array.length_toList] at hlen
          have hn := Nat.eq_of_beq_eq_true hn
          have hle := Nat.le_of_ble_eq_true hle
          have hzl := hz.len
          rw [Array.length_toList] at hzl
          have hput := putA_sound z off (cellsOf v) c.toList (a.eval x).cells.toList hz hx
          have hfold : Array.foldl (fun cs (q : Value × Nat) => cs.setIfInBounds (off + q.2) q.1) c (a.eval x).cells.zipIdx = ovl c off (a.eval x).cells.toList := by
            rw [← Array.foldl_toList, Array.toList_zipIdx]
            exact foldl_put off _ 0 c
          obtain ⟨c', g1, g2⟩ := fill_sound h place prt hp0 hps q l' _ z' (ovl c off (a.eval x).cells.toList) h3 (by simpa using hput) hb'
          refine ⟨c', ?_, g2⟩
          simp only [List.map_cons, Instr.fill, h1]
          rw [if_neg (by simp; omega)]
          rw [← g1]
          congr 1
        · cases hb'
      · cases hb'
theorem prtS_step {fs : Array Field} (i : Nat) (x : Operand) (r : List (Nat × Operand)) (l : List (Nat × Nat × O)) (h : prtS P fs ((i, x) :: r) = some l) :
    ∃ f n o l', l = (f.offset, n, o) :: l' ∧ fs[i]? = some f ∧ szOf P f.type = some n ∧ oo P x = some o ∧ prtS P fs r = some l' := by
  simp only [prtS] at h
  split at h
  · cases h
  · rename_i f hf
    split at h
    · cases h
    · rename_i n hn
      split at h
      · cases h
      · rename_i o ho
        split at h
        · cases h
        · rename_i l' hl'
          exact ⟨f, n, o, l', (Option.some.inj h).symm, hf, hn, ho, hl'⟩
theorem prtA_step {esz : Nat} (i : Nat) (x : Operand) (r : List (Nat × Operand)) (l : List (Nat × Nat × O)) (h : prtA P esz ((i, x) :: r) = some l) :
    ∃ o l', l = (i * esz, esz, o) :: l' ∧ oo P x = some o ∧ prtA P esz r = some l' := by
  simp only [prtA] at h
  split at h
  · cases h
  · rename_i o ho
    split at h
    · cases h
    · rename_i l' hl'
      exact ⟨o, l', (Option.some.inj h).symm, ho, hl'⟩
theorem places_of {fs : List Field} (hall : fs.all (fun f => (szOf P f.type).isSome) = true) :
    ∃ pl : List (Nat × Nat), fs.mapM (fun f => (P.info? f.type).map fun i => (f.offset, i.size)) = some pl ∧ ∀ (i : Nat) (f : Field) n, fs[i]? = some f → szOf P f.type = some n → pl[i]? = some (f.offset, n) := by
  induction fs with
  | nil => exact ⟨[], rfl, by simp⟩
  | cons f fs ih =>
    simp only [List.all_cons, Bool.and_eq_true] at hall
    obtain ⟨pl, h1, h2⟩ := ih hall.2
    obtain ⟨n, hn⟩ := Option.isSome_iff_exists.1 hall.1
    obtain ⟨i, hi, hi2⟩ := szOf_eq hn
    refine ⟨(f.offset, i.size) :: pl, by simp [List.mapM_cons, hi, h1], ?_⟩
    intro j g m hg hm
    cases j with
    | zero =>
      simp at hg; subst hg
      obtain ⟨i', hi', hi2'⟩ := szOf_eq hm
      rw [hi] at hi'
      obtain rfl := Option.some.inj hi'
      simp [hi2']
    | succ j => simp at hg ⊢; exact h2 j g m hg hm
theorem snd_build (h : Rel P p σ T s a w) {o : Oper} {t : TypeId} {parts : Array (Nat × Operand)} (ho : o.op = .build t parts) {ai : AI} (hc : compOp P o = some ai) {v : AV} {s' : St} (he : evAI p.n0 ai T s = some (v, s')) : Sound P p σ s w o a v s' := by
  unfold compOp at hc; rw [ho] at hc
  dsimp only at hc
  split at hc
  · rename_i fs z h1 h2
    split at hc
    · rename_i hall
      obtain ⟨l, hl, rfl⟩ := Option.map_eq_some_iff.1 hc
      obtain ⟨i, zv, q1, q2, q3, q4, q5⟩ := zOf_sound h2
      simp only [evAI] at he
      split at he
      · rename_i z' hz'
        obtain ⟨rfl, rfl⟩ := Prod.mk.inj (Option.some.inj he)
        obtain ⟨pl, p1, p2⟩ := places_of (P := P) (fs := fs.toList) (by simpa using hall)
        obtain ⟨c', f1, f2⟩ := fill_sound h (fun x => pl.toArray[x]?) (prtS P fs) rfl (fun i x r l hh => by
            obtain ⟨f, n, o', l', e1, e2, e3, e4, e5⟩ := prtS_step i x r l hh
            exact ⟨f.offset, n, o', l', e1, by simpa using p2 i f n (by simpa using e2) e3, e4, e5⟩) parts.toList l z z' zv.cells hl (q4 σ) hz'
        refine .same h (x := .agg c') ?_ (by simp only [VR]; exact ⟨c', rfl, f2⟩)
        have hb : P.built t (parts.map fun (i, x) => (i, a.eval x)).toList = some c' := by
          simp only [Program.built, q1, h1, q2, p1]
          rw [← f1]
          congr 1
          simp
        simp only [execOp, ho]
        exact run_val (run_build w t _ c' hb)
      · cases he
    · cases hc
  · rename_i n e z h1 h2
    split at hc
    · rename_i m hm
      obtain ⟨l, hl, rfl⟩ := Option.map_eq_some_iff.1 hc
      obtain ⟨i, zv, q1, q2, q3, q4, q5⟩ := zOf_sound h2
      obtain ⟨ie, r1, r2⟩ := szOf_eq hm
      simp only [evAI] at he
      split at he
      · rename_i z' hz'
        obtain ⟨rfl, rfl⟩ := Prod.mk.inj (Option.some.inj he)
        obtain ⟨c', f1, f2⟩ := fill_sound h (fun i => some (i * m, m)) (prtA P m) rfl (fun i x r l hh => by
            obtain ⟨o', l', e1, e2, e3⟩ := prtA_step i x r l hh
            exact ⟨i * m, m, o', l', e1, rfl, e2, e3⟩) parts.toList l z z' zv.cells hl (q4 σ) hz'
        refine .same h (x := .agg c') ?_ (by simp only [VR]; exact ⟨c', rfl, f2⟩)
        have hb : P.built t (parts.map fun (i, x) => (i, a.eval x)).toList = some c' := by
          simp only [Program.built, q1, h1, q2, r1, r2]
          rw [← f1]
          congr 1
          simp
        simp only [execOp, ho]
        exact run_val (run_build w t _ c' hb)
      · cases he
    · cases hc
  · cases hc
theorem cellsOk_stC' {l : AVs} {xs : List Value} {off : Nat} {t : Tr AV} {c : Array Value} (h : VRs σ l xs) (k : cellsOk σ t c) (hs : off + xs.length ≤ c.size) : cellsOk σ (stC l off t) (ovl c off xs) := cellsOk_stC l xs off t c h k hs
theorem fillL_sound (h : Rel P p σ T s a w) (esz m : Nat) :
    ∀ (q : List (Nat × Operand)) (l : List (Nat × Nat × O)) (t t' : Tr AV) (c : Array Value), prtA P esz q = some l → cellsOk σ t c → c.size = m → bslP T m l t = some t' →
      ∃ c', Instr.fill (fun i => some (i * esz, esz)) c (q.map fun (i, x) => (i, a.eval x)) = some c' ∧ cellsOk σ t' c' ∧ c'.size = m
  | [], l, t, t', c, hl, hz, hm, hb => by
    obtain rfl := Option.some.inj hl
    obtain rfl := Option.some.inj hb
    exact ⟨c, rfl, hz, hm⟩
  | (i, x) :: q, l, t, t', c, hl, hz, hm, hb => by
    obtain ⟨o, l', rfl, h2, h3⟩ := prtA_step i x q l hl
    have hb' : (match evO T o with
      | none => none
      | some v => match Nat.beq (cellsOf v).len esz with
        | true => match Nat.ble (i * esz + esz) m with
          | true => bslP T m l' (stC (cellsOf v) (i * esz) t)
          | false => none
        | false => none) = some t' := hb
    split at hb'
    · cases hb'
    · rename_i v hv
      split at hb'
      · rename_i hn
        split at hb'
        · rename_i hle
          have hx := VR_cells (oo_sound h h2 hv)
          have hlen := hx.len
          rw [Array.length_toList] at hlen
          have hn := Nat.eq_of_beq_eq_true hn
          have hle := Nat.le_of_ble_eq_true hle
          have hput := cellsOk_stC' (off := i * esz) hx hz (by rw [Array.length_toList]; omega)
          have hfold : Array.foldl (fun cs (q : Value × Nat) => cs.setIfInBounds (i * esz + q.2) q.1) c (a.eval x).cells.zipIdx = ovl c (i * esz) (a.eval x).cells.toList := by
            rw [← Array.foldl_toList, Array.toList_zipIdx]
            exact foldl_put (i * esz) _ 0 c
          obtain ⟨c', g1, g2, g3⟩ := fillL_sound h esz m q l' _ t' (ovl c (i * esz) (a.eval x).cells.toList) h3 hput (by rw [size_ovl]; exact hm) hb'
          refine ⟨c', ?_, g2, g3⟩
          simp only [List.map_cons, Instr.fill]
          rw [if_neg (by simp; omega)]
          rw [← g1]
          congr 1
        · cases hb'
      · cases hb'
theorem fillZ_sound {z : AVs} {zs : List Value} (hz : VRs σ z zs) {zl : Nat} (hzl : zs.length = zl) : ∀ (n off : Nat) (t : Tr AV) (c : Array Value), cellsOk σ t c → (∀ j, j < n * zl → c[off + j]? = zs[j % zl]?) → cellsOk σ (fillZ z zl n off t) c
  | 0, off, t, c, h, _ => h
  | n + 1, off, t, c, h, hc => by
    have e : fillZ z zl (n + 1) off t = fillZ z zl n (off + zl) (stC z off t) := rfl
    rw [e]
    refine fillZ_sound hz hzl n (off + zl) _ c ?_ ?_
    · have key : ∀ (l : AVs) (xs : List Value) (k : Nat) (t : Tr AV), VRs σ l xs → cellsOk σ t c → (∀ j x, xs[j]? = some x → c[k + j]? = some x) → cellsOk σ (stC l k t) c := by
        intro l
        induction l using AVs.rec (motive_1 := fun _ => True) with
        | nil => intro xs k t _ ht _; exact ht
        | cons a l _ ih =>
          intro xs k t hx ht hj
          simp only [VRs] at hx
          obtain ⟨y, ys, rfl, hy, hx⟩ := hx
          rw [stC_cons]
          refine ih ys (k + 1) _ hx ?_ (fun j x hj' => by rw [show k + 1 + j = k + (j + 1) from by omega]; exact hj (j + 1) x (by simpa using hj'))
          intro j b hb
          rw [Tr.get_set] at hb
          by_cases hjk : j = k
          · subst hjk
            rw [if_pos rfl] at hb
            obtain rfl := Option.some.inj hb
            exact ⟨y, by simpa using hj 0 y rfl, hy⟩
          · rw [if_neg hjk] at hb
            exact ht j b hb
        | _ => trivial
      refine key z zs off t hz h (fun j x hj => ?_)
      have hjl : j < zl := by
        rcases Nat.lt_or_ge j zs.length with h' | h'
        · omega
        · rw [List.getElem?_eq_none h'] at hj; cases hj
      rw [hc j (by rw [Nat.add_mul]; omega), Nat.mod_eq_of_lt hjl, hj]
    · intro j hj
      rw [Nat.add_assoc, hc (zl + j) (by rw [Nat.add_mul]; omega), Nat.add_mod_left]
theorem snd_bsl (h : Rel P p σ T s a w) {o : Oper} {t : TypeId} {len : Nat} {parts : Array (Nat × Operand)} (ho : o.op = .buildSlice t len parts) {ai : AI} (hc : compOp P o = some ai) {v : AV} {s' : St} (he : evAI p.n0 ai T s = some (v, s')) (hL : s'.nxt ≤ p.lim) : Sound P p σ s w o a v s' := by
  unfold compOp at hc; rw [ho] at hc
  dsimp only at hc
  split at hc
  · rename_i e h1
    split at hc
    · rename_i n z h2 h3
      split at hc
      · rename_i hlim
        obtain ⟨l, hl, rfl⟩ := Option.map_eq_some_iff.1 hc
        obtain ⟨i, zv, q1, q2, q3, q4, q5⟩ := zOf_sound h3
        obtain ⟨i', r1, r2⟩ := szOf_eq h2
        rw [q1] at r1
        obtain rfl := Option.some.inj r1
        simp only [evAI] at he
        split at he
        · rename_i hzn
          split at he
          · rename_i tr htr
            obtain ⟨rfl, rfl⟩ := Prod.mk.inj (Option.some.inj he)
            have hzl : zv.cells.toList.length = n := by simp [q5, r2]
            have hstart : cellsOk σ (match Nat.beq l.length len with | true => .leaf | false => fillZ z n len 0 .leaf) ((Array.range (len * n)).map (zv.cells[· % zv.cells.size]!)) := by
              split
              · exact cellsOk_leaf _ _
              · refine fillZ_sound (q4 σ) hzl len 0 _ _ (cellsOk_leaf _ _) (fun j hj => ?_)
                have hn0 : 0 < n := by
                  rcases Nat.eq_zero_or_pos n with h0 | h0
                  · rw [h0] at hj; simp at hj
                  · exact h0
                have hjm : j % n < zv.cells.size := by rw [q5, r2]; exact Nat.mod_lt _ hn0
                simp only [Nat.zero_add, Array.getElem?_map, Array.getElem?_range, hj, if_true, Option.map_some, q5, r2]
                rw [Array.getElem?_toList, getElem?_pos zv.cells (j % n) hjm, getElem!_pos zv.cells (j % n) hjm]
            obtain ⟨c', f1, f2, f3⟩ := fillL_sound h n (len * n) parts.toList l _ tr _ hl hstart (by simp) htr
            obtain ⟨σ', g1, g2, g3⟩ := HR.newRow h hL e n 0 (c := c') (cells := tr) (used := len * n) (ex := true) (fun σ' he => f2.ext he) (by rw [f3]; exact Nat.le_refl _) (fun _ => f3) (fun e => by cases e) (fun e => by cases e)
            refine ⟨.slice (some ⟨w.heap.size, 0, none⟩) len len, σ', _, .inl ?_, by simp only [VR]; exact ⟨_, _, g1, rfl⟩, g3⟩
            have hlim' : ¬ (16777216 < len * n) := by omega
            have f1' : Instr.fill (fun i => some (i * n, n)) ((Array.range (len * n)).map (zv.cells[· % zv.cells.size]!)) (parts.map fun (i, x) => (i, a.eval x)).toList = some c' := by
              rw [← f1]; congr 1; simp
            simp only [execOp, ho]
            refine run_val ?_
            by_cases h0 : len * n = 0
            · have f1'' : Instr.fill (fun i => some (i * n, n)) ((Array.range (len * n)).map ((#[] : Array Value)[· % 0]!)) (parts.map fun (i, x) => (i, a.eval x)).toList = some c' := by
                rw [← f1']; congr 1; simp [h0]
              simp [Instr.buildSlice, run_underlying h1, sizeOf, typeInfo, q1, r2, h0]
              simp [h0] at f1''
              simp [f1'', newRow, newObj, Sem.run]
            · simp [Instr.buildSlice, run_underlying h1, sizeOf, typeInfo, q1, q2, r2, h0, hlim', zeroValue]
              simp at f1'
              simp [f1', newRow, newObj, Sem.run]
          · cases he
        · cases he
      · cases hc
    · cases hc
  · cases hc
end
end Go.Ev
end
section
namespace Go.Ev
open Go
set_option linter.unusedVariables false
variable [Theta]
set_option linter.unusedSectionVars false
set_option linter.unusedSimpArgs false
section
variable {P : Program} {p : Px} {σ : Env} {s : St} {w : World} {T : Tr AV} {a : Act}
theorem run_convert_ok {o : Oper} {src dst : TypeId} {x : Operand} (ho : o.op = .convert src dst x) {r : Value} {w' : World} (hr : (convert src dst (a.eval x)).run P w = .ok r w') : (execOp a.eval o).run P w = .ok (.value r) w' := by
  simp only [execOp, ho]
  exact run_val hr
theorem row_shape {r e lo hi : Nat} {c : Array Value} (h : w.heap[r]? = some (.cells c e (lo, hi))) : w.shape? r = some (e, c.size) := by
  simp [World.shape?, h]
theorem snd_cvu (h : Rel P p σ T s a w) {o : Oper} {src dst : TypeId} {x : Operand} (ho : o.op = .convert src dst x) {t : TypeId} {j : TypeInfo} (h1 : P.underlying src = some (.pointer t)) (h2 : P.underlying dst = some .unsafePointer) (h3 : P.info? t = some j) (h4 : j.size ≠ 0)
    {x' : O} (hx' : oo P x = some x') {v : AV} {s' : St} (he : evAI p.n0 (.cvp x') T s = some (v, s')) : Sound P p σ s w o a v s' := by
  simp only [evAI] at he
  split at he
  · rename_i b off hX
    have hx := oo_sound h hx' hX
    split at he
    · rename_i e esz cells used ex fz hg
      split at he
      · rename_i hlt
        have hlt : off < used := by simpa [Nat.blt_eq] using hlt
        obtain ⟨rfl, rfl⟩ := Prod.mk.inj (Option.some.inj he)
        have hxx := hx
        simp only [VR] at hxx
        obtain ⟨r, κ, e1, e2⟩ := hxx
        obtain ⟨c, lo, hi, g1, g2, g3, _⟩ := h.h.row hg e1
        refine .same h (run_convert_ok ho ?_) hx
        rw [e2]
        exact Lib.run_to_unsafe (P := P) w ⟨r, off, none⟩ h1 h2 h3 h4 (row_shape g1) (Nat.lt_of_lt_of_le hlt g3)
      · cases he
    · cases he
  · cases he
theorem snd_cvq (h : Rel P p σ T s a w) {o : Oper} {src dst : TypeId} {x : Operand} (ho : o.op = .convert src dst x) {t : TypeId} {j : TypeInfo} (h1 : P.underlying src = some .unsafePointer) (h2 : P.underlying dst = some (.pointer t)) (h3 : P.info? t = some j)
    {x' : O} (hx' : oo P x = some x') {v : AV} {s' : St} (he : evAI p.n0 (.cvq (fun e n off => liesAt P P.depth e (n / P.cellsOf e) off t 1) x') T s = some (v, s')) : Sound P p σ s w o a v s' := by
  simp only [evAI] at he
  split at he
  · rename_i b off hX
    have hx := oo_sound h hx' hX
    split at he
    · rename_i e esz cells used fz hg
      split at he
      · rename_i hl
        obtain ⟨rfl, rfl⟩ := Prod.mk.inj (Option.some.inj he)
        have hxx := hx
        simp only [VR] at hxx
        obtain ⟨r, κ, e1, e2⟩ := hxx
        obtain ⟨c, lo, hi, g1, g2, g3, g4, _⟩ := h.h.row hg e1
        refine .same h (run_convert_ok ho ?_) hx
        rw [e2]
        exact Lib.run_from_unsafe (P := P) w ⟨r, off, none⟩ h1 h2 h3 (row_shape g1) (by rw [g4 rfl]; exact hl)
      · cases he
    · cases he
  · cases he
end
end Go.Ev
end
section
namespace Go.Ev
open Go
set_option linter.unusedVariables false
variable [Theta]
set_option linter.unusedSectionVars false
set_option linter.unusedSimpArgs false
section
variable {P : Program} {p : Px} {σ : Env} {s : St} {w : World} {T : Tr AV} {a : Act}
theorem oL_nil {l : List Operand} (h : oL P l = some []) : l = [] := by
  cases l with
  | nil => rfl
  | cons x r =>
    simp only [oL] at h
    split at h
    · cases h
    · split at h
      · cases h
      · cases h
theorem oL_cons {l : List Operand} {x : O} {r : List O} (h : oL P l = some (x :: r)) : ∃ y l', l = y :: l' ∧ oo P y = some x ∧ oL P l' = some r := by
  cases l with
  | nil => cases h
  | cons y l' =>
    simp only [oL] at h
    split at h
    · cases h
    · rename_i b hb
      split at h
      · cases h
      · rename_i q hq
        obtain ⟨rfl, rfl⟩ := List.cons.inj (Option.some.inj h)
        exact ⟨y, l', rfl, hb, hq⟩
theorem oL_one {l : Array Operand} {x : O} (h : oL P l.toList = some [x]) : ∃ y, l = #[y] ∧ oo P y = some x := by
  obtain ⟨y, l', h1, h2, h3⟩ := oL_cons h
  have := oL_nil h3
  subst this
  exact ⟨y, Array.ext' h1, h2⟩
theorem oL_two {l : Array Operand} {x z : O} (h : oL P l.toList = some [x, z]) : ∃ y u, l = #[y, u] ∧ oo P y = some x ∧ oo P u = some z := by
  obtain ⟨y, l', h1, h2, h3⟩ := oL_cons h
  obtain ⟨u, l'', h4, h5, h6⟩ := oL_cons h3
  have := oL_nil h6
  subst this; subst h4
  exact ⟨y, u, Array.ext' h1, h2, h5⟩
theorem run_builtin {o : Oper} {c : Call} (ho : o.op = .call c) {b : Builtin} (hb : c.callee = .builtin b) {m : Sem Value}
    (hm : builtin b c.argTypes o.type (c.args.map fun | .const _ => true | _ => false) (c.args.map a.eval) = (do pure (.value (← m)) : Sem Next)) {r : Value} {w' : World} (hr : m.run P w = .ok r w') :
    (execOp a.eval o).run P w = .ok (.value r) w' := by
  have e : resolve a.eval c o.type = pure { target := .builtin b c.argTypes o.type (c.args.map fun | .const _ => true | _ => false), args := c.args.map a.eval } := by
    unfold resolve; rw [hb]; rfl
  simp only [execOp, ho, e, Sem.run_bind, Sem.run_pure, Result.andThen_ok]
  simp only [invoke, hm, Sem.run_bind, hr, Result.andThen_ok, Sem.run_pure]
theorem types_cons {l : Array TypeId} {t : TypeId} {r : List TypeId} (h : l.toList = t :: r) : l[0]? = some t := by rw [← Array.getElem?_toList, h]; rfl
theorem snd_len (h : Rel P p σ T s a w) {o : Oper} {c : Call} (ho : o.op = .call c) (hb : c.callee = .builtin .len) {ai : AI} (hc : compOp P o = some ai) {v : AV} {s' : St} (he : evAI p.n0 ai T s = some (v, s')) : Sound P p σ s w o a v s' := by
  unfold compOp at hc; rw [ho] at hc
  simp only [hb] at hc
  split at hc
  · rename_i t ts x h1 h2
    have hts := types_cons h1
    obtain ⟨y, hy1, hy2⟩ := oL_one h2
    split at hc
    · rename_i hd
      obtain rfl := (Option.some.inj hc).symm
      simp only [evAI] at he
      split at he
      · rename_i n q hX
        obtain ⟨rfl, rfl⟩ := Prod.mk.inj (Option.some.inj he)
        have hx := oo_sound h hy2 hX
        simp only [VR] at hx
        obtain ⟨bs, e1, e2, e3⟩ := hx
        refine .same h (run_builtin ho hb rfl (r := .int .i64 (n : Int)) ?_) (by simp only [VR]; rfl)
        simp [Builtin.len_, hts, hy1, e1, run_underlying hd, goInt, e2]
      · cases he
    · rename_i e hd
      obtain rfl := (Option.some.inj hc).symm
      simp only [evAI] at he
      split at he
      · rename_i b off n c' hX
        obtain ⟨rfl, rfl⟩ := Prod.mk.inj (Option.some.inj he)
        have hx := oo_sound h hy2 hX
        simp only [VR] at hx
        obtain ⟨_, _, _, e1⟩ := hx
        refine .same h (run_builtin ho hb rfl (r := .int .i64 (n : Int)) ?_) (by simp only [VR]; rfl)
        simp [Builtin.len_, hts, hy1, e1, run_underlying hd, goInt]
      · rename_i b off n c' hX
        obtain ⟨rfl, rfl⟩ := Prod.mk.inj (Option.some.inj he)
        have hx := oo_sound h hy2 hX
        simp only [VR] at hx
        obtain ⟨_, _, _, _, e1⟩ := hx
        refine .same h (run_builtin ho hb rfl (r := .int .i64 (n : Int)) ?_) (by simp only [VR]; rfl)
        simp [Builtin.len_, hts, hy1, e1, run_underlying hd, goInt]
      · rename_i hX
        obtain ⟨rfl, rfl⟩ := Prod.mk.inj (Option.some.inj he)
        have hx := oo_sound h hy2 hX
        simp only [VR] at hx
        refine .same h (run_builtin ho hb rfl (r := .int .i64 (0 : Nat)) ?_) (by simp only [VR]; rfl)
        simp [Builtin.len_, hts, hy1, hx, run_underlying hd, goInt]
      · cases he
    · rename_i n e hd
      obtain rfl := (Option.some.inj hc).symm
      simp only [evAI, evO] at he
      obtain ⟨h1, rfl⟩ := pure1_some he
      obtain rfl := (Option.some.inj h1).symm
      refine .same h (run_builtin ho hb rfl (r := .int .i64 (n : Int)) ?_) (by simp only [VR]; rfl)
      simp [Builtin.len_, hts, hy1, run_underlying hd, goInt]
    · cases hc
  · cases hc
theorem snd_cap (h : Rel P p σ T s a w) {o : Oper} {c : Call} (ho : o.op = .call c) (hb : c.callee = .builtin .cap) {ai : AI} (hc : compOp P o = some ai) {v : AV} {s' : St} (he : evAI p.n0 ai T s = some (v, s')) : Sound P p σ s w o a v s' := by
  unfold compOp at hc; rw [ho] at hc
  simp only [hb] at hc
  split at hc
  · rename_i t ts x h1 h2
    have hts := types_cons h1
    obtain ⟨y, hy1, hy2⟩ := oL_one h2
    split at hc
    · rename_i e hd
      obtain rfl := (Option.some.inj hc).symm
      simp only [evAI] at he
      split at he
      · rename_i b off n c' hX
        obtain ⟨rfl, rfl⟩ := Prod.mk.inj (Option.some.inj he)
        have hx := oo_sound h hy2 hX
        simp only [VR] at hx
        obtain ⟨_, _, _, e1⟩ := hx
        refine .same h (run_builtin ho hb rfl (r := .int .i64 (c' : Int)) ?_) (by simp only [VR]; rfl)
        simp [Builtin.cap_, hts, hy1, e1, run_underlying hd, goInt]
      · rename_i hX
        obtain ⟨rfl, rfl⟩ := Prod.mk.inj (Option.some.inj he)
        have hx := oo_sound h hy2 hX
        simp only [VR] at hx
        refine .same h (run_builtin ho hb rfl (r := .int .i64 (0 : Nat)) ?_) (by simp only [VR]; rfl)
        simp [Builtin.cap_, hts, hy1, hx, run_underlying hd, goInt]
      · cases he
    · cases hc
  · cases hc
theorem snd_min (h : Rel P p σ T s a w) {o : Oper} {c : Call} (ho : o.op = .call c) (hb : c.callee = .builtin .min) {ai : AI} (hc : compOp P o = some ai) {v : AV} {s' : St} (he : evAI p.n0 ai T s = some (v, s')) : Sound P p σ s w o a v s' := by
  unfold compOp at hc; rw [ho] at hc
  simp only [hb] at hc
  split at hc
  · rename_i x z h2
    obtain ⟨y, u, hy1, hy2, hy3⟩ := oL_two h2
    obtain rfl := (Option.some.inj hc).symm
    simp only [evAI] at he
    split at he
    · rename_i k A hX
      split at he
      · rename_i k' B hY
        obtain ⟨rfl, rfl⟩ := Prod.mk.inj (Option.some.inj he)
        have hx := oo_sound h hy2 hX
        have hy := oo_sound h hy3 hY
        simp only [VR] at hx hy
        refine .same h (run_builtin ho hb rfl (r := .int k (if B < A then B else A)) ?_) ?_
        · simp [Builtin.min_, hy1, hx, hy, Builtin.min2]
        · simp only [VR]
          rw [ile_eq]
          by_cases hlt : A ≤ B
          · rw [if_neg (by omega), decide_eq_true hlt]
          · rw [if_pos (by omega), decide_eq_false hlt]
      · cases he
    · cases he
  · cases hc
theorem snd_max (h : Rel P p σ T s a w) {o : Oper} {c : Call} (ho : o.op = .call c) (hb : c.callee = .builtin .max) {ai : AI} (hc : compOp P o = some ai) {v : AV} {s' : St} (he : evAI p.n0 ai T s = some (v, s')) : Sound P p σ s w o a v s' := by
  unfold compOp at hc; rw [ho] at hc
  simp only [hb] at hc
  split at hc
  · rename_i x z h2
    obtain ⟨y, u, hy1, hy2, hy3⟩ := oL_two h2
    obtain rfl := (Option.some.inj hc).symm
    simp only [evAI] at he
    split at he
    · rename_i k A hX
      split at he
      · rename_i k' B hY
        obtain ⟨rfl, rfl⟩ := Prod.mk.inj (Option.some.inj he)
        have hx := oo_sound h hy2 hX
        have hy := oo_sound h hy3 hY
        simp only [VR] at hx hy
        refine .same h (run_builtin ho hb rfl (r := .int k (if A < B then B else A)) ?_) ?_
        · simp [Builtin.max_, hy1, hx, hy, Builtin.max2]
        · simp only [VR]
          rw [ile_eq]
          by_cases hlt : B ≤ A
          · rw [if_neg (by omega), decide_eq_true hlt]
          · rw [if_pos (by omega), decide_eq_false hlt]
      · cases he
    · cases he
  · cases hc
theorem nilAhead_sound {name : String} {t f : Nat} (h : methF P name t = some f) {v : Value} {w : World} (fuel : Nat) : (nilAhead (fuel + 1) t v name).run P w = .ok (some false) w := by
  unfold methF at h
  split at h
  · cases h
  · rename_i i hi
    split at h
    · cases h
    · rename_i m hm
      split at h
      · rename_i hp
        split at h
        · cases h
        · rename_i g hf
          split at h
          · rename_i e hu
            simp [nilAhead, typeInfo, program, hi, hm, hp, followBlind, hf, run_underlying hu, Sem.run]
          · cases h
        · rename_i g hf
          split at h
          · cases h
          · rename_i d hd hu
            cases d <;> first
              | exact (hd _ rfl).elim
              | simp [nilAhead, typeInfo, program, hi, hm, hp, followBlind, hf, run_underlying hu, Sem.run]
          · cases h
      · cases h
theorem snd_nilc (h : Rel P p σ T s a w) {o : Oper} {x : Operand} (ho : o.op = .nilCheck x) {ai : AI} (hc : compOp P o = some ai) {v : AV} {s' : St} (he : evAI p.n0 ai T s = some (v, s')) : Sound P p σ s w o a v s' := by
  unfold compOp at hc; rw [ho] at hc
  obtain ⟨x', h1, rfl⟩ := Option.map_eq_some_iff.1 hc
  simp only [evAI] at he
  split at he
  · rename_i b o' hX
    obtain ⟨rfl, rfl⟩ := Prod.mk.inj (Option.some.inj he)
    have hx := oo_sound h h1 hX
    have hx' := hx
    simp only [VR] at hx'
    obtain ⟨r, κ, e1, e2⟩ := hx'
    refine .same h (x := a.eval x) ?_ hx
    simp [execOp, ho, e2]
  · rename_i nm t u hX
    split at he
    · rename_i hm
      obtain ⟨rfl, rfl⟩ := Prod.mk.inj (Option.some.inj he)
      obtain ⟨f, hf⟩ := Option.isSome_iff_exists.1 hm
      have hx := oo_sound h h1 hX
      have hx' := hx
      simp only [VR] at hx'
      obtain ⟨y, e1, e2⟩ := hx'
      refine .same h (x := a.eval x) ?_ hx
      have hn := nilAhead_sound (v := y) (w := w) hf (P.types.size + 99)
      simp [execOp, ho, e1, program, Sem.run, Made.depth, hn]
    · cases he
  · cases he
theorem snd_mkf (h : Rel P p σ T s a w) {o : Oper} {fn : Fn} {fi cs : Array Operand} (ho : o.op = .makeFunc fn fi cs) {ai : AI} (hc : compOp P o = some ai) {v : AV} {s' : St} (he : evAI p.n0 ai T s = some (v, s')) : Sound P p σ s w o a v s' := by
  unfold compOp at hc; rw [ho] at hc
  dsimp only at hc
  split at hc
  · rename_i f
    split at hc
    · rename_i hfi
      obtain ⟨l, h1, rfl⟩ := Option.map_eq_some_iff.1 hc
      simp only [evAI] at he
      split at he
      · rename_i r hr
        obtain ⟨rfl, rfl⟩ := Prod.mk.inj (Option.some.inj he)
        have hx := oL_sound h h1 hr
        have : fi = #[] := by simpa using hfi
        subst this
        refine .same h (x := .func (.func f) #[] (cs.map a.eval)) ?_ (by simp only [VR]; exact ⟨_, rfl, by simpa using hx⟩)
        simp [execOp, ho, Instr.makeFunc]
      · cases he
    · split at hc
      · rename_i hcs
        obtain ⟨l, h1, rfl⟩ := Option.map_eq_some_iff.1 hc
        simp only [evAI] at he
        split at he
        · rename_i r hr
          obtain ⟨rfl, rfl⟩ := Prod.mk.inj (Option.some.inj he)
          have hx := oL_sound h h1 hr
          have : cs = #[] := by simpa using hcs
          subst this
          refine .same h (x := .func (.func f) (fi.map a.eval) #[]) ?_ (by simp only [VR]; exact ⟨_, rfl, by simpa using hx⟩)
          simp [execOp, ho, Instr.makeFunc]
        · cases he
      · cases hc
  · rename_i nm
    split at hc
    · rename_i x hfi hcs
      obtain ⟨x', h1, rfl⟩ := Option.map_eq_some_iff.1 hc
      simp only [evAI] at he
      split at he
      · rename_i t u hX
        obtain ⟨rfl, rfl⟩ := Prod.mk.inj (Option.some.inj he)
        have hx := oo_sound h h1 hX
        simp only [VR] at hx
        obtain ⟨y, e1, e2⟩ := hx
        have e3 : fi = #[x] := by simpa using congrArg List.toArray hfi
        have e4 : cs = #[] := by simpa using congrArg List.toArray hcs
        subst e3
        subst e4
        refine .same h (x := .func (.method nm) #[.iface t y] #[]) ?_ (by simp only [VR]; exact ⟨_, rfl, e2⟩)
        simp [execOp, ho, Instr.makeFunc, e1]
      · cases he
    · cases hc
  · cases hc
theorem zV_sound {t : TypeId} {z : AV} (h : zV P t = some z) (σ : Env) (w : World) : ∃ v, (zeroValue t).run P w = .ok v w ∧ VR σ z v := by
  unfold zV at h
  split at h
  · rename_i i hi
    split at h
    · rename_i v hv
      exact ⟨v, by simp [zeroValue, typeInfo, program, hi, hv, Sem.run], cv_sound _ _ _ h σ⟩
    · cases h
  · cases h
theorem snd_tas (h : Rel P p σ T s a w) {o : Oper} {x : Operand} {xt t : TypeId} {ok : Bool} (ho : o.op = .typeAssert x xt t ok) {ai : AI} (hc : compOp P o = some ai) {v : AV} {s' : St} (he : evAI p.n0 ai T s = some (v, s')) : Sound P p σ s w o a v s' := by
  unfold compOp at hc; rw [ho] at hc
  dsimp only at hc
  split at hc
  · rename_i want x' hu h1 hz
    obtain rfl := (Option.some.inj hc).symm
    obtain ⟨zv, hz1, hz2⟩ := zV_sound hz σ w
    simp only [VR] at hz2
    subst hz2
    simp only [evAI] at he
    split at he
    · rename_i u y hX
      have hx := oo_sound h h1 hX
      have hx' := hx
      simp only [VR] at hx'
      obtain ⟨X, e1, e2⟩ := hx'
      split at he
      · rename_i him
        unfold implF at him
        split at him
        · cases him
        · rename_i i hi
          have hm : Instr.missingMethod want i.methods = none := by
            have := Option.some.inj him
            split at this
            · assumption
            · cases this
          split at he
          · obtain ⟨rfl, rfl⟩ := Prod.mk.inj (Option.some.inj he)
            refine .same h (x := .tuple #[a.eval x, .bool true]) ?_ (by simp only [VR]; exact ⟨_, rfl, by simp only [VRs]; exact ⟨_, _, rfl, hx, _, _, rfl, by simp only [VR], rfl⟩⟩)
            simp [execOp, ho, Instr.typeAssert, run_underlying hu, e1, typeInfo, program, hi, hm, Sem.run]
          · obtain ⟨rfl, rfl⟩ := Prod.mk.inj (Option.some.inj he)
            refine .same h (x := a.eval x) ?_ hx
            simp [execOp, ho, Instr.typeAssert, run_underlying hu, e1, typeInfo, program, hi, hm, Sem.run]
      · rename_i him
        unfold implF at him
        split at him
        · cases him
        · rename_i i hi
          obtain ⟨m, hm⟩ : ∃ m, Instr.missingMethod want i.methods = some m := by
            have := Option.some.inj him
            split at this
            · cases this
            · exact ⟨_, by assumption⟩
          split at he
          · obtain ⟨rfl, rfl⟩ := Prod.mk.inj (Option.some.inj he)
            refine .same h (x := .tuple #[.nilIface, .bool false]) ?_ (by simp only [VR]; exact ⟨_, rfl, by simp only [VRs]; exact ⟨_, _, rfl, by simp only [VR], _, _, rfl, by simp only [VR], rfl⟩⟩)
            simp [execOp, ho, Instr.typeAssert, run_underlying hu, e1, typeInfo, program, hi, hm, hz1, Sem.run]
          · cases he
      · cases he
    · rename_i hX
      have hx := oo_sound h h1 hX
      simp only [VR] at hx
      split at he
      · obtain ⟨rfl, rfl⟩ := Prod.mk.inj (Option.some.inj he)
        refine .same h (x := .tuple #[.nilIface, .bool false]) ?_ (by simp only [VR]; exact ⟨_, rfl, by simp only [VRs]; exact ⟨_, _, rfl, by simp only [VR], _, _, rfl, by simp only [VR], rfl⟩⟩)
        simp [execOp, ho, Instr.typeAssert, run_underlying hu, hx, hz1]
      · cases he
    · cases he
  · cases hc
  · rename_i d x' z hni hd h1 hz
    obtain rfl := (Option.some.inj hc).symm
    obtain ⟨zv, hz1, hz2⟩ := zV_sound hz σ w
    simp only [evAI] at he
    split at he
    · rename_i u y hX
      have hx := oo_sound h h1 hX
      simp only [VR] at hx
      obtain ⟨X, e1, e2⟩ := hx
      split at he
      · rename_i hut
        have hut := Nat.eq_of_beq_eq_true hut
        subst hut
        split at he
        · obtain ⟨rfl, rfl⟩ := Prod.mk.inj (Option.some.inj he)
          refine .same h (x := .tuple #[X, .bool true]) ?_ (by simp only [VR]; exact ⟨_, rfl, by simp only [VRs]; exact ⟨_, _, rfl, e2, _, _, rfl, by simp only [VR], rfl⟩⟩)
          cases d <;> first
            | exact (hni _ rfl).elim
            | simp [execOp, ho, Instr.typeAssert, run_underlying hd, e1]
        · obtain ⟨rfl, rfl⟩ := Prod.mk.inj (Option.some.inj he)
          refine .same h (x := X) ?_ e2
          cases d <;> first
            | exact (hni _ rfl).elim
            | simp [execOp, ho, Instr.typeAssert, run_underlying hd, e1]
      · rename_i hut
        have hut : ¬ u = t := by intro e; subst e; simp at hut
        split at he
        · obtain ⟨rfl, rfl⟩ := Prod.mk.inj (Option.some.inj he)
          refine .same h (x := .tuple #[zv, .bool false]) ?_ (by simp only [VR]; exact ⟨_, rfl, by simp only [VRs]; exact ⟨_, _, rfl, hz2, _, _, rfl, by simp only [VR], rfl⟩⟩)
          cases d <;> first
            | exact (hni _ rfl).elim
            | simp [execOp, ho, Instr.typeAssert, run_underlying hd, e1, hut, hz1]
        · cases he
    · rename_i hX
      have hx := oo_sound h h1 hX
      simp only [VR] at hx
      split at he
      · obtain ⟨rfl, rfl⟩ := Prod.mk.inj (Option.some.inj he)
        refine .same h (x := .tuple #[zv, .bool false]) ?_ (by simp only [VR]; exact ⟨_, rfl, by simp only [VRs]; exact ⟨_, _, rfl, hz2, _, _, rfl, by simp only [VR], rfl⟩⟩)
        cases d <;> first
          | exact (hni _ rfl).elim
          | simp [execOp, ho, Instr.typeAssert, run_underlying hd, hx, hz1]
      · cases he
    · cases he
  · cases hc
theorem snd_mki (h : Rel P p σ T s a w) {o : Oper} {t : TypeId} {x : Operand} (ho : o.op = .makeInterface t x) {ai : AI} (hc : compOp P o = some ai) {v : AV} {s' : St} (he : evAI p.n0 ai T s = some (v, s')) : Sound P p σ s w o a v s' := by
  unfold compOp at hc; rw [ho] at hc
  dsimp only at hc
  split at hc
  · cases hc
  · rename_i d x' hni hd h1
    obtain rfl := (Option.some.inj hc).symm
    simp only [evAI] at he
    split at he
    · rename_i X hX
      obtain ⟨rfl, rfl⟩ := Prod.mk.inj (Option.some.inj he)
      have hx := oo_sound h h1 hX
      refine .same h (x := .iface t (a.eval x)) ?_ (by simp only [VR]; exact ⟨_, rfl, hx⟩)
      cases d <;> first
        | exact (hni _ rfl).elim
        | simp [execOp, ho, Instr.makeInterface, run_underlying hd]
    · cases he
  · cases hc
theorem sbytes_sound : ∀ (k : Nat) (l : List UInt8) (acc : AVs) (xs : List Value), l.length = k → VRs σ acc xs → VRs σ (sbytes k (bval l) acc) (l.map (fun b => Value.int .u8 b.toNat) ++ xs) := by
  intro k
  induction k with
  | zero =>
    intro l acc xs hl h
    obtain rfl := List.length_eq_zero_iff.1 hl
    exact h
  | succ k ih =>
    intro l acc xs hl h
    have hne : l ≠ [] := by intro e; subst e; simp at hl
    obtain ⟨l', b, rfl⟩ : ∃ l' b, l = l' ++ [b] := ⟨l.dropLast, l.getLast hne, (List.dropLast_concat_getLast hne).symm⟩
    simp only [List.length_append, List.length_cons, List.length_nil] at hl
    have hb : b.toNat < 256 := b.toNat_lt
    have e2 : bval (l' ++ [b]) / 256 = bval l' := by rw [bval_append]; simp only [List.length_cons, List.length_nil, bval]; omega
    have e3 : bval (l' ++ [b]) % 256 = b.toNat := by rw [bval_append]; simp only [List.length_cons, List.length_nil, bval]; omega
    have e : sbytes (k + 1) (bval (l' ++ [b])) acc = sbytes k (bval (l' ++ [b]) / 256) (.cons (.i .u8 (.ofNat (bval (l' ++ [b]) % 256))) acc) := rfl
    rw [e, e2, e3]
    have := ih l' (.cons (.i .u8 (.ofNat b.toNat)) acc) (.int .u8 b.toNat :: xs) (by omega) (by simp only [VRs, VR]; exact ⟨_, xs, rfl, rfl, h⟩)
    simpa using this
theorem sbytes_str {bs : ByteArray} {len n : Nat} (h1 : bs.size = len) (h2 : bval bs.data.toList = n) : VRs σ (sbytes len n .nil) (bs.data.toList.map (fun b => Value.int .u8 b.toNat)) := by
  have := sbytes_sound (σ := σ) len bs.data.toList .nil [] (by simpa using h1) (by simp only [VRs])
  rw [h2, List.append_nil] at this
  exact this
theorem sofA_sound : ∀ (l : AVs) (xs : List Value) (len n a' n' : Nat) (acc : ByteArray), VRs σ l xs → sofA l len n = some (a', n') → acc.size = len → bval acc.data.toList = n →
    ∃ ns : List Int, xs = ns.map (Value.int .u8) ∧ (ns.foldl (fun r n => r.push (UInt8.ofNat n.toNat)) acc).size = a' ∧ bval (ns.foldl (fun r n => r.push (UInt8.ofNat n.toNat)) acc).data.toList = n'
  | .nil, xs, len, n, a', n', acc, h, he, h1, h2 => by
    simp only [VRs] at h; subst h
    simp only [sofA] at he
    obtain ⟨rfl, rfl⟩ := Prod.mk.inj (Option.some.inj he)
    exact ⟨[], rfl, h1, h2⟩
  | .cons v l, xs, len, n, a', n', acc, h, he, h1, h2 => by
    simp only [VRs] at h
    obtain ⟨y, ys, rfl, hy, h⟩ := h
    unfold sofA at he
    split at he
    · rename_i heq; cases heq
    · rename_i q b l' heq
      obtain ⟨rfl, rfl⟩ := AVs.cons.inj heq
      split at he
      · rename_i hb
        have hb : b < 256 := by simpa [Nat.blt_eq] using hb
        simp only [VR] at hy
        have e : (UInt8.ofNat b).toNat = b := by simp; omega
        obtain ⟨ns, g1, g2, g3⟩ := sofA_sound l ys _ _ a' n' (acc.push (UInt8.ofNat b)) h he (by simp [h1]) (by
          have : (acc.push (UInt8.ofNat b)).data.toList = acc.data.toList ++ [UInt8.ofNat b] := by simp
          rw [this, bval_append, h2]
          simp only [List.length_cons, List.length_nil, bval, e]
          omega)
        exact ⟨(b : Int) :: ns, by rw [g1, hy]; rfl, by simpa using g2, by simpa using g3⟩
      · cases he
    · cases he
theorem ldC'_sound (P : Program) (h : HR p σ s w) {b off n r κ : Nat} {l : AVs} (he : srcA.ldC' s b off n = some l) (hs : σ b = some (r, κ)) :
    ∃ xs : List Value, xs.length = n ∧ VRs σ l xs ∧ (loadCells ⟨r, off, none⟩ n).run P w = .ok xs.toArray w := by
  unfold srcA.ldC' at he
  split at he
  · obtain rfl := (Option.some.inj he).symm
    exact ⟨[], rfl, by simp only [VRs], by simpa using run_loadCells_list (P := P) w ⟨r, off, none⟩ [] (by simp)⟩
  · split at he
    · rename_i hg
      exact h.ldn P hg hs he
    · cases he
theorem snd_convert (h : Rel P p σ T s a w) {o : Oper} {src dst : TypeId} {x : Operand} (ho : o.op = .convert src dst x) {ai : AI} (hc : compOp P o = some ai) {v : AV} {s' : St} (he : evAI p.n0 ai T s = some (v, s')) (hL : s'.nxt ≤ p.lim) : Sound P p σ s w o a v s' := by
  unfold compOp at hc; rw [ho] at hc
  dsimp only at hc
  split at hc
  · rename_i k1 k x' h1 h2 h3
    obtain rfl := (Option.some.inj hc).symm
    simp only [evAI] at he
    split at he
    · rename_i k2 n hX
      obtain ⟨rfl, rfl⟩ := Prod.mk.inj (Option.some.inj he)
      have hx := oo_sound h h3 hX
      simp only [VR] at hx
      refine .same h (run_convert_ok ho (r := .int k (wr k n)) ?_) (by simp only [VR])
      simp [convert, run_underlying h1, run_underlying h2, hx, Conv.intToInt, wr_eq]
    · cases he
  · rename_i x' h1 h2 h3
    obtain rfl := (Option.some.inj hc).symm
    simp only [evAI] at he
    split at he
    · rename_i l n hX
      obtain ⟨rfl, rfl⟩ := Prod.mk.inj (Option.some.inj he)
      have hx := oo_sound h h3 hX
      have hx' := hx
      simp only [VR] at hx'
      obtain ⟨bs, e1, _⟩ := hx'
      refine .same h (run_convert_ok ho (r := a.eval x) ?_) hx
      simp [convert, run_underlying h1, run_underlying h2, e1]
    · cases he
  · rename_i e x' h1 h2 h3
    split at hc
    · rename_i h4 h5
      obtain rfl := (Option.some.inj hc).symm
      simp only [evAI] at he
      split at he
      · rename_i l n hX
        split at he
        · rename_i hlt
          obtain ⟨rfl, rfl⟩ := Prod.mk.inj (Option.some.inj he)
          have hx := oo_sound h h3 hX
          simp only [VR] at hx
          obtain ⟨bs, e1, e2, e3⟩ := hx
          have hlt : l < 1099511627776 := by simpa [Nat.blt_eq] using hlt
          have hrun := run_bytes_of_string (P := P) w src dst e bs h1 h2 h4
          have hcap : l ≤ grownCap w bs.size 0 e := by
            rw [e2]; unfold grownCap; simp [Question.cut]
          have hbr : bytesRow bs (grownCap w bs.size 0 e) = ((bs.data.toList.map (fun b => Value.int .u8 b.toNat)) ++ List.replicate (grownCap w bs.size 0 e - bs.size) (Value.int .u8 0)).toArray := by
            unfold bytesRow; simp
          have hsz : (bytesRow bs (grownCap w bs.size 0 e)).size = grownCap w bs.size 0 e := by
            rw [hbr]; simp; omega
          have hdr : Rel P p σ T s a w.drew := ⟨h.t, h.h.drew, h.ng, h.n0, h.g0⟩
          have g := hdr.h.new h.n0 h.g0 hL (grownCap w bs.size 0 e) (.row e 1 (stC (sbytes l n .nil) 0 .leaf) l false 1)
            (.cells (bytesRow bs (grownCap w bs.size 0 e)) e ((bytesRow bs (grownCap w bs.size 0 e)).size, (bytesRow bs (grownCap w bs.size 0 e)).size + 1)) (by
              refine ⟨_, _, _, rfl, ?a, by rw [hsz]; exact hcap, (fun hh => nomatch hh), (fun _ => by rw [hsz]; omega), (fun _ j hj => by omega), (fun hh => nomatch hh), fun j a' hj => ?b⟩
              case b =>
                rcases stC_dom _ _ _ _ _ hj with hj | hj
                · have := (sbytes_str (σ := σ) e2 e3).len
                  simp at this
                  omega
                · rw [Tr.get_leaf] at hj; cases hj
              case a =>
               have hl := cellsOk_lay (sbytes_str (σ := Env.put σ s.nxt (w.drew.heap.size, grownCap w bs.size 0 e)) e2 e3)
               intro j a' hj
               obtain ⟨x, q1, q2⟩ := hl j a' hj
               refine ⟨x, ?_, q2⟩
               rw [hbr, List.getElem?_toArray, List.getElem?_append_left]
               · simpa using q1
               · rcases Nat.lt_or_ge j (bs.data.toList.map (fun b => Value.int .u8 b.toNat)).length with h' | h'
                 · exact h'
                 · rw [List.getElem?_toArray, List.getElem?_eq_none h'] at q1; cases q1)
          refine ⟨.slice (some ⟨w.heap.size, 0, none⟩) bs.size (grownCap w bs.size 0 e), _, _, .inl (run_convert_ok ho (by rw [e1]; exact hrun)), ?_, (Good.drew h.h).trans g⟩
          simp only [VR]
          refine ⟨w.heap.size, grownCap w bs.size 0 e, _, by unfold Env.put; rw [if_pos rfl]; rfl, by omega, .inl rfl, by rw [e2]; rfl⟩
        · cases he
      · cases he
    · cases hc
  · rename_i t x' h1 h2 h3
    split at hc
    · rename_i k hk
      obtain rfl := (Option.some.inj hc).symm
      obtain ⟨j, hj, hj2⟩ := szOf_eq hk
      exact snd_cvu h ho h1 h2 hj (by omega) h3 he
    · cases hc
  · rename_i t x' h1 h2 h3
    split at hc
    · rename_i k hk
      obtain rfl := (Option.some.inj hc).symm
      obtain ⟨j, hj, hj2⟩ := szOf_eq hk
      exact snd_cvq h ho h1 h2 hj h3 he
    · cases hc
  · rename_i e x' h1 h2 h3
    split at hc
    · rename_i h4
      obtain rfl := (Option.some.inj hc).symm
      simp only [evAI] at he
      split at he
      · rename_i hX
        obtain ⟨rfl, rfl⟩ := Prod.mk.inj (Option.some.inj he)
        have hx := oo_sound h h3 hX
        simp only [VR] at hx
        refine .same h (run_convert_ok ho (r := .string ByteArray.empty) ?_) (by simp only [VR]; exact ⟨_, rfl, rfl, rfl⟩)
        simp [convert, run_underlying h1, run_underlying h2, run_underlying h4, hx, Conv.bytesToString]
      · rename_i b off len cap hX
        split at he
        · cases he
        · rename_i l hl
          split at he
          · rename_i a' n' hs
            obtain ⟨rfl, rfl⟩ := Prod.mk.inj (Option.some.inj he)
            have hx := oo_sound h h3 hX
            simp only [VR] at hx
            obtain ⟨r, κ, e1, e2⟩ := hx
            obtain ⟨xs, q1, q2, q3⟩ := ldC'_sound P h.h hl e1
            obtain ⟨ns, g1, g2, g3⟩ := sofA_sound l xs 0 0 a' n' ByteArray.empty q2 hs rfl rfl
            subst g1
            have := run_bytesToString (P := P) w ⟨r, off, none⟩ len cap ns q3
            refine .same h (run_convert_ok ho (r := .string _) ?_) (by simp only [VR]; exact ⟨_, rfl, g2, g3⟩)
            rw [e2, run_convert_bytes_string w src dst e _ _ _ h1 h4 h2]
            exact this
          · cases he
      · rename_i b off len cap hX
        split at he
        · cases he
        · rename_i l hl
          split at he
          · rename_i a' n' hs
            obtain ⟨rfl, rfl⟩ := Prod.mk.inj (Option.some.inj he)
            have hx := oo_sound h h3 hX
            simp only [VR] at hx
            obtain ⟨r, κ, off, e1, e0, e3, e2⟩ := hx
            replace hl := ldC'_off (slr_off e3) hl
            obtain ⟨xs, q1, q2, q3⟩ := ldC'_sound P h.h hl e1
            obtain ⟨ns, g1, g2, g3⟩ := sofA_sound l xs 0 0 a' n' ByteArray.empty q2 hs rfl rfl
            subst g1
            have := run_bytesToString (P := P) w ⟨r, off, none⟩ len (κ - cap) ns q3
            refine .same h (run_convert_ok ho (r := .string _) ?_) (by simp only [VR]; exact ⟨_, rfl, g2, g3⟩)
            rw [e2, run_convert_bytes_string w src dst e _ _ _ h1 h4 h2]
            exact this
          · cases he
      · cases he
    · cases hc
  · cases hc
theorem snd_mks (h : Rel P p σ T s a w) {o : Oper} {t : TypeId} {x y : Operand} (ho : o.op = .makeSlice t x y) {ai : AI} (hc : compOp P o = some ai) {v : AV} {s' : St} (he : evAI p.n0 ai T s = some (v, s')) (hL : s'.nxt ≤ p.lim) : Sound P p σ s w o a v s' := by
  unfold compOp at hc; rw [ho] at hc
  dsimp only at hc
  split at hc
  · rename_i e x' y' h1 h2 h3
    split at hc
    · rename_i i z h4 h5
      obtain rfl := (Option.some.inj hc).symm
      obtain ⟨i', zv, q1, q2, q3, q4, q5⟩ := zOf_sound h5
      rw [h4] at q1
      obtain rfl := Option.some.inj q1
      simp only [evAI] at he
      split at he
      · cases he
      · rename_i X hX
        split at he
        · cases he
        · rename_i Y hY
          unfold evMks at he
          split at he
          · cases he
          · rename_i l hl
            split at he
            · cases he
            · rename_i c hcn
              split at he
              · rename_i g1
                split at he
                · rename_i g2
                  split at he
                  · rename_i g3
                    split at he
                    · rename_i g4
                      obtain ⟨rfl, rfl⟩ := Prod.mk.inj (Option.some.inj he)
                      obtain ⟨kl, hkl⟩ := evNat_sound hl (oo_sound h h2 hX)
                      obtain ⟨kc, hkc⟩ := evNat_sound hcn (oo_sound h h3 hY)
                      have g1 := Nat.le_of_ble_eq_true g1
                      have g2 := Nat.le_of_ble_eq_true g2
                      have g3 := Nat.le_of_ble_eq_true g3
                      have hrun := run_make (P := P) w t e i zv h1 h4 q2 kl kc (l : Int) (c : Int) (by omega) (by omega) (by rw [← Int.natCast_mul]; generalize i.bytes * c = q at g2; omega) (by omega)
                      rw [Int.toNat_natCast, Int.toNat_natCast] at hrun
                      have hsz : (madeCells zv.cells (c * i.size)).size = c * i.size := by simp [madeCells]
                      have hzl : zv.cells.toList.length = i.size := by simp [q5]
                      obtain ⟨σ', r1, r2, r3⟩ := HR.newRow h hL e i.size 0 (c := madeCells zv.cells (c * i.size)) (cells := fillZ z i.size c 0 .leaf) (used := c * i.size) (ex := true)
                        (fun σ' he => by
                          refine fillZ_sound (q4 σ') hzl c 0 _ _ (cellsOk_leaf _ _) (fun j hj => ?_)
                          have hn0 : 0 < i.size := by
                            rcases Nat.eq_zero_or_pos i.size with h0 | h0
                            · rw [h0] at hj; simp at hj
                            · exact h0
                          have hjm : j % i.size < zv.cells.size := by rw [q5]; exact Nat.mod_lt _ hn0
                          simp only [madeCells, Nat.zero_add, Array.getElem?_map, Array.getElem?_range, hj, if_true, Option.map_some, q5]
                          rw [Array.getElem?_toList, getElem?_pos zv.cells (j % i.size) hjm, getElem!_pos zv.cells (j % i.size) hjm])
                        (by rw [hsz]; exact Nat.le_refl _) (fun _ => hsz) (fun e => by cases e) (fun e => by cases e)
                      refine ⟨.slice (some ⟨w.heap.size, 0, none⟩) l c, σ', _, .inl ?_, by simp only [VR]; exact ⟨_, _, r1, rfl⟩, r3⟩
                      simp only [execOp, ho, hkl, hkc]
                      exact run_val hrun
                    · cases he
                  · cases he
                · cases he
              · cases he
    · cases hc
  · cases hc
theorem snd_rng (h : Rel P p σ T s a w) {o : Oper} {t : TypeId} {x : Operand} (ho : o.op = .range t x) {ai : AI} (hc : compOp P o = some ai) {v : AV} {s' : St} (he : evAI p.n0 ai T s = some (v, s')) (hL : s'.nxt ≤ p.lim) : Sound P p σ s w o a v s' := by
  unfold compOp at hc; rw [ho] at hc
  dsimp only at hc
  split at hc
  · rename_i x' h1 h2
    obtain rfl := (Option.some.inj hc).symm
    simp only [evAI] at he
    split at he
    · rename_i l n hX
      obtain ⟨rfl, rfl⟩ := Prod.mk.inj (Option.some.inj he)
      have hx := oo_sound h h2 hX
      simp only [VR] at hx
      obtain ⟨bs, e1, e2, e3⟩ := hx
      have g := h.h.new h.n0 h.g0 hL 0 (.iter l n 0) (.stringIter bs 0) ⟨bs, rfl, e2, e3⟩
      refine ⟨.pointer (some ⟨w.heap.size, 0, none⟩), _, _, .inl ?_, by simp only [VR]; exact ⟨w.heap.size, 0, by unfold Env.put; rw [if_pos rfl], rfl⟩, g⟩
      simp only [execOp, ho, e1]
      refine run_val ?_
      simp [Instr.range, run_underlying h1, newObj, Sem.run]
    · cases he
  · cases hc
theorem HR.setIter (h : HR p σ s w) {b l n pos pos' r κ : Nat} (hb : s.H.get b = some (.iter l n pos)) (hs : σ b = some (r, κ)) (h0 : p.n0 ≤ b) {bs : ByteArray} (hbs : bs.size = l ∧ bval bs.data.toList = n) :
    Good p σ s w σ { H := s.H.set b (some (.iter l n pos')), nxt := s.nxt, W := s.W ||| 1 <<< b } { w with heap := w.heap.setIfInBounds r (.stringIter bs pos') } := by
  have hr := h.lt b r κ hs
  have hne : ∀ k, k ≠ r → (w.heap.setIfInBounds r (.stringIter bs pos'))[k]? = w.heap[k]? := fun k hk => Array.getElem?_setIfInBounds_ne (Ne.symm hk)
  have hself : (w.heap.setIfInBounds r (.stringIter bs pos'))[r]? = some (.stringIter bs pos') := Array.getElem?_setIfInBounds_self_of_lt hr
  refine ⟨.refl _, ⟨?_, ?_, h.fresh, h.low, fun x r' κ' e => by simpa using h.lt x r' κ' e, h.glob, ?_, by simpa using h.base, h.n0, h.g0, fun x k hx => by
      rw [Tr.get_set] at hx
      by_cases hxb : x = b
      · subst hxb; exact h.dom _ _ hb
      · rw [if_neg hxb] at hx; exact h.dom _ _ hx⟩, ⟨rfl, rfl, rfl, by simp, fun k hk hn => hne k ?_⟩, (fun x hx => by simp [Nat.testBit_or, hx]), ?_, (fun b r κ h1 h2 => nw_same h1 h2), Nat.le_refl _⟩
  · intro x k hx
    rw [Tr.get_set] at hx
    by_cases hxb : x = b
    · subst hxb
      rw [if_pos rfl] at hx
      obtain rfl := Option.some.inj hx
      exact ⟨r, κ, _, hs, hself, bs, rfl, hbs.1, hbs.2⟩
    · rw [if_neg hxb] at hx
      obtain ⟨r', κ', o, e1, e2, e3⟩ := h.blk x k hx
      have : r' ≠ r := fun er => hxb (h.inj x b k _ r κ' κ hx hb (er ▸ e1) hs)
      exact ⟨r', κ', o, e1, by rw [hne r' this]; exact e2, e3⟩
  · intro x x' k k' r1 κ1 κ2 hx hx' e1 e2
    rw [Tr.get_set] at hx hx'
    have hx1 : ∃ k, s.H.get x = some k := by
      by_cases hxb : x = b
      · subst hxb; exact ⟨_, hb⟩
      · rw [if_neg hxb] at hx; exact ⟨_, hx⟩
    have hx2 : ∃ k, s.H.get x' = some k := by
      by_cases hxb : x' = b
      · subst hxb; exact ⟨_, hb⟩
      · rw [if_neg hxb] at hx'; exact ⟨_, hx'⟩
    obtain ⟨k1, hk1⟩ := hx1
    obtain ⟨k2, hk2⟩ := hx2
    exact h.inj x x' k1 k2 r1 κ1 κ2 hk1 hk2 e1 e2
  · intro x hx
    rcases testBit_or_of _ _ _ hx with hx | rfl
    · exact h.wlow x hx
    · exact h0
  · intro e
    subst e
    exact hn b _ κ hb (testBit_or_self _ _) hs
  · intro x k q hx _
    rw [Tr.get_set] at hx
    by_cases hxb : x = b
    · subst hxb; exact ⟨_, hb⟩
    · rw [if_neg hxb] at hx; exact ⟨_, hx⟩
theorem snd_nxt (h : Rel P p σ T s a w) {o : Oper} {x : Operand} {isS : Bool} (ho : o.op = .next x isS) {ai : AI} (hc : compOp P o = some ai) {v : AV} {s' : St} (he : evAI p.n0 ai T s = some (v, s')) : Sound P p σ s w o a v s' := by
  unfold compOp at hc; rw [ho] at hc
  dsimp only at hc
  split at hc
  · rename_i hS
    subst hS
    obtain ⟨x', h1, rfl⟩ := Option.map_eq_some_iff.1 hc
    simp only [evAI] at he
    split at he
    · rename_i b off hX
      split at he
      · rename_i h00
        have h00 := Nat.eq_of_beq_eq_true h00
        subst h00
        split at he
        · rename_i h0
          have h0 := Nat.le_of_ble_eq_true h0
          split at he
          · rename_i l n pos hb
            have hx := oo_sound h h1 hX
            simp only [VR] at hx
            obtain ⟨r, κ, e1, e2⟩ := hx
            obtain ⟨r', κ', o', f1, f2, bs, rfl, f4, f5⟩ := h.h.blk b _ hb
            rw [e1] at f1
            obtain ⟨rfl, rfl⟩ := Prod.mk.inj (Option.some.inj f1)
            split at he
            · rename_i hlt
              have hlt : pos < l := by simpa [Nat.blt_eq] using hlt
              have hl' : pos < bs.size := by omega
              have hg := bval_get bs.data.toList pos (by simpa using hl')
              have hlen : bs.data.toList.length = l := by simpa using f4
              rw [f5] at hg
              simp only [hlen] at hg
              have hbb : (bs[pos]'hl') = bs.data.toList[pos]'(by simpa using hl') := rfl
              split at he
              · rename_i ha
                have ha : n / 256 ^ (l - 1 - pos) % 256 < 128 := by simpa [Nat.blt_eq] using ha
                obtain ⟨rfl, rfl⟩ := Prod.mk.inj (Option.some.inj he)
                rw [← hg, ← hbb] at ha ⊢
                have g := h.h.setIter (pos' := pos + 1) hb e1 h0 ⟨f4, f5⟩
                refine ⟨.tuple #[.bool true, .int .i64 pos, .int .i32 (bs[pos]'hl').toNat], σ, _, .inl ?_, ?_, g⟩
                · simp only [execOp, ho, e2]
                  refine run_val ?_
                  simp only [Instr.next, getObj, setObj, Sem.run_bind, Sem.run, f2, Result.andThen, hl', if_true, decode_ascii bs pos hl' ha]
                  simp [goInt, Sem.run]
                · simp only [VR, VRs]
                  exact ⟨_, rfl, _, _, rfl, rfl, _, _, rfl, rfl, _, _, rfl, rfl, rfl⟩
              · cases he
            · rename_i hlt
              have hlt : ¬ pos < l := fun hh => by rw [show Nat.blt pos l = true from by simpa [Nat.blt_eq] using hh] at hlt; cases hlt
              have hl' : ¬ pos < bs.size := by omega
              obtain ⟨rfl, rfl⟩ := Prod.mk.inj (Option.some.inj he)
              refine .same h (x := .tuple #[.bool false]) ?_ (by simp only [VR, VRs]; exact ⟨_, rfl, _, _, rfl, rfl, rfl⟩)
              simp only [execOp, ho, e2]
              refine run_val ?_
              simp [Instr.next, getObj, Sem.run, f2, hl']
          · cases he
        · cases he
      · cases he
    · cases he
  · cases hc
end
end Go.Ev
end
section
namespace Go.Ev
open Go
set_option linter.unusedVariables false
variable [Theta]
set_option linter.unusedSectionVars false
set_option linter.unusedSimpArgs false
section
variable {P : Program} {p : Px} {σ : Env} {s : St} {w : World} {T : Tr AV} {a : Act}
theorem HR.setBlk (h : HR p σ s w) {b r κ : Nat} {k0 k1 : Blk} {o' : Obj} (hb : s.H.get b = some k0) (hs : σ b = some (r, κ)) (h0 : p.n0 ≤ b) (hbr : BR σ κ k1 o') :
    Good p σ s w σ { H := s.H.set b (some k1), nxt := s.nxt, W := s.W ||| 1 <<< b } { w with heap := w.heap.setIfInBounds r o' } := by
  have hr := h.lt b r κ hs
  have hne : ∀ k, k ≠ r → (w.heap.setIfInBounds r o')[k]? = w.heap[k]? := fun k hk => Array.getElem?_setIfInBounds_ne (Ne.symm hk)
  have hself : (w.heap.setIfInBounds r o')[r]? = some o' := Array.getElem?_setIfInBounds_self_of_lt hr
  refine ⟨.refl _, ⟨?_, ?_, h.fresh, h.low, fun x r' κ' e => by simpa using h.lt x r' κ' e, h.glob, ?_, by simpa using h.base, h.n0, h.g0, fun x k hx => by
      rw [Tr.get_set] at hx
      by_cases hxb : x = b
      · subst hxb; exact h.dom _ _ hb
      · rw [if_neg hxb] at hx; exact h.dom _ _ hx⟩, ⟨rfl, rfl, rfl, by simp, fun k hk hn => hne k ?_⟩, (fun x hx => by simp [Nat.testBit_or, hx]), ?_, (fun b r κ h1 h2 => nw_same h1 h2), Nat.le_refl _⟩
  · intro x k hx
    rw [Tr.get_set] at hx
    by_cases hxb : x = b
    · subst hxb
      rw [if_pos rfl] at hx
      obtain rfl := Option.some.inj hx
      exact ⟨r, κ, _, hs, hself, hbr⟩
    · rw [if_neg hxb] at hx
      obtain ⟨r', κ', o, e1, e2, e3⟩ := h.blk x k hx
      have : r' ≠ r := fun er => hxb (h.inj x b k _ r κ' κ hx hb (er ▸ e1) hs)
      exact ⟨r', κ', o, e1, by rw [hne r' this]; exact e2, e3⟩
  · intro x x' k k' r1 κ1 κ2 hx hx' e1 e2
    rw [Tr.get_set] at hx hx'
    have hx1 : ∃ k, s.H.get x = some k := by
      by_cases hxb : x = b
      · subst hxb; exact ⟨_, hb⟩
      · rw [if_neg hxb] at hx; exact ⟨_, hx⟩
    have hx2 : ∃ k, s.H.get x' = some k := by
      by_cases hxb : x' = b
      · subst hxb; exact ⟨_, hb⟩
      · rw [if_neg hxb] at hx'; exact ⟨_, hx'⟩
    obtain ⟨k1, hk1⟩ := hx1
    obtain ⟨k2, hk2⟩ := hx2
    exact h.inj x x' k1 k2 r1 κ1 κ2 hk1 hk2 e1 e2
  · intro x hx
    rcases testBit_or_of _ _ _ hx with hx | rfl
    · exact h.wlow x hx
    · exact h0
  · intro e
    subst e
    exact hn b _ κ hb (testBit_or_self _ _) hs
  · intro x k q hx _
    rw [Tr.get_set] at hx
    by_cases hxb : x = b
    · subst hxb; exact ⟨_, hb⟩
    · rw [if_neg hxb] at hx; exact ⟨_, hx⟩
theorem modify_eq {α : Type} {xs : Array α} {i : Nat} {f : α → α} {x : α} (h : xs[i]? = some x) : xs.modify i f = xs.setIfInBounds i (f x) := by
  apply Array.ext_getElem?
  intro j
  rw [Array.getElem?_modify, Array.getElem?_setIfInBounds]
  by_cases hij : i = j
  · subst hij
    have hl : i < xs.size := by
      rcases Nat.lt_or_ge i xs.size with h' | h'
      · exact h'
      · rw [Array.getElem?_eq_none h'] at h; cases h
    rw [Array.getElem?_eq_getElem hl] at h
    simp [hl, Option.some.inj h]
  · simp [hij]
theorem sofB : ∀ (l : AVs) (xs : List Value) (len n a' n' : Nat), VRs σ l xs → sofA l len n = some (a', n') → ∃ bs : List UInt8, xs = bs.map (fun b => Value.int .u8 b.toNat) ∧ a' = len + bs.length ∧ ∀ pre : List UInt8, pre.length = len → bval pre = n → bval (pre ++ bs) = n'
  | .nil, xs, len, n, a', n', h, he => by
    simp only [VRs] at h; subst h
    simp only [sofA] at he
    obtain ⟨rfl, rfl⟩ := Prod.mk.inj (Option.some.inj he)
    exact ⟨[], rfl, rfl, fun pre _ e => by rw [List.append_nil]; exact e⟩
  | .cons v l, xs, len, n, a', n', h, he => by
    simp only [VRs] at h
    obtain ⟨y, ys, rfl, hy, h⟩ := h
    unfold sofA at he
    split at he
    · rename_i heq; cases heq
    · rename_i q b l' heq
      obtain ⟨rfl, rfl⟩ := AVs.cons.inj heq
      split at he
      · rename_i hb
        have hb : b < 256 := by simpa [Nat.blt_eq] using hb
        simp only [VR] at hy
        have e : (UInt8.ofNat b).toNat = b := by simp; omega
        obtain ⟨bs, g1, g2, g3⟩ := sofB l ys _ _ a' n' h he
        refine ⟨UInt8.ofNat b :: bs, by rw [hy, g1]; simp only [List.map_cons, e]; rfl, by simp only [List.length_cons]; omega, fun pre h1 h2 => ?_⟩
        have := g3 (pre ++ [UInt8.ofNat b]) (by simp [h1]) (by
          rw [bval_append, h2]
          simp only [List.length_cons, List.length_nil, bval, e]
          omega)
        simpa using this
      · cases he
    · cases he
theorem snd_usd (h : Rel P p σ T s a w) {o : Oper} {c : Call} (ho : o.op = .call c) (hb : c.callee = .builtin .unsafeSliceData) {ai : AI} (hc : compOp P o = some ai) {v : AV} {s' : St} (he : evAI p.n0 ai T s = some (v, s')) : Sound P p σ s w o a v s' := by
  unfold compOp at hc; rw [ho] at hc
  simp only [hb] at hc
  split at hc
  · rename_i x hx
    obtain rfl := (Option.some.inj hc).symm
    obtain ⟨x', hx1, hx2⟩ := oL_one hx
    simp only [evAI] at he
    split at he
    · rename_i b off len cap hX
      have hx := oo_sound h hx2 hX
      simp only [VR] at hx
      obtain ⟨r, κ, e1, e2⟩ := hx
      split at he
      · rename_i hcap
        have hcap : 0 < cap := by simpa [Nat.blt_eq] using hcap
        obtain ⟨rfl, rfl⟩ := Prod.mk.inj (Option.some.inj he)
        refine .same h (run_builtin ho hb rfl (by rw [hx1]; simp only [List.map_toArray, List.map_cons, List.map_nil, e2]; exact Lib.run_unsafeSliceData_row (P := P) w c.argTypes o.type ⟨r, off, none⟩ len cap (by omega))) (by simp only [VR]; exact ⟨r, κ, e1, rfl⟩)
      · cases he
    · rename_i b off len eo hX
      have hx := oo_sound h hx2 hX
      simp only [VR] at hx
      obtain ⟨r, κ, o', e1, e0, e3, e2⟩ := hx
      split at he
      · rename_i hlen
        have hlen : 0 < len := by simpa [Nat.blt_eq] using hlen
        obtain rfl := (slr_off e3 hlen).symm
        obtain ⟨rfl, rfl⟩ := Prod.mk.inj (Option.some.inj he)
        refine .same h (run_builtin ho hb rfl (by rw [hx1]; simp only [List.map_toArray, List.map_cons, List.map_nil, e2]; exact Lib.run_unsafeSliceData_row (P := P) w c.argTypes o.type ⟨r, off, none⟩ len (κ - eo) (by omega))) (by simp only [VR]; exact ⟨r, κ, e1, rfl⟩)
      · cases he
    · rename_i hX
      have hx := oo_sound h hx2 hX
      simp only [VR] at hx
      obtain ⟨rfl, rfl⟩ := Prod.mk.inj (Option.some.inj he)
      refine .same h (run_builtin ho hb rfl (by rw [hx1]; simp only [List.map_toArray, List.map_cons, List.map_nil, hx]; exact Lib.run_unsafeSliceData_nil (P := P) w c.argTypes o.type 0 0)) (by simp only [VR])
    · cases he
  · cases hc
theorem sofA_len : ∀ (l : AVs) (len n a' n' : Nat), sofA l len n = some (a', n') → a' = len + l.len
  | .nil, len, n, a', n', he => by
    simp only [sofA] at he
    obtain ⟨rfl, rfl⟩ := Prod.mk.inj (Option.some.inj he)
    rfl
  | .cons v l, len, n, a', n', he => by
    unfold sofA at he
    split at he
    · rename_i heq; cases heq
    · rename_i q b l' heq
      obtain ⟨rfl, rfl⟩ := AVs.cons.inj heq
      split at he
      · have := sofA_len l _ _ _ _ he
        simp only [AVs.len]
        omega
      · cases he
    · cases he
theorem snd_ust (h : Rel P p σ T s a w) {o : Oper} {c' : Call} (ho : o.op = .call c') (hb : c'.callee = .builtin .unsafeString) {ai : AI} (hc : compOp P o = some ai) {v : AV} {s' : St} (he : evAI p.n0 ai T s = some (v, s')) : Sound P p σ s w o a v s' := by
  unfold compOp at hc; rw [ho] at hc
  simp only [hb] at hc
  split at hc
  · rename_i pt it x n ht hx
    obtain ⟨x', n', hx1, hx2, hx3⟩ := oL_two hx
    have hat : c'.argTypes = #[pt, it] := Array.ext' ht
    split at hc
    · rename_i e hpt
      split at hc
      · rename_i hce
        obtain rfl := (Option.some.inj hc).symm
        simp only [evAI] at he
        split at he
        · rename_i m hN
          have hn := oo_sound h hx3 hN
          simp only [VR] at hn
          split at he
          · -- no byte
            have fin : ∀ (q : Option Addr), a.eval x' = .pointer q → (v, s') = (.s 0 0, s) → Sound P p σ s w o a v s' := by
              intro q hq e
              obtain ⟨rfl, rfl⟩ := Prod.mk.inj e
              refine .same h (run_builtin ho hb rfl (r := .string .empty) ?_) (by simp only [VR]; exact ⟨_, rfl, rfl, rfl⟩)
              rw [hat, hx1]
              simp only [List.map_toArray, List.map_cons, List.map_nil, hq, hn]
              exact Lib.run_unsafeString_none (P := P) w pt it o.type q
            split at he
            · rename_i hX
              have hx := oo_sound h hx2 hX
              simp only [VR] at hx
              exact fin _ hx (Option.some.inj he).symm
            · rename_i hX
              have hx := oo_sound h hx2 hX
              simp only [VR] at hx
              obtain ⟨r, κ, e1, e2⟩ := hx
              exact fin _ e2 (Option.some.inj he).symm
            · cases he
          · rename_i k1
            split at he
            · rename_i b hX
              have hx := oo_sound h hx2 hX
              simp only [VR] at hx
              obtain ⟨r, κ, e1, e2⟩ := hx
              split at he
              · rename_i e' esz cells used ex fz hg
                split at he
                · rename_i hee
                  have hee := Nat.eq_of_beq_eq_true hee
                  subst hee
                  split at he
                  · rename_i hn0
                    have hn0 := Nat.le_of_ble_eq_true hn0
                    split at he
                    · rename_i l hl
                      split at he
                      · rename_i a' v' hsof
                        split at he
                        · rename_i h63
                          have h63 := Nat.le_of_ble_eq_true h63
                          obtain ⟨rfl, rfl⟩ := Prod.mk.inj (Option.some.inj he)
                          obtain ⟨c, lo, hi, g1, g2, g3, g4, g5, g6, g7, g8⟩ := h.h.row hg e1
                          obtain ⟨xs, q1, q2, q3⟩ := ldC_cells g2 _ 0 l hl
                          obtain ⟨bs, r1, r2, r3⟩ := sofB l xs 0 0 a' v' q2 hsof
                          have hbl : bs.length = k1 + 1 := by rw [r1, List.length_map] at q1; exact q1
                          have hbc : ∀ j x, bs[j]? = some x → w.cell? ((⟨r, 0, none⟩ : Addr).add j) = some (.int .u8 x.toNat) := by
                            intro j x hj
                            rw [add_none, cell_of_heap g1]
                            refine q3 j _ ?_
                            rw [r1, List.getElem?_map, hj]
                            rfl
                          have hle : bs.length ≤ c.size := by
                            rcases Nat.lt_or_ge c.size bs.length with h' | h'
                            · exfalso
                              have hlt : c.size < bs.length := h'
                              have := q3 c.size (.int .u8 (bs[c.size]).toNat) (by rw [r1, List.getElem?_map, List.getElem?_eq_getElem hlt]; rfl)
                              rw [Nat.zero_add, Array.getElem?_eq_none (Nat.le_refl _)] at this
                              cases this
                            · exact h'
                          have hrun := Lib.run_unsafeString_row (P := P) w pt it o.type e hpt hce r c.size (row_shape g1) bs (by intro e0; rw [e0] at hbl; cases hbl) hle (by omega) hbc
                          have hfr : w.freeze ⟨r, 0, none⟩ bs.length = { w with heap := w.heap.setIfInBounds r (.cells c e (if lo == hi then (0, 0 + bs.length) else (min lo 0, max hi (0 + bs.length)))) } := by
                            unfold World.freeze
                            rw [if_neg (by omega)]
                            rw [modify_eq g1]
                          have hrun2 : (Builtin.unsafeString_ c'.argTypes o.type (c'.args.map a.eval)).run P w = .ok (.string ⟨bs.toArray⟩) (w.freeze ⟨r, 0, none⟩ bs.length) := by
                            rw [hat, hx1]
                            simp only [List.map_toArray, List.map_cons, List.map_nil, e2, hn]
                            rw [hbl] at hrun
                            rw [hbl]
                            exact hrun
                          refine ⟨.string ⟨bs.toArray⟩, σ, w.freeze ⟨r, 0, none⟩ bs.length, .inl (run_builtin ho hb rfl hrun2), ?_, ?_⟩
                          · simp only [VR]
                            refine ⟨_, rfl, by simp [ByteArray.size]; omega, ?_⟩
                            have := r3 [] rfl rfl
                            simpa using this
                          · rw [hfr]
                            refine h.h.setBlk hg e1 hn0 ?_
                            exact ⟨c, _, _, rfl, g2, g3, g4, g5, (fun hh => by omega), (fun hh => by omega), g8⟩
                        · cases he
                      · cases he
                    · cases he
                  · cases he
                · cases he
              · cases he
            · cases he
        · cases he
      · cases hc
    · cases hc
  · cases hc
end
end Go.Ev
end
section
namespace Go.Ev
open Go
set_option linter.unusedVariables false
variable [Theta]
set_option linter.unusedSectionVars false
set_option linter.unusedSimpArgs false
section
variable {P : Program} {p : Px} {σ : Env} {s : St} {w : World} {T : Tr AV} {a : Act}
theorem ldC2 (P : Program) (h : HR p σ s w) {b off n r κ : Nat} {l : AVs} (he : srcA.ldC' s b off n = some l) (hs : σ b = some (r, κ)) :
    ∃ xs : List Value, xs.length = n ∧ VRs σ l xs ∧ ∀ w2 : World, w2.heap = w.heap → (loadCells ⟨r, off, none⟩ n).run P w2 = .ok xs.toArray w2 := by
  unfold srcA.ldC' at he
  split at he
  · obtain rfl := (Option.some.inj he).symm
    exact ⟨[], rfl, by simp only [VRs], fun w2 _ => by simpa using run_loadCells_list (P := P) w2 ⟨r, off, none⟩ [] (by simp)⟩
  · split at he
    · rename_i hg
      obtain ⟨c, lo, hi, h1, h2, _⟩ := h.row hg hs
      obtain ⟨xs, h3, h4, h5⟩ := ldC_cells h2 _ off l he
      refine ⟨xs, h3, h4, fun w2 hw => ?_⟩
      rw [← h3]
      refine run_loadCells_list w2 ⟨r, off, none⟩ xs (fun j u hj => ?_)
      rw [add_none, cell_of_heap (by rw [hw]; exact h1)]
      exact h5 j u hj
    · cases he
theorem srcA_sound (P : Program) (h : HR p σ s w) {esz n : Nat} {v : AV} {l : AVs} (he : srcA esz s v = some (n, l)) {X : Value} (hx : VR σ v X) :
    Builtin.lenOf X = pure n ∧ ∃ xs : List Value, xs.length = n * esz ∧ VRs σ l xs ∧ ∀ w2 : World, w2.heap = w.heap → (Builtin.firstCells esz n X).run P w2 = .ok xs.toArray w2 := by
  unfold srcA at he
  split at he
  · obtain ⟨rfl, rfl⟩ := Prod.mk.inj (Option.some.inj he)
    simp only [VR] at hx
    subst hx
    exact ⟨rfl, [], by simp, by simp only [VRs], fun w2 _ => by simp [Builtin.firstCells]⟩
  · rename_i b off len cap
    split at he
    · rename_i l' hl
      obtain ⟨rfl, rfl⟩ := Prod.mk.inj (Option.some.inj he)
      simp only [VR] at hx
      obtain ⟨r, κ, e1, rfl⟩ := hx
      obtain ⟨xs, q1, q2, q3⟩ := ldC2 P h hl e1
      exact ⟨rfl, xs, q1, q2, q3⟩
    · cases he
  · rename_i b off len eo
    split at he
    · rename_i l' hl
      obtain ⟨rfl, rfl⟩ := Prod.mk.inj (Option.some.inj he)
      simp only [VR] at hx
      obtain ⟨r, κ, off, e1, e0, e3, rfl⟩ := hx
      replace hl := ldC'_off (fun h0 => slr_off e3 (Nat.pos_of_mul_pos_right h0)) hl
      obtain ⟨xs, q1, q2, q3⟩ := ldC2 P h hl e1
      exact ⟨rfl, xs, q1, q2, q3⟩
    · cases he
  · rename_i len m
    split at he
    · rename_i hz
      obtain ⟨rfl, rfl⟩ := Prod.mk.inj (Option.some.inj he)
      simp only [VR] at hx
      obtain ⟨bs, rfl, e1, e2⟩ := hx
      have hz := Nat.eq_of_beq_eq_true hz
      subst hz
      refine ⟨by simp only [Builtin.lenOf]; rw [e1], _, ?_, sbytes_str e1 e2, fun w2 _ => ?_⟩
      · simp; simpa using e1
      · have : bs.extract 0 len = bs := by
          rw [← e1]; exact ByteArray.extract_zero_size
        simp only [Builtin.firstCells, this, Sem.run_pure]
        congr 1
        apply Array.ext'
        simp
    · cases he
  · cases he
theorem run_app_in {t u e ty : TypeId} {d : TypeDesc} {i : TypeInfo} (ht : P.underlying t = some (.slice e)) (hu : P.underlying u = some d) (hd : (∃ e', d = .slice e') ∨ d = .string) (hi : P.info? e = some i) {X : Value} {n : Nat} (hl : Builtin.lenOf X = pure n)
    {xs : List Value} (hf : (Builtin.firstCells i.size n X).run P w = .ok xs.toArray w) {A : Addr} {len cap : Nat} (hroom : len + n ≤ cap) {w' : World} (hst : (storeCells (A.add (len * i.size)) xs).run P w = .ok () w') :
    (Builtin.append_ #[t, u] ty #[.slice (some A) len cap, X]).run P w = .ok (.slice (some A) (len + n) cap) w' := by
  rcases hd with ⟨e', rfl⟩ | rfl <;> simp [Builtin.append_, run_underlying ht, run_underlying hu, sizeOf, typeInfo, hi, hl, hroom, hf, hst]
theorem run_app_none {t u e ty : TypeId} {d : TypeDesc} {i : TypeInfo} (ht : P.underlying t = some (.slice e)) (hu : P.underlying u = some d) (hd : (∃ e', d = .slice e') ∨ d = .string) (hi : P.info? e = some i) {X : Value} (hl : Builtin.lenOf X = pure 0)
    {xs : List Value} (hf : (Builtin.firstCells i.size 0 X).run P w = .ok xs.toArray w) (hx : xs.length = 0) {A : Option Addr} {len cap : Nat} (hroom : len ≤ cap) :
    (Builtin.append_ #[t, u] ty #[.slice A len cap, X]).run P w = .ok (.slice A len cap) w := by
  have hx' : xs = [] := List.length_eq_zero_iff.1 hx
  subst hx'
  rcases hd with ⟨e', rfl⟩ | rfl <;> (cases A <;> simp [Builtin.append_, run_underlying ht, run_underlying hu, sizeOf, typeInfo, hi, hl, hroom, hf, storeCells])
theorem run_app_grow {t u e ty : TypeId} {d : TypeDesc} {i : TypeInfo} {z : Value} (ht : P.underlying t = some (.slice e)) (hu : P.underlying u = some d) (hd : (∃ e', d = .slice e') ∨ d = .string) (hi : P.info? e = some i) (hz : i.zero = some z) (hb : 0 < i.bytes) {X : Value} {n : Nat} (hl : Builtin.lenOf X = pure n)
    {xs : List Value} (hf : (Builtin.firstCells i.size n X).run P w.drew = .ok xs.toArray w.drew) {A : Option Addr} {len cap : Nat} (hno : cap < len + n) {ys : List Value} (ho : (Builtin.firstCells i.size len (.slice A len cap)).run P w.drew = .ok ys.toArray w.drew)
    (hfit : Builtin.nextslicecap (len + n) cap * i.bytes ≤ 281474976710656) :
    (Builtin.append_ #[t, u] ty #[.slice A len cap, X]).run P w = .ok (.slice (some ⟨w.heap.size, 0, none⟩) (len + n) (grownCap w (len + n) cap e))
      (w.drew.alloc (.cells (ys.toArray ++ xs.toArray ++ Builtin.zeroCells z.cells (grownCap w (len + n) cap e - (len + n))) e)) := by
  have hn : ¬ (len + n ≤ cap) := by omega
  have h48' : ¬ (281474976710656 < Builtin.nextslicecap (len + n) cap * i.bytes) := by omega
  have hb' : i.bytes ≠ 0 := by omega
  rcases hd with ⟨e', rfl⟩ | rfl <;> (simp [Builtin.append_, run_underlying ht, run_underlying hu, sizeOf, typeInfo, zeroValue, hi, hz, hl, hn, h48', hb', Question.forced, hf, ho, newRow, grownCap]; rw [← Array.append_assoc]; simp)
theorem nextcap_le (n c : Nat) (h : c < n) : Builtin.nextslicecap n c ≤ 2 * n + 1000 := by
  have gb : ∀ r c, c < n → Builtin.growBy n r c ≤ 2 * n + 1000 := by
    intro r
    induction r with
    | zero => intro c hc; simp only [Builtin.growBy]; omega
    | succ r ih =>
      intro c hc
      simp only [Builtin.growBy]
      split
      · omega
      · by_cases hc' : c + (c + 768) / 4 < n
        · exact ih _ hc'
        · cases r with
          | zero => simp only [Builtin.growBy]; omega
          | succ r => simp only [Builtin.growBy]; rw [if_pos (by omega)]; omega
  unfold Builtin.nextslicecap
  split
  · omega
  · split
    · omega
    · exact gb 4 c h
theorem grown_ge (w : World) (n c e : Nat) : n ≤ grownCap w n c e := by unfold grownCap; simp [Question.cut]
theorem grow_good (h : Rel P p σ T s a w) (hL : s.nxt < p.lim) {e esz need cap : Nat} {zl : List Value} {z : Value} (hz : z.cells.size = esz) {old new : AVs} {ys xs : List Value} (ho : VRs σ old ys) (hn : VRs σ new xs) (hlen : ys.length + xs.length = need * esz) :
    ∃ σ', σ' s.nxt = some (w.heap.size, grownCap w need cap e) ∧ Good p σ s w σ' (evNew e esz (stC new old.len (stC old 0 .leaf)) (need * esz) false 0 s)
      (w.drew.alloc (.cells (ys.toArray ++ xs.toArray ++ Builtin.zeroCells z.cells (grownCap w need cap e - need)) e)) := by
  have hdr : Rel P p σ T s a w.drew := ⟨h.t, h.h.drew, h.ng, h.n0, h.g0⟩
  have hge := grown_ge w need cap e
  have hsz : (ys.toArray ++ xs.toArray ++ Builtin.zeroCells z.cells (grownCap w need cap e - need)).size = grownCap w need cap e * esz := by
    simp only [Array.size_append, List.size_toArray, Builtin.zeroCells, Array.size_map, Array.size_range, hz]
    rw [hlen, ← Nat.add_mul]
    congr 1
    omega
  obtain ⟨σ', g1, g2, g3⟩ := HR.newRow hdr hL e esz (grownCap w need cap e) (c := ys.toArray ++ xs.toArray ++ Builtin.zeroCells z.cells (grownCap w need cap e - need)) (cells := stC new old.len (stC old 0 .leaf)) (used := need * esz) (ex := false)
    (fun σ' he => by
      have h1 := cellsOk_lay (ho.ext he)
      have h2 : cellsOk σ' (stC new old.len (stC old 0 .leaf)) (ys ++ xs).toArray := by
        have h3 : cellsOk σ' (stC old 0 .leaf) (ys ++ xs).toArray := by
          intro j a' hj
          obtain ⟨x, q1, q2⟩ := h1 j a' hj
          refine ⟨x, ?_, q2⟩
          rw [List.getElem?_toArray] at q1 ⊢
          rw [List.getElem?_append_left]
          · exact q1
          · rcases Nat.lt_or_ge j ys.length with h' | h'
            · exact h'
            · rw [List.getElem?_eq_none h'] at q1; cases q1
        have h4 := cellsOk_stC' (off := old.len) (hn.ext he) h3 (by rw [ho.len]; simp)
        have h5 : ovl (ys ++ xs).toArray old.len xs = (ys ++ xs).toArray := by
          rw [ho.len]
          have key : ∀ (xs zs : List Value), ovl (zs ++ xs).toArray zs.length xs = (zs ++ xs).toArray := by
            intro xs
            induction xs with
            | nil => intro zs; rfl
            | cons x xs ih =>
              intro zs
              have : (zs ++ x :: xs).toArray.setIfInBounds zs.length x = ((zs ++ [x]) ++ xs).toArray := by simp
              rw [ovl, this]
              have := ih (zs ++ [x])
              simp only [List.length_append, List.length_cons, List.length_nil] at this
              rw [this]
              simp
          exact key xs ys
        rwa [h5] at h4
      intro j a' hj
      obtain ⟨x, q1, q2⟩ := h2 j a' hj
      refine ⟨x, ?_, q2⟩
      have hjl : j < (ys ++ xs).toArray.size := by
        rcases Nat.lt_or_ge j (ys ++ xs).toArray.size with h' | h'
        · exact h'
        · rw [Array.getElem?_eq_none h'] at q1; cases q1
      rw [show ys.toArray ++ xs.toArray = (ys ++ xs).toArray from by simp, Array.getElem?_append_left hjl]
      exact q1)
    (by rw [hsz]; exact Nat.mul_le_mul_right _ hge) (fun e => by cases e) (fun _ => hsz) (fun _ j a' hj => by
      have l1 := ho.len
      have l2 := hn.len
      rcases stC_dom _ _ _ _ _ hj with hj | hj
      · omega
      · rcases stC_dom _ _ _ _ _ hj with hj | hj
        · omega
        · rw [Tr.get_leaf] at hj; cases hj)
  exact ⟨σ', g1, (Good.drew h.h).trans g3⟩
theorem growA_sound (h : Rel P p σ T s a w) {t u e ty : TypeId} {d : TypeDesc} {i : TypeInfo} {z : Value} (ht : P.underlying t = some (.slice e)) (hu : P.underlying u = some d) (hd : (∃ e', d = .slice e') ∨ d = .string) (hi : P.info? e = some i) (hz : i.zero = some z) (hzs : z.cells.size = i.size) (hb : 0 < i.bytes)
    {x : AV} {X : Value} (hx : VR σ x X) {n : Nat} {new : AVs} (hnew : srcA i.size s x = some (n, new)) {A : Option Addr} {len cap : Nat} {old : AVs} {ys : List Value} (ho : VRs σ old ys) (hys : (Builtin.firstCells i.size len (.slice A len cap)).run P w.drew = .ok ys.toArray w.drew) (hno : cap < len + n)
    {v : AV} {s' : St} (he : growA e i.size i.bytes old new (len + n) cap s = some (v, s')) (hL : s'.nxt ≤ p.lim) :
    ∃ r σ' w', (Builtin.append_ #[t, u] ty #[.slice A len cap, X]).run P w = .ok r w' ∧ VR σ' v r ∧ Good p σ s w σ' s' w' := by
  unfold growA at he
  split at he
  · rename_i h1
    split at he
    · rename_i h2
      obtain ⟨rfl, rfl⟩ := Prod.mk.inj (Option.some.inj he)
      obtain ⟨q1, xs, q2, q3, q4⟩ := srcA_sound P h.h hnew hx
      have q4 := q4 w.drew rfl
      have h2 := Nat.eq_of_beq_eq_true h2
      rw [ho.len, q3.len] at h2
      have hrun := run_app_grow (ty := ty) ht hu hd hi hz hb q1 q4 hno hys (Nat.le_of_ble_eq_true h1)
      obtain ⟨σ', g1, g2⟩ := grow_good h hL (e := e) (need := len + n) (cap := cap) (zl := []) hzs ho q3 h2
      refine ⟨_, σ', _, hrun, ?_, g2⟩
      simp only [VR]
      exact ⟨w.heap.size, _, _, g1, by simpa using grown_ge w (len + n) cap e, .inl rfl, rfl⟩
    · cases he
  · cases he
theorem amb_sound (h : Rel P p σ T s a w) (hL : s.nxt < p.lim) {t u e ty : TypeId} {d : TypeDesc} {i : TypeInfo} {z : Value} (ht : P.underlying t = some (.slice e)) (hu : P.underlying u = some d) (hd : (∃ e', d = .slice e') ∨ d = .string) (hi : P.info? e = some i) (hz : i.zero = some z) (hzs : z.cells.size = i.size) (hsz : 0 < i.size) (hb : 0 < i.bytes)
    {X : Value} {n : Nat} (hl : Builtin.lenOf X = pure n) {new : AVs} {xs : List Value} (hxl : xs.length = n * i.size) (hn : VRs σ new xs) (h1 : new.one = true) (hf : (Builtin.firstCells i.size n X).run P w = .ok xs.toArray w) (hf' : (Builtin.firstCells i.size n X).run P w.drew = .ok xs.toArray w.drew)
    {b len used fz : Nat} {cells : Tr AV} (hg : s.H.get b = some (.row e i.size cells used false fz)) (hfz : fz ≤ 1) (hu2 : len * i.size = used) {r κ : Nat} (hs : σ b = some (r, κ)) (hlen : len ≤ κ) (hn0 : p.n0 ≤ b) (hfit : (2 * (len + n) + 1000) * i.bytes ≤ 281474976710656) :
    ∃ x σ' w', (Builtin.append_ #[t, u] ty #[.slice (some ⟨r, 0, none⟩) len κ, X]).run P w = .ok x w' ∧ VR σ' (.slr s.nxt 0 (len + n) 0) x ∧
      Good p σ s w σ' { H := (s.H.set b none).set s.nxt (some (.row e i.size (stC new used cells) (used + new.len) false 1)), nxt := s.nxt + 1, W := s.W ||| 1 <<< b } w' := by
  obtain ⟨c, lo, hi', g1, g2, g3, g4, g5, g6, g7, g8⟩ := h.h.row hg hs
  have g5 := g5 rfl
  have g6 := g6 hfz
  have hnl := hn.len
  have hfr : σ s.nxt = none := h.h.fresh _ (Nat.le_refl _) hL
  by_cases hroom : len + n ≤ κ
  · -- there is room
    have hfits : used + xs.length ≤ c.size := by
      rw [hxl, ← hu2, ← Nat.add_mul, g5]; exact Nat.mul_le_mul_right _ hroom
    have hst := run_storeCells_cells (P := P) r used xs 0 w (fun j hj => by rw [cell_of_heap g1]; simp; omega) (fun j hj => by
      rw [frozen_of_heap g1]
      have := g6 (used + 0 + j) (by omega)
      simp only [Bool.and_eq_false_iff, decide_eq_false_iff_not]; omega) (hn.one h1)
    have hst' : (storeCells ((⟨r, 0, none⟩ : Addr).add (len * i.size)) xs).run P w = .ok () (w.setCells r used xs) := by
      rw [add_none, Nat.zero_add, hu2]; simpa using hst
    have hrun := run_app_in (ty := ty) ht hu hd hi hl hf hroom hst'
    have hold : ∀ x, x ≠ s.nxt → (σ.put s.nxt (r, κ)) x = σ x := fun x hx => by unfold Env.put; rw [if_neg hx]
    have hnew : (σ.put s.nxt (r, κ)) s.nxt = some (r, κ) := by unfold Env.put; rw [if_pos rfl]
    have hext : σ.Ext (σ.put s.nxt (r, κ)) := by
      intro x q hq
      by_cases hx : x = s.nxt
      · subst hx; rw [hfr] at hq; cases hq
      · rw [hold x hx]; exact hq
    have back : ∀ x k, ((s.H.set b none).set s.nxt (some (.row e i.size (stC new used cells) (used + new.len) false 1))).get x = some k → (x = s.nxt ∧ k = .row e i.size (stC new used cells) (used + new.len) false 1) ∨ (x ≠ s.nxt ∧ x ≠ b ∧ s.H.get x = some k) := by
      intro x k hx
      rw [Tr.get_set] at hx
      by_cases hxn : x = s.nxt
      · rw [if_pos hxn] at hx; exact .inl ⟨hxn, (Option.some.inj hx).symm⟩
      · rw [if_neg hxn, Tr.get_set] at hx
        by_cases hxb : x = b
        · rw [if_pos hxb] at hx; cases hx
        · rw [if_neg hxb] at hx; exact .inr ⟨hxn, hxb, hx⟩
    refine ⟨_, σ.put s.nxt (r, κ), _, hrun, ?_, hext, ?_, ?_, (fun x hx => by simp [Nat.testBit_or, hx]), ?_, ?_, Nat.le_succ _⟩
    · simp only [VR]; exact ⟨r, κ, _, hnew, by omega, .inl rfl, rfl⟩
    · refine ⟨?_, ?_, ?_, ?_, ?_, ?_, ?_, by rw [size_setCells]; exact h.h.base, Nat.le_succ_of_le h.n0, Nat.le_succ_of_le h.g0, fun x k hx => by
        rcases back x k hx with ⟨rfl, _⟩ | ⟨_, _, hx⟩
        · exact Nat.lt_succ_self _
        · exact Nat.lt_succ_of_lt (h.h.dom _ _ hx)⟩
      · intro x k hx
        rcases back x k hx with ⟨rfl, rfl⟩ | ⟨hxn, hxb, hx⟩
        · refine ⟨r, κ, _, hnew, heap_setCells r e _ xs used c w g1, _, lo, hi', rfl, cellsOk_stC' (hn.ext hext) (g2.ext hext) hfits, by rw [size_ovl, hnl]; exact hfits, (fun e => nomatch e), (fun _ => by rw [size_ovl]; exact g5),
            (fun _ => by rw [size_ovl]; exact g6), (fun e => nomatch e), fun j a' hj => ?_⟩
          rcases stC_dom _ _ _ _ _ hj with hj | hj
          · omega
          · have := g8 j a' hj; omega
        · obtain ⟨r', κ', o, e1, e2, e3⟩ := h.h.blk x k hx
          have hne : r' ≠ r := fun er => hxb (h.h.inj x b k _ r κ' κ hx hg (er ▸ e1) hs)
          exact ⟨r', κ', o, by rw [hold x hxn]; exact e1, by rw [heap_setCells_ne r xs used w r' hne]; exact e2, e3.ext hext⟩
      · intro x x' k k' r1 κ1 κ2 hx hx' e1 e2
        rcases back x k hx with ⟨rfl, _⟩ | ⟨hxn, hxb, hx⟩
        · rcases back x' k' hx' with ⟨rfl, _⟩ | ⟨hxn', hxb', hx'⟩
          · rfl
          · rw [hnew] at e1
            rw [hold x' hxn'] at e2
            obtain ⟨rfl, rfl⟩ := Prod.mk.inj (Option.some.inj e1)
            exact absurd (h.h.inj x' b k' _ r κ2 κ hx' hg e2 hs) hxb'
        · rcases back x' k' hx' with ⟨rfl, _⟩ | ⟨hxn', hxb', hx'⟩
          · rw [hnew] at e2
            rw [hold x hxn] at e1
            obtain ⟨rfl, rfl⟩ := Prod.mk.inj (Option.some.inj e2)
            exact absurd (h.h.inj x b k _ r κ1 κ hx hg e1 hs) hxb
          · rw [hold x hxn] at e1
            rw [hold x' hxn'] at e2
            exact h.h.inj x x' k k' r1 κ1 κ2 hx hx' e1 e2
      · intro x hx hxl
        have hx : s.nxt + 1 ≤ x := hx
        rw [hold x (by omega)]; exact h.h.fresh x (by omega) hxl
      · intro x r' κ' hx e1
        by_cases hxn : x = s.nxt
        · subst hxn
          rw [hnew] at e1
          obtain ⟨rfl, rfl⟩ := Prod.mk.inj (Option.some.inj e1)
          exact h.h.low b r κ hn0 hs
        · rw [hold x hxn] at e1; exact h.h.low x r' κ' hx e1
      · intro x r' κ' e1
        rw [size_setCells]
        by_cases hxn : x = s.nxt
        · subst hxn
          rw [hnew] at e1
          obtain ⟨rfl, rfl⟩ := Prod.mk.inj (Option.some.inj e1)
          exact h.h.lt b r κ hs
        · rw [hold x hxn] at e1; exact h.h.lt x r' κ' e1
      · intro x hx
        obtain ⟨κ', e1⟩ := h.h.glob x hx
        have := h.g0
        exact ⟨κ', by rw [hold x (by omega)]; exact e1⟩
      · intro x hx
        rcases testBit_or_of _ _ _ hx with hx | rfl
        · exact h.h.wlow x hx
        · exact hn0
    · obtain ⟨q1, q2, q3⟩ := rest_setCells r xs used w
      refine ⟨q1, q2, q3, by rw [size_setCells]; exact Nat.le_refl _, fun k hk hkn => heap_setCells_ne r xs used w k ?_⟩
      intro e1
      subst e1
      exact hkn b _ κ hg (testBit_or_self _ _) hs
    · intro x k q hx hq
      rcases back x k hx with ⟨rfl, _⟩ | ⟨_, _, hx⟩
      · rw [hfr] at hq; cases hq
      · exact ⟨_, hx⟩
    · intro x r' κ' h1 h2
      by_cases hxn : x = s.nxt
      · subst hxn
        rw [hnew] at h2
        obtain ⟨rfl, rfl⟩ := Prod.mk.inj (Option.some.inj h2)
        exact ⟨⟨Nat.le_refl _, Nat.lt_succ_self _⟩, .inr ⟨b, _, κ, hg, hs, testBit_or_self _ _⟩⟩
      · rw [hold x hxn, h1] at h2; cases h2
  · -- there is none
    have hold' : (Builtin.firstCells i.size len (.slice (some ⟨r, 0, none⟩) len κ)).run P w.drew = .ok (c.toList.take used).toArray w.drew := by
      have hl2 : (c.toList.take used).length = len * i.size := by rw [List.length_take, Array.length_toList]; omega
      refine run_firstCells_some w.drew i.size len ⟨r, 0, none⟩ len κ (c.toList.take used) hl2 (fun j v hj => ?_)
      rw [add_none, Nat.zero_add]
      have : w.drew.cell? ⟨r, j, none⟩ = c[j]? := cell_of_heap (w := w.drew) g1 j
      rw [this]
      rw [List.getElem?_take] at hj
      split at hj
      · simpa using hj
      · cases hj
    have hno : κ < len + n := by omega
    have hfit' : Builtin.nextslicecap (len + n) κ * i.bytes ≤ 281474976710656 := Nat.le_trans (Nat.mul_le_mul_right _ (nextcap_le _ _ hno)) hfit
    have hrun := run_app_grow (ty := ty) ht hu hd hi hz hb hl hf' hno hold' hfit'
    have hge := grown_ge w (len + n) κ e
    -- the state without the old block
    have hW : ∀ x, (s.W ||| 1 <<< b).testBit x = true → p.n0 ≤ x := by
      intro x hx
      rcases testBit_or_of _ _ _ hx with hx | rfl
      · exact h.h.wlow x hx
      · exact hn0
    have hR0 : HR p σ { H := s.H.set b none, nxt := s.nxt, W := s.W ||| 1 <<< b } w := by
      have back : ∀ x k, (s.H.set b none).get x = some k → s.H.get x = some k := by
        intro x k hx
        rw [Tr.get_set] at hx
        by_cases hxb : x = b
        · rw [if_pos hxb] at hx; cases hx
        · rwa [if_neg hxb] at hx
      exact ⟨fun x k hx => h.h.blk x k (back x k hx), fun x x' k k' r1 κ1 κ2 hx hx' => h.h.inj x x' k k' r1 κ1 κ2 (back x k hx) (back x' k' hx'), h.h.fresh, h.h.low, h.h.lt, h.h.glob, hW, h.h.base, h.n0, h.g0, fun x k hx => h.h.dom _ _ (back x k hx)⟩
    have hG0 : Good p σ s w σ { H := s.H.set b none, nxt := s.nxt, W := s.W ||| 1 <<< b } w.drew :=
      ⟨.refl _, hR0.drew, ⟨rfl, rfl, rfl, Nat.le_refl _, fun _ _ _ => rfl⟩, (fun x hx => by simp [Nat.testBit_or, hx]), (fun x k q hx _ => by
        rw [Tr.get_set] at hx
        by_cases hxb : x = b
        · rw [if_pos hxb] at hx; cases hx
        · rw [if_neg hxb] at hx; exact ⟨_, hx⟩), (fun b r κ h1 h2 => nw_same h1 h2), Nat.le_refl _⟩
    have hrel : Rel P p σ T { H := s.H.set b none, nxt := s.nxt, W := s.W ||| 1 <<< b } a w.drew := ⟨h.t, hR0.drew, h.ng, h.n0, h.g0⟩
    have hcl : (c.toList.take used).length = used := by rw [List.length_take, Array.length_toList]; omega
    have hsz2 : ((c.toList.take used).toArray ++ xs.toArray ++ Builtin.zeroCells z.cells (grownCap w (len + n) κ e - (len + n))).size = grownCap w (len + n) κ e * i.size := by
      simp only [Array.size_append, List.size_toArray, Builtin.zeroCells, Array.size_map, Array.size_range, hzs, hcl, hxl]
      rw [← hu2, ← Nat.add_mul, ← Nat.add_mul]
      congr 1
      omega
    have hG1 := hR0.drew.new (w := w.drew) h.n0 h.g0 hL (grownCap w (len + n) κ e) (.row e i.size (stC new used cells) (used + new.len) false 1)
      (.cells ((c.toList.take used).toArray ++ xs.toArray ++ Builtin.zeroCells z.cells (grownCap w (len + n) κ e - (len + n))) e) (by
        have hext : σ.Ext (Env.put σ s.nxt (w.drew.heap.size, grownCap w (len + n) κ e)) := by
          intro x q hq
          unfold Env.put
          by_cases hx : x = s.nxt
          · subst hx; rw [hfr] at hq; cases hq
          · rw [if_neg hx]; exact hq
        refine ⟨_, 0, 0, rfl, ?_, by rw [hsz2, hnl, hxl, ← hu2, ← Nat.add_mul]; exact Nat.mul_le_mul_right _ hge, (fun e => nomatch e), (fun _ => hsz2), (fun _ j _ => by omega), (fun e => nomatch e), fun j a' hj => ?_⟩
        · have h3 : cellsOk (Env.put σ s.nxt (w.drew.heap.size, grownCap w (len + n) κ e)) cells (c.toList.take used ++ xs).toArray := by
            intro j a' hj
            obtain ⟨x, q1, q2⟩ := (g2.ext hext) j a' hj
            have := g8 j a' hj
            refine ⟨x, ?_, q2⟩
            rw [List.getElem?_toArray, List.getElem?_append_left (by omega), List.getElem?_take, if_pos this]
            simpa using q1
          have h4 := cellsOk_stC' (off := used) (hn.ext hext) h3 (by rw [List.size_toArray, List.length_append, hcl]; exact Nat.le_refl _)
          have h5 : ovl (c.toList.take used ++ xs).toArray used xs = (c.toList.take used ++ xs).toArray := by
            have key : ∀ (xs zs : List Value), ovl (zs ++ xs).toArray zs.length xs = (zs ++ xs).toArray := by
              intro xs
              induction xs with
              | nil => intro zs; rfl
              | cons x xs ih =>
                intro zs
                have : (zs ++ x :: xs).toArray.setIfInBounds zs.length x = ((zs ++ [x]) ++ xs).toArray := by simp
                rw [ovl, this]
                have := ih (zs ++ [x])
                simp only [List.length_append, List.length_cons, List.length_nil] at this
                rw [this]
                simp
            have := key xs (c.toList.take used)
            rwa [hcl] at this
          rw [h5] at h4
          intro j a' hj
          obtain ⟨x, q1, q2⟩ := h4 j a' hj
          refine ⟨x, ?_, q2⟩
          have hjl : j < (c.toList.take used ++ xs).toArray.size := by
            rcases Nat.lt_or_ge j (c.toList.take used ++ xs).toArray.size with h' | h'
            · exact h'
            · rw [Array.getElem?_eq_none h'] at q1; cases q1
          rw [show (c.toList.take used).toArray ++ xs.toArray = (c.toList.take used ++ xs).toArray from by simp, Array.getElem?_append_left hjl]
          exact q1
        · rcases stC_dom _ _ _ _ _ hj with hj | hj
          · omega
          · have := g8 j a' hj; omega)
    refine ⟨_, _, _, hrun, ?_, hG0.trans hG1⟩
    simp only [VR]
    exact ⟨w.heap.size, grownCap w (len + n) κ e, _, by unfold Env.put; rw [if_pos rfl]; rfl, by omega, .inl rfl, rfl⟩
end
end Go.Ev
end
section
namespace Go.Ev
open Go
set_option linter.unusedVariables false
variable [Theta]
set_option linter.unusedSectionVars false
set_option linter.unusedSimpArgs false
section
variable {P : Program} {p : Px} {σ : Env} {s : St} {w : World} {T : Tr AV} {a : Act}
theorem evApp_sound (h : Rel P p σ T s a w) {t u e ty : TypeId} {d : TypeDesc} {i : TypeInfo} {z : Value} (ht : P.underlying t = some (.slice e)) (hu : P.underlying u = some d) (hd : (∃ e', d = .slice e') ∨ d = .string) (hi : P.info? e = some i) (hz : i.zero = some z) (hzs : z.cells.size = i.size) (hsz : 0 < i.size) (hb : 0 < i.bytes)
    {x y v : AV} {X Y : Value} (hx : VR σ x X) (hy : VR σ y Y) {s' : St} (he : evApp p.n0 e i.size i.bytes s x y = some (v, s')) (hL : s'.nxt ≤ p.lim) :
    ∃ r σ' w', (Builtin.append_ #[t, u] ty #[X, Y]).run P w = .ok r w' ∧ VR σ' v r ∧ Good p σ s w σ' s' w' := by
  unfold evApp at he
  split at he
  · cases he
  · rename_i n new hnew
    obtain ⟨q1, xs, q2, q3, q4⟩ := srcA_sound P h.h hnew hy
    have q4' := q4 w.drew rfl
    have q4 := q4 w rfl
    split at he
    · -- nothing comes
      have hrun : ∀ {A : Option Addr} {len cap : Nat}, len ≤ cap → (Builtin.append_ #[t, u] ty #[.slice A len cap, Y]).run P w = .ok (.slice A len cap) w := fun hle => run_app_none ht hu hd hi q1 q4 (by simpa using q2) hle
      split at he
      · obtain ⟨rfl, rfl⟩ := Prod.mk.inj (Option.some.inj he)
        have hx' := hx
        simp only [VR] at hx'
        subst hx'
        exact ⟨_, σ, w, hrun (Nat.le_refl _), hx, .refl h.h⟩
      · split at he
        · rename_i hle
          obtain ⟨rfl, rfl⟩ := Prod.mk.inj (Option.some.inj he)
          have hx' := hx
          simp only [VR] at hx'
          obtain ⟨r, κ, e1, rfl⟩ := hx'
          exact ⟨_, σ, w, hrun (Nat.le_of_ble_eq_true hle), hx, .refl h.h⟩
        · cases he
      · obtain ⟨rfl, rfl⟩ := Prod.mk.inj (Option.some.inj he)
        have hx' := hx
        simp only [VR] at hx'
        obtain ⟨r, κ, o', e1, e0, e3, rfl⟩ := hx'
        exact ⟨_, σ, w, hrun (by omega), hx, .refl h.h⟩
      · cases he
    · rename_i k hq1
      clear hq1
      split at he
      · simp only [VR] at hx
        subst hx
        exact growA_sound h ht hu hd hi hz hzs hb hy hnew (old := .nil) (ys := []) (by simp only [VRs]) (by simp [Builtin.firstCells]) (by omega) (by simpa using he) hL
      · rename_i b off len cap
        have hx0 := hx
        simp only [VR] at hx
        obtain ⟨r, κ, e1, rfl⟩ := hx
        split at he
        · rename_i hroom
          split at he
          · rename_i s2 hs2
            obtain ⟨rfl, rfl⟩ := Prod.mk.inj (Option.some.inj he)
            obtain ⟨w', r1, r2⟩ := evSt_sound P h.h hs2 e1 q3
            have hrun := run_app_in (ty := ty) (A := ⟨r, off, none⟩) (n := k + 1) ht hu hd hi q1 q4 (Nat.le_of_ble_eq_true hroom) (w' := w') (by rw [add_none]; exact r1)
            exact ⟨_, σ, w', hrun, by simp only [VR]; exact ⟨r, κ, e1, rfl⟩, r2⟩
          · cases he
        · rename_i hroom
          split at he
          · rename_i old hold
            obtain ⟨g1, ys, g2, g3, g4⟩ := srcA_sound P h.h hold hx0
            have g4 := g4 w.drew rfl
            have hm := (Sem.pure.inj g1)
            subst hm
            exact growA_sound h ht hu hd hi hz hzs hb hy hnew g3 g4 (Nat.lt_of_not_le fun hh => by rw [Nat.ble_eq_true_of_le hh] at hroom; cases hroom) he hL
          · cases he
      · rename_i b off len eo
        simp only [VR] at hx
        obtain ⟨r, κ, o', e1, e0, e3, rfl⟩ := hx
        split at he
        · cases he
        rename_i hl0
        obtain rfl := (slr_off2 e3 hl0).symm
        split at he
        · rename_i e' esz' cells used ex fz hg
          split at he
          · rename_i he'
            have he' := Nat.eq_of_beq_eq_true he'
            subst he'
            split at he
            · rename_i hesz
              have hesz := Nat.eq_of_beq_eq_true hesz
              subst hesz
              split at he
              · cases he
              · split at he
                · rename_i hfz
                  have hfz := Nat.le_of_ble_eq_true hfz
                  split at he
                  · rename_i hoff
                    have hoff := Nat.eq_of_beq_eq_true hoff
                    split at he
                    · rename_i hin
                      have hin := Nat.le_of_ble_eq_true hin
                      split at he
                      · rename_i s2 hs2
                        obtain ⟨rfl, rfl⟩ := Prod.mk.inj (Option.some.inj he)
                        obtain ⟨w', r1, r2⟩ := evSt_sound P h.h hs2 e1 q3
                        obtain ⟨c, lo, hi', g1, g2, g3, g4, g5, g6⟩ := h.h.row hg e1
                        have hroom : eo + (len + (k + 1)) ≤ κ := by
                          have h1 : (eo + (len + (k + 1))) * i.size ≤ κ * i.size := by
                            rw [← g5 rfl, Nat.add_mul, ← hoff]; omega
                          exact Nat.le_of_mul_le_mul_right h1 hsz
                        have hrun := run_app_in (ty := ty) (A := ⟨r, off, none⟩) (n := k + 1) (len := len) (cap := κ - eo) ht hu hd hi q1 q4 (by omega) (w' := w') (by rw [add_none]; exact r1)
                        exact ⟨_, σ, w', hrun, by simp only [VR]; exact ⟨r, κ, _, e1, hroom, .inl rfl, rfl⟩, r2⟩
                      · cases he
                    · split at he
                      · rename_i h00
                        have h00 := Nat.eq_of_beq_eq_true h00
                        have heo : eo = 0 := by
                          rw [h00] at hoff
                          rcases Nat.mul_eq_zero.1 hoff.symm with h' | h'
                          · exact h'
                          · omega
                        subst heo; subst h00
                        split at he
                        · rename_i hend
                          have hend := Nat.eq_of_beq_eq_true hend
                          split at he
                          · rename_i hnl
                            split at he
                            · rename_i hone
                              split at he
                              · rename_i hfit
                                split at he
                                · rename_i hn0
                                  obtain ⟨rfl, rfl⟩ := Prod.mk.inj (Option.some.inj he)
                                  exact amb_sound (n := k + 1) h hL ht hu hd hi hz hzs hsz hb q1 q2 q3 hone q4 q4' hg hfz hend e1 (by omega) (Nat.le_of_ble_eq_true hn0) (Nat.le_of_ble_eq_true hfit)
                                · cases he
                              · cases he
                            · cases he
                          · cases he
                        · cases he
                      · cases he
                  · cases he
                · cases he
            · cases he
          · cases he
        · cases he
      · cases he
theorem catA_sound : ∀ {z : AVs} {zs : List Value}, VRs σ z zs → ∀ {l : AVs} {xs : List Value}, VRs σ l xs → VRs σ (catA z l) (zs ++ xs)
  | .nil, zs, hz, l, xs, hl => by simp only [VRs] at hz; subst hz; exact hl
  | .cons a t, zs, hz, l, xs, hl => by
    simp only [VRs] at hz
    obtain ⟨x, r, rfl, h1, h2⟩ := hz
    simp only [catA, List.cons_append, VRs]
    exact ⟨x, _, rfl, h1, catA_sound h2 hl⟩
theorem zeroCells_succ (c : Array Value) (n : Nat) : (Builtin.zeroCells c (n + 1)).toList = c.toList ++ (Builtin.zeroCells c n).toList := by
  apply List.ext_getElem?
  intro j
  unfold Builtin.zeroCells
  rw [List.getElem?_append]
  simp only [Array.toList_map, Array.toList_range, List.getElem?_map, List.getElem?_range', Array.length_toList]
  split
  · rename_i hj
    rw [List.getElem?_range (by rw [Nat.succ_mul]; omega)]
    simp only [Option.map_some, Array.getElem?_toList, Nat.mod_eq_of_lt hj]
    rw [getElem!_pos c j hj, Array.getElem?_eq_getElem hj]
  · rename_i hj
    by_cases hn : j < (n + 1) * c.size
    · rw [List.getElem?_range hn, List.getElem?_range (by rw [Nat.succ_mul] at hn; omega)]
      simp only [Option.map_some]
      rw [← Nat.mod_eq_sub_mod (by omega)]
    · rw [List.getElem?_eq_none (by simpa using hn), List.getElem?_eq_none (by rw [Nat.succ_mul] at hn; simp; omega)]
theorem repA_sound {z : AVs} {zv : Value} (hz : VRs σ z zv.cells.toList) : ∀ m, VRs σ (repA z m) (Builtin.zeroCells zv.cells m).toList
  | 0 => by simp [repA, Builtin.zeroCells, VRs]
  | m + 1 => by
    rw [zeroCells_succ]
    exact catA_sound hz (repA_sound hz m)
theorem evAppz_sound (h : Rel P p σ T s a w) {t tn e ty : TypeId} {kn kq : IntKind} {i : TypeInfo} {zv : Value} (ht : P.underlying t = some (.slice e)) (hu : P.underlying tn = some (.int kn)) (hi : P.info? e = some i) (hz : i.zero = some zv) (hzs : zv.cells.size = i.size) (hsz : 0 < i.size)
    {z : AVs} (hzr : ∀ σ, VRs σ z zv.cells.toList) {x v : AV} {X : Value} (hx : VR σ x X) {m : Nat} {s' : St} (he : evAppz e i.size i.bytes z s x m = some (v, s')) (hL : s'.nxt ≤ p.lim) :
    ∃ r σ' w', (Builtin.append_ #[t, tn] ty #[X, .int kq (.ofNat m)]).run P w = .ok r w' ∧ VR σ' v r ∧ Good p σ s w σ' s' w' := by
  unfold evAppz at he
  split at he
  · cases he
  · split at he
    · cases he
    · rename_i hm0
      have hm0 : 0 < m := by simpa [Nat.blt_eq] using hm0
      split at he
      · cases he
      · rename_i h48
        have h48 := Nat.le_of_ble_eq_true h48
        have grow : ∀ {A : Option Addr} {len cap : Nat} {old : AVs} {ys : List Value}, VRs σ old ys → (Builtin.firstCells i.size len (.slice A len cap)).run P w.drew = .ok ys.toArray w.drew → ys.length = len * i.size → cap < len + m → len + m ≤ 9223372036854775807 → growA e i.size i.bytes old (repA z m) (len + m) cap s = some (v, s') →
            ∃ r σ' w', (Builtin.append_ #[t, tn] ty #[.slice A len cap, .int kq (.ofNat m)]).run P w = .ok r w' ∧ VR σ' v r ∧ Good p σ s w σ' s' w' := by
          intro A len cap old ys ho hys hyl hno h63 he
          unfold growA at he
          split at he
          · rename_i h1
            split at he
            · obtain ⟨rfl, rfl⟩ := Prod.mk.inj (Option.some.inj he)
              have hrun := Lib.run_append_grow_zeros (P := P) w t tn ty e i zv kq kn ht hu hi hz A len cap ys hys m hm0 hsz hno (by omega) h48 (Nat.le_of_ble_eq_true h1)
              have hxl : (Builtin.zeroCells zv.cells m).toList.length = m * i.size := by rw [Array.length_toList, size_zeroCells, hzs]
              obtain ⟨σ', g1, g2⟩ := grow_good h hL (e := e) (need := len + m) (cap := cap) (zl := []) hzs ho (repA_sound (hzr σ) m) (by rw [hyl, hxl, Nat.add_mul])
              refine ⟨_, σ', _, hrun, ?_, by simpa using g2⟩
              simp only [VR]
              exact ⟨w.heap.size, _, _, g1, by simpa using grown_ge w (len + m) cap e, .inl rfl, rfl⟩
            · cases he
          · cases he
        split at he
        · split at he
          · rename_i h63
            simp only [VR] at hx
            subst hx
            exact grow (A := none) (len := 0) (cap := 0) (old := .nil) (ys := []) (by simp only [VRs]) (by simp [Builtin.firstCells]) (by rw [Nat.zero_mul]; rfl) (by omega) (by have := Nat.le_of_ble_eq_true h63; omega) (by rw [Nat.zero_add]; exact he)
          · cases he
        · rename_i b off len cap
          have hx0 := hx
          simp only [VR] at hx
          obtain ⟨r, κ, e1, rfl⟩ := hx
          split at he
          · cases he
          · rename_i h63
            split at he
            · cases he
            · rename_i hroom
              split at he
              · rename_i old hold
                obtain ⟨g1, ys, g2, g3, g4⟩ := srcA_sound P h.h hold hx0
                have g4 := g4 w.drew rfl
                have hm := (Sem.pure.inj g1)
                subst hm
                exact grow g3 g4 g2 (Nat.lt_of_not_le fun hh => by rw [Nat.ble_eq_true_of_le hh] at hroom; cases hroom) (Nat.le_of_ble_eq_true h63) he
              · cases he
        · cases he
theorem snd_app (h : Rel P p σ T s a w) {o : Oper} {c : Call} (ho : o.op = .call c) (hb : c.callee = .builtin .append) {ai : AI} (hc : compOp P o = some ai) {v : AV} {s' : St} (he : evAI p.n0 ai T s = some (v, s')) (hL : s'.nxt ≤ p.lim) : Sound P p σ s w o a v s' := by
  unfold compOp at hc; rw [ho] at hc
  simp only [hb] at hc
  split at hc
  · rename_i t u x y h1 h2
    obtain ⟨x', y', hy1, hy2, hy3⟩ := oL_two h2
    have hat : c.argTypes = #[t, u] := Array.ext' h1
    have fin : ∀ {e : TypeId} {d : TypeDesc} (h3 : P.underlying t = some (.slice e)) (h4 : P.underlying u = some d) (hd : (∃ e', d = .slice e') ∨ d = .string) {i : TypeInfo} {z : AVs} (h5 : P.info? e = some i) (h6 : zOf P e = some z)
        (h7 : 0 < i.size ∧ 0 < i.bytes) (he : evAI p.n0 (.app e i.size i.bytes x y) T s = some (v, s')), Sound P p σ s w o a v s' := by
      intro e d h3 h4 hd i z h5 h6 h7 he
      obtain ⟨i', zv, q1, q2, q3, q4, q5⟩ := zOf_sound h6
      rw [h5] at q1
      obtain rfl := Option.some.inj q1
      simp only [evAI] at he
      split at he
      · cases he
      · rename_i X hX
        split at he
        · cases he
        · rename_i Y hY
          obtain ⟨r, σ', w', r1, r2, r3⟩ := evApp_sound (ty := o.type) h h3 h4 hd h5 q2 q5 h7.1 h7.2 (oo_sound h hy2 hX) (oo_sound h hy3 hY) he hL
          exact ⟨r, σ', w', .inl (run_builtin ho hb rfl (by rw [hat, hy1]; simpa using r1)), r2, r3⟩
    split at hc
    · rename_i e e' h3 h4
      split at hc
      · rename_i i z h5 h6
        split at hc
        · rename_i h7
          obtain rfl := (Option.some.inj hc).symm
          exact fin h3 h4 (.inl ⟨_, rfl⟩) h5 h6 h7 he
        · cases hc
      · cases hc
    · rename_i e h3 h4
      split at hc
      · rename_i i z h5 h6
        split at hc
        · rename_i h7
          obtain rfl := (Option.some.inj hc).symm
          exact fin h3 h4 (.inr rfl) h5 h6 h7 he
        · cases hc
      · cases hc
    · rename_i e kn h3 h4
      split at hc
      · rename_i i z h5 h6
        split at hc
        · rename_i h7
          obtain rfl := (Option.some.inj hc).symm
          obtain ⟨i', zv, q1, q2, q3, q4, q5⟩ := zOf_sound h6
          rw [h5] at q1
          obtain rfl := Option.some.inj q1
          simp only [evAI] at he
          split at he
          · cases he
          · rename_i X hX
            split at he
            · rename_i k m hY
              have hy := oo_sound h hy3 hY
              simp only [VR] at hy
              obtain ⟨r, σ', w', r1, r2, r3⟩ := evAppz_sound (ty := o.type) (kq := k) h h3 h4 h5 q2 q5 h7.1 q4 (oo_sound h hy2 hX) he hL
              exact ⟨r, σ', w', .inl (run_builtin ho hb rfl (by rw [hat, hy1]; simpa [hy] using r1)), r2, r3⟩
            · cases he
        · cases hc
      · cases hc
    · cases hc
  · cases hc
theorem lenA_sound {v : AV} {n : Nat} (h : lenA v = some n) {x : Value} (hx : VR σ v x) : (∃ bs, x = .string bs ∧ bs.size = n) ∨ (∃ A c, x = .slice A n c) := by
  unfold lenA at h
  split at h <;> first
    | contradiction
    | skip
  all_goals
    obtain rfl := Option.some.inj h
    simp only [VR] at hx
  · obtain ⟨bs, e1, e2, _⟩ := hx; exact .inl ⟨bs, e1, e2⟩
  · obtain ⟨_, _, _, e⟩ := hx; exact .inr ⟨_, _, e⟩
  · obtain ⟨_, _, _, _, _, _, e⟩ := hx; exact .inr ⟨_, _, e⟩
  · exact .inr ⟨_, _, hx⟩
theorem cpyCells_sound (P : Program) (h : HR p σ s w) {esz xl n : Nat} {x : AV} {l : AVs} (hx : lenA x = some xl) (hn : n ≤ xl) (he : evCpy.cells esz s x n = some l) {X : Value} (hv : VR σ x X) :
    Builtin.lenOf X = pure xl ∧ ∃ xs : List Value, xs.length = n * esz ∧ VRs σ l xs ∧ (Builtin.firstCells esz n X).run P w = .ok xs.toArray w := by
  unfold evCpy.cells at he
  split at he
  · rename_i b off len cap
    obtain rfl := Option.some.inj hx
    simp only [VR] at hv
    obtain ⟨r, κ, e1, rfl⟩ := hv
    obtain ⟨xs, q1, q2, q3⟩ := ldC2 P h he e1
    exact ⟨rfl, xs, q1, q2, q3 w rfl⟩
  · rename_i b off len eo
    obtain rfl := Option.some.inj hx
    simp only [VR] at hv
    obtain ⟨r, κ, off, e1, e0, e3, rfl⟩ := hv
    replace he := ldC'_off (fun h0 => slr_off e3 (Nat.lt_of_lt_of_le (Nat.pos_of_mul_pos_right h0) hn)) he
    obtain ⟨xs, q1, q2, q3⟩ := ldC2 P h he e1
    exact ⟨rfl, xs, q1, q2, q3 w rfl⟩
  · rename_i len m
    split at he
    · rename_i hz
      have hz := Nat.eq_of_beq_eq_true hz
      subst hz
      obtain rfl := Option.some.inj hx
      obtain rfl := (Option.some.inj he).symm
      simp only [VR] at hv
      obtain ⟨bs, rfl, e1, e2⟩ := hv
      have hl : bs.data.toList.length = len := by simpa using e1
      have ht : bval (bs.data.toList.take n) = m / 256 ^ (len - n) := by rw [bval_take _ _ (by omega), e2, hl]
      have hs := sbytes_sound (σ := σ) n (bs.data.toList.take n) .nil [] (by rw [List.length_take]; omega) (by simp only [VRs])
      rw [ht, List.append_nil] at hs
      refine ⟨by simp only [Builtin.lenOf]; rw [e1], _, ?_, hs, ?_⟩
      · rw [List.length_map, List.length_take]; omega
      · simp only [Builtin.firstCells, Sem.run_pure]
        congr 1
        apply Array.ext'
        simp [List.extract_eq_take_drop]
    · cases he
  · cases he
theorem snd_cpy (h : Rel P p σ T s a w) {o : Oper} {c : Call} (ho : o.op = .call c) (hb : c.callee = .builtin .copy) {ai : AI} (hc : compOp P o = some ai) {v : AV} {s' : St} (he : evAI p.n0 ai T s = some (v, s')) : Sound P p σ s w o a v s' := by
  unfold compOp at hc; rw [ho] at hc
  simp only [hb] at hc
  split at hc
  · rename_i t ts x y h1 h2
    have hts := types_cons h1
    obtain ⟨x', y', hy1, hy2, hy3⟩ := oL_two h2
    split at hc
    · rename_i e h3
      obtain ⟨n, hn, rfl⟩ := Option.map_eq_some_iff.1 hc
      obtain ⟨i, hi, hi2⟩ := szOf_eq hn
      simp only [evAI] at he
      split at he
      · cases he
      · rename_i D hD
        split at he
        · cases he
        · rename_i X hX
          have hd := oo_sound h hy2 hD
          have hx := oo_sound h hy3 hX
          unfold evCpy at he
          split at he
          · cases he
          · rename_i dl hdl
            split at he
            · cases he
            · rename_i xl hxl
              split at he
              · rename_i hmin
                -- nothing to copy
                have hlx : Builtin.lenOf (a.eval y') = pure xl := by
                  rcases lenA_sound hxl hx with ⟨bs, q1, q2⟩ | ⟨A, c', q1⟩
                  · rw [q1]; simp only [Builtin.lenOf]; rw [q2]
                  · rw [q1]; rfl
                have hf : (Builtin.firstCells n 0 (a.eval y')).run P w = .ok #[] w := by
                  rcases lenA_sound hxl hx with ⟨bs, q1, q2⟩ | ⟨A, c', q1⟩
                  · rw [q1]; simp [Builtin.firstCells]
                  · rw [q1]
                    cases A with
                    | none => simp [Builtin.firstCells]
                    | some ad => simpa [Builtin.firstCells] using run_loadCells_list (P := P) w ad [] (by simp)
                have fin : (∃ A c', a.eval x' = .slice A dl c') → (v, s') = (.i .i64 (.ofNat 0), s) → Sound P p σ s w o a v s' := by
                  rintro ⟨A, c', hA⟩ e
                  obtain ⟨rfl, rfl⟩ := Prod.mk.inj e
                  refine .same h (run_builtin ho hb rfl (r := .int .i64 (0 : Nat)) ?_) (by simp only [VR]; rfl)
                  have hmin' : xl.min dl = 0 := hmin
                  cases A with
                  | none => simp [Builtin.copy_, hts, hy1, run_underlying h3, hA, hlx, sizeOf, typeInfo, hi, hi2, hmin', hf, goInt]
                  | some ad => simp [Builtin.copy_, hts, hy1, run_underlying h3, hA, hlx, sizeOf, typeInfo, hi, hi2, hmin', hf, goInt, storeCells]
                split at he
                · cases he
                · rename_i hns
                  refine fin ?_ (Option.some.inj he).symm
                  rcases lenA_sound hdl hd with ⟨bs, q1, q2⟩ | ⟨A, c', q1⟩
                  · exfalso
                    cases D <;> simp only [lenA] at hdl <;> first
                      | cases hdl
                      | skip
                    · exact hns _ _ rfl
                    · rw [q1] at hd; simp only [VR] at hd; obtain ⟨_, _, _, g⟩ := hd; cases g
                    · rw [q1] at hd; simp only [VR] at hd; obtain ⟨_, _, _, _, _, _, g⟩ := hd; cases g
                    · rw [q1] at hd; simp only [VR] at hd; cases hd
                  · exact ⟨A, c', q1⟩
              · rename_i k hmin
                have hmin : xl.min dl = k + 1 := hmin
                split at he
                · cases he
                · rename_i l hl
                  have hkx : k + 1 ≤ xl := by rw [← hmin]; exact Nat.min_le_left _ _
                  obtain ⟨q1, xs, q2, q3, q4⟩ := cpyCells_sound P h.h hxl hkx hl hx
                  have fin : ∀ {b off r κ cap : Nat} {s2 : St}, evSt p.n0 b off l s = some s2 → σ b = some (r, κ) → a.eval x' = .slice (some ⟨r, off, none⟩) dl cap → (v, s') = (.i .i64 (.ofNat (k + 1)), s2) → Sound P p σ s w o a v s' := by
                    intro b off r κ cap s2 hs2 hs hA e
                    obtain ⟨rfl, rfl⟩ := Prod.mk.inj e
                    obtain ⟨w', r1, r2⟩ := evSt_sound P h.h hs2 hs q3
                    refine ⟨.int .i64 ((k + 1 : Nat) : Int), σ, w', .inl (run_builtin ho hb rfl ?_), by simp only [VR]; rfl, r2⟩
                    simp [Builtin.copy_, hts, hy1, run_underlying h3, hA, q1, sizeOf, typeInfo, hi, hi2, hmin, q4, r1, goInt]
                  split at he
                  · rename_i b off len cap
                    split at he
                    · rename_i s2 hs2
                      have hd' := hd
                      simp only [VR] at hd'
                      obtain ⟨r, κ, e1, e2⟩ := hd'
                      obtain rfl := Option.some.inj hdl
                      exact fin hs2 e1 e2 (Option.some.inj he).symm
                    · cases he
                  · rename_i b off len eo
                    split at he
                    · rename_i s2 hs2
                      have hd' := hd
                      simp only [VR] at hd'
                      obtain ⟨r, κ, o', e1, e0, e3, e2⟩ := hd'
                      obtain rfl := Option.some.inj hdl
                      obtain rfl := (slr_off e3 (by have := Nat.min_le_right xl len; have h' : min xl len = k + 1 := hmin; omega)).symm
                      exact fin hs2 e1 e2 (Option.some.inj he).symm
                    · cases he
                  · cases he
    · cases hc
  · cases hc
theorem ai_sound (h : Rel P p σ T s a w) {o : Oper} {ai : AI} (hc : compOp P o = some ai) {v : AV} {s' : St} (he : evAI p.n0 ai T s = some (v, s')) (hL : s'.nxt ≤ p.lim) : Sound P p σ s w o a v s' := by
  cases ho : o.op with
  | move x => exact snd_mv h (.inl ho) hc he
  | assign x => exact snd_mv h (.inr ho) hc he
  | pick c x y => exact snd_pick h ho hc he
  | alloc e => exact snd_alloc h ho hc he hL
  | box e x => exact snd_box h ho hc he hL
  | build t ps => exact snd_build h ho hc he
  | buildSlice t n ps => exact snd_bsl h ho hc he hL
  | load t x => exact snd_load h ho hc he
  | store t x y => exact snd_store h ho hc he
  | nilCheck x => exact snd_nilc h ho hc he
  | binOp op t x y t' => exact snd_bin h ho hc he
  | unOp op t x => exact snd_un h ho hc he
  | convert t t' x => exact snd_convert h ho hc he hL
  | makeInterface t x => exact snd_mki h ho hc he
  | makeFunc f fi cs => exact snd_mkf h ho hc he
  | makeSlice t l c => exact snd_mks h ho hc he hL
  | slice t x lo hi mx => exact snd_slice h ho hc he
  | fieldAddr t x f => exact snd_fieldAddr h ho hc he
  | field t x f => exact snd_field h ho hc he
  | indexAddr t x i => exact snd_indexAddr h ho hc he
  | index t x i => exact snd_index h ho hc he
  | range t x => exact snd_rng h ho hc he hL
  | next x b => exact snd_nxt h ho hc he
  | extract x i => exact snd_ext h ho hc he
  | typeAssert x t t' b => exact snd_tas h ho hc he
  | call c =>
    have hc' := hc
    unfold compOp at hc'; rw [ho] at hc'
    dsimp only at hc'
    split at hc'
    · obtain ⟨l, _, rfl⟩ := Option.map_eq_some_iff.1 hc'; cases he
    · split at hc'
      · obtain rfl := (Option.some.inj hc').symm; cases he
      · cases hc'
    · split at hc'
      · obtain rfl := (Option.some.inj hc').symm; cases he
      · cases hc'
    · rename_i hb; exact snd_len h ho hb hc he
    · rename_i hb; exact snd_usd h ho hb hc he
    · rename_i hb; exact snd_ust h ho hb hc he
    · rename_i hb; exact snd_cap h ho hb hc he
    · rename_i hb; exact snd_min h ho hb hc he
    · rename_i hb; exact snd_max h ho hb hc he
    · rename_i hb; exact snd_app h ho hb hc he hL
    · rename_i hb; exact snd_cpy h ho hb hc he
    · cases hc'
  | _ => (unfold compOp at hc; rw [ho] at hc; cases hc)
end
end Go.Ev
end
section
namespace Go.Ev
open Go
set_option linter.unusedVariables false
variable [Theta]
set_option linter.unusedSectionVars false
set_option linter.unusedSimpArgs false
theorem evSt_nxt {n0 b off : Nat} {l : AVs} {s s' : St} (h : evSt n0 b off l s = some s') : s'.nxt = s.nxt := by
  unfold evSt at h
  repeat' split at h
  all_goals first
    | contradiction
    | (obtain rfl := (Option.some.inj h).symm; rfl)
theorem pure1_nxt {s s' : St} {q : Option AV} {v : AV} (h : pure1 s q = some (v, s')) : s.nxt ≤ s'.nxt := by
  obtain ⟨_, rfl⟩ := pure1_some h; exact Nat.le_refl _
theorem growA_nxt {e esz bytes need cap : Nat} {old new : AVs} {s s' : St} {v : AV} (h : growA e esz bytes old new need cap s = some (v, s')) : s.nxt ≤ s'.nxt := by
  unfold growA at h
  repeat' split at h
  all_goals first
    | contradiction
    | (obtain ⟨_, rfl⟩ := Prod.mk.inj (Option.some.inj h); exact Nat.le_succ _)
theorem evApp_nxt {n0 e esz bytes : Nat} {s s' : St} {x y v : AV} (h : evApp n0 e esz bytes s x y = some (v, s')) : s.nxt ≤ s'.nxt := by
  unfold evApp at h
  repeat' split at h
  all_goals first
    | contradiction
    | exact growA_nxt h
    | (obtain ⟨_, rfl⟩ := Prod.mk.inj (Option.some.inj h); exact Nat.le_refl _)
    | (obtain ⟨_, rfl⟩ := Prod.mk.inj (Option.some.inj h); exact Nat.le_succ _)
    | (obtain ⟨_, rfl⟩ := Prod.mk.inj (Option.some.inj h); rename_i hs _; exact Nat.le_of_eq (evSt_nxt (by assumption)).symm)
    | (obtain ⟨_, rfl⟩ := Prod.mk.inj (Option.some.inj h); exact Nat.le_of_eq (evSt_nxt (by assumption)).symm)
theorem evAppz_nxt {e esz bytes m : Nat} {z : AVs} {s s' : St} {x v : AV} (h : evAppz e esz bytes z s x m = some (v, s')) : s.nxt ≤ s'.nxt := by
  unfold evAppz at h
  repeat' split at h
  all_goals first
    | contradiction
    | exact growA_nxt h
theorem evCpy_nxt {n0 esz : Nat} {s s' : St} {x y v : AV} (h : evCpy n0 esz s x y = some (v, s')) : s.nxt ≤ s'.nxt := by
  unfold evCpy at h
  repeat' split at h
  all_goals first
    | contradiction
    | (obtain ⟨_, rfl⟩ := Prod.mk.inj (Option.some.inj h); exact Nat.le_refl _)
    | (obtain ⟨_, rfl⟩ := Prod.mk.inj (Option.some.inj h); exact Nat.le_of_eq (evSt_nxt (by assumption)).symm)
theorem evMks_nxt {e esz bytes : Nat} {z : AVs} {s s' : St} {l c v : AV} (h : evMks e esz bytes z s l c = some (v, s')) : s.nxt ≤ s'.nxt := by
  unfold evMks at h
  repeat' split at h
  all_goals first
    | contradiction
    | (obtain ⟨_, rfl⟩ := Prod.mk.inj (Option.some.inj h); exact Nat.le_succ _)
theorem evAI_nxt {n0 : Nat} {ai : AI} {T : Tr AV} {s s' : St} {v : AV} (h : evAI n0 ai T s = some (v, s')) : s.nxt ≤ s'.nxt := by
  unfold evAI at h
  repeat' split at h
  all_goals first
    | contradiction
    | exact pure1_nxt h
    | exact evApp_nxt h
    | exact evAppz_nxt h
    | exact evCpy_nxt h
    | exact evMks_nxt h
    | (obtain ⟨_, rfl⟩ := Prod.mk.inj (Option.some.inj h); exact Nat.le_refl _)
    | (obtain ⟨_, rfl⟩ := Prod.mk.inj (Option.some.inj h); exact Nat.le_succ _)
    | (obtain ⟨_, rfl⟩ := Prod.mk.inj (Option.some.inj h); exact Nat.le_of_eq (evSt_nxt (by assumption)).symm)
abbrev CallT := Nat → AVs → St → Option (AV × St)
def appA : AVs → AVs → AVs
  | .nil, l => l
  | .cons a t, l => .cons a (appA t l)
noncomputable def evOp (call : CallT) (n0 : Nat) (ai : AI) (T : Tr AV) (s : St) : Option (AV × St) := match ai with
  | .call f args => match evOs T args with
    | none => none
    | some l => call f l s
  | .calv x args => match evO T x with
    | some (.f f caps) => match evOs T args with
      | none => none
      | some l => call f (appA l caps) s
    | some (.fm f fi) => match evOs T args with
      | none => none
      | some l => call f (appA fi l) s
    | _ => none
  | .inv m x args => match evO T x with
    | some (.ifc t v) => match m t with
      | some f => match evOs T args with
        | none => none
        | some l => call f (.cons v l) s
      | none => none
    | _ => none
  | ai => evAI n0 ai T s
noncomputable def putT (T : Tr AV) (d : Option Nat) (v : AV) : Tr AV := match d with
  | none => T
  | some d => T.set d (some v)
noncomputable def wants (T : Tr AV) (g : Option (Nat × Bool)) : Option Bool := match g with
  | none => some true
  | some (t, b) => match T.get t with
    | none => none
    | some (.b x) => some (match b with | true => x | false => !x)
    | some _ => some false
noncomputable def stepOp (call : CallT) (n0 : Nat) (o : AOp) (T : Tr AV) (s : St) : Option (Tr AV × St) := match wants T o.g with
  | none => none
  | some true => match evOp call n0 o.ai T s with
    | none => none
    | some (v, s') => some (putT T o.d v, s')
  | some false => some (putT T o.d (.tup .nil), s)
noncomputable def evOps (call : CallT) (n0 : Nat) (l : List AOp) : Tr AV → St → Option (Tr AV × St) :=
  List.rec (motive := fun _ => Tr AV → St → Option (Tr AV × St)) (fun T s => some (T, s)) (fun o _ ih T s => match stepOp call n0 o T s with
    | none => none
    | some (T', s') => ih T' s') l
end Go.Ev
end
section
namespace Go.Ev
open Go
set_option linter.unusedVariables false
variable [Theta]
set_option linter.unusedSectionVars false
set_option linter.unusedSimpArgs false
def compGd (ops : Array Oper) : Option (Nat × Bool) → Option (Option (Nat × Bool))
  | none => some none
  | some (j, b) => match (ops[j]?).bind (·.dst) with
    | some t => some (some (t, b))
    | none => none
def compA (P : Program) (nt : Nat) (ops : Array Oper) (o : Oper) : Option AOp := match compGd ops o.guard with
  | none => none
  | some g => match o.dst with
    | none => some ⟨none, g, (compOp P o).getD .bad⟩
    | some d => if d < nt then some ⟨some d, g, (compOp P o).getD .bad⟩ else none
def compL (P : Program) (nt : Nat) (ops : Array Oper) : List Oper → Option (List AOp)
  | [] => some []
  | o :: r => match compA P nt ops o with
    | none => none
    | some a => match compL P nt ops r with
      | none => none
      | some l => some (a :: l)
def Does (P : Program) (f : Nat) (vs : Array Value) (w : World) (R : Value → World → Prop) : Prop :=
  (∃ x w', (callFunc f vs).run P w = .ok (.value x) w' ∧ R x w') ∨
  ((callFunc f vs).run P w = .ok (.enter f vs) w ∧ Calls P f vs w fun e w' => ∃ x, e = .returned x ∧ R x w')
def CallOK (P : Program) (n0 : Nat) (call : CallT) : Prop :=
  ∀ f l s v s', call f l s = some (v, s') → s.nxt ≤ s'.nxt ∧ ∀ (p : Px), p.n0 = n0 → p.ng = P.globals.size → s'.nxt ≤ p.lim → ∀ σ vs w, VRs σ l vs → HR p σ s w →
    Does P f vs.toArray w fun x w' => ∃ σ', VR σ' v x ∧ Good p σ s w σ' s' w'
theorem appA_sound {σ : Env} : ∀ {l m : AVs} {xs ys : List Value}, VRs σ l xs → VRs σ m ys → VRs σ (appA l m) (xs ++ ys)
  | .nil, m, xs, ys, h, k => by simp only [VRs] at h; subst h; exact k
  | .cons a t, m, xs, ys, h, k => by
    simp only [VRs] at h
    obtain ⟨z, zs, rfl, h1, h2⟩ := h
    simp only [appA, VRs, List.cons_append]
    exact ⟨z, _, rfl, h1, appA_sound h2 k⟩
section
variable {P : Program} {p : Px} {σ : Env} {s : St} {w : World} {T : Tr AV} {a : Act} {call : CallT}
theorem evOp_nxt {n0 : Nat} (hcall : CallOK P n0 call) {ai : AI} {s' : St} {v : AV} (h : evOp call n0 ai T s = some (v, s')) : s.nxt ≤ s'.nxt := by
  unfold evOp at h
  split at h
  · split at h
    · cases h
    · exact (hcall _ _ _ _ _ h).1
  · split at h
    · split at h
      · cases h
      · exact (hcall _ _ _ _ _ h).1
    · split at h
      · cases h
      · exact (hcall _ _ _ _ _ h).1
    · cases h
  · split at h
    · split at h
      · split at h
        · cases h
        · exact (hcall _ _ _ _ _ h).1
      · cases h
    · cases h
  · exact evAI_nxt h
theorem stepOp_nxt {n0 : Nat} (hcall : CallOK P n0 call) {o : AOp} {T' : Tr AV} {s' : St} (h : stepOp call n0 o T s = some (T', s')) : s.nxt ≤ s'.nxt := by
  unfold stepOp at h
  split at h
  · cases h
  · split at h
    · cases h
    · rename_i he
      obtain ⟨_, rfl⟩ := Prod.mk.inj (Option.some.inj h)
      exact evOp_nxt hcall he
  · obtain ⟨_, rfl⟩ := Prod.mk.inj (Option.some.inj h)
    exact Nat.le_refl _
theorem cons_get0 (x : Value) (ys : Array Value) : (#[x] ++ ys)[0]? = some x := by
  rw [Array.getElem?_append_left (by simp)]; rfl
theorem cons_ext (x : Value) (ys : Array Value) : (#[x] ++ ys).extract 1 (#[x] ++ ys).size = ys := by
  apply Array.ext'
  simp
theorem methF_sound {name : String} {t f : Nat} (h : methF P name t = some f) {v : Value} {w : World} (fuel : Nat) : (method (fuel + 1) t v name).run P w = .ok (f, v) w := by
  unfold methF at h
  split at h
  · cases h
  · rename_i i hi
    split at h
    · cases h
    · rename_i m hm
      split at h
      · rename_i hp
        split at h
        · cases h
        · rename_i g hf
          split at h
          · rename_i e hu
            obtain rfl := Option.some.inj h
            simp [method, typeInfo, program, hi, hm, hp, follow, hf, receiverAt, run_underlying hu, Place.get, Sem.run]
          · cases h
        · rename_i g hf
          split at h
          · cases h
          · rename_i d hd hu
            obtain rfl := Option.some.inj h
            cases d <;> first
              | exact (hd _ rfl).elim
              | simp [method, typeInfo, program, hi, hm, hp, follow, hf, receiverAt, run_underlying hu, Place.get, Sem.run]
          · cases h
      · cases h
theorem op_sound (hcall : CallOK P p.n0 call) (h : Rel P p σ T s a w) {o : Oper} {ai : AI} (hc : compOp P o = some ai) {v : AV} {s' : St} (he : evOp call p.n0 ai T s = some (v, s')) (hL : s'.nxt ≤ p.lim)
    {next : Act → World → Prop} {Q : Exit → Act → World → Prop} (hk : ∀ x σ' w', VR σ' v x → Good p σ s w σ' s' w' → next (a.put o.dst x) w') : o.wp P a w next Q := by
  have does : ∀ (f : Nat) (vs : List Value) (l : AVs), VRs σ l vs → call f l s = some (v, s') → (execOp a.eval o).run P w = (callFunc f vs.toArray).run P w → o.wp P a w next Q := by
    intro f vs l hvs hcl hex
    rcases (hcall f l s v s' hcl).2 p rfl h.ng hL σ vs w hvs h.h with ⟨x, w', h1, σ', h2, h3⟩ | ⟨h1, h2⟩
    · unfold Oper.wp
      rw [hex, h1]
      exact hk x σ' w' h2 h3
    · unfold Oper.wp
      rw [hex, h1]
      refine Calls.mono h2 ?_
      rintro e w' ⟨x, rfl, σ', h3, h4⟩
      exact hk x σ' w' h3 h4
  have base : evAI p.n0 ai T s = some (v, s') → o.wp P a w next Q := by
    intro he
    obtain ⟨x, σ', w', hr, hv, hg⟩ := ai_sound h hc he hL
    unfold Oper.wp
    rcases hr with hr | ⟨hr, rfl⟩
    · rw [hr]; exact hk x σ' w' hv hg
    · rw [hr]; exact hk _ σ' w' hv hg
  unfold evOp at he
  split at he
  · rename_i f args
    split at he
    · cases he
    · rename_i l hl
      have ho : ∃ c, o.op = .call c ∧ c.callee = .value (.func f) ∧ oL P c.args.toList = some args := by
        unfold compOp at hc
        cases hop : o.op <;> rw [hop] at hc <;> dsimp only at hc
        case call c =>
          obtain ⟨callee, az, ts⟩ := c
          dsimp only at hc
          split at hc
          · obtain ⟨l, h1, h2⟩ := Option.map_eq_some_iff.1 hc
            cases h2
            exact ⟨_, rfl, rfl, h1⟩
          all_goals (exfalso; revert hc; (try unfold binC); (repeat' split) <;> simp)
        all_goals (exfalso; revert hc; (try unfold binC); (repeat' split) <;> simp)
      obtain ⟨c, ho, hcal, hal⟩ := ho
      refine does f (c.args.toList.map a.eval) l (oL_sound h hal hl) he ?_
      have e : resolve a.eval c o.type = pure { target := .fn (.func f) #[], args := #[] ++ c.args.map a.eval } := by
        unfold resolve; rw [hcal]; rfl
      simp only [execOp, ho, e, Sem.run_bind, Sem.run_pure, Result.andThen_ok, invoke]
      congr 2
      apply Array.ext'
      simp
  · rename_i x args
    split at he
    · rename_i f caps hx
      split at he
      · cases he
      · rename_i l hl
        have ho : ∃ c y, o.op = .call c ∧ c.callee = .value y ∧ oo P y = some x ∧ oL P c.args.toList = some args := by
          unfold compOp at hc
          cases hop : o.op <;> rw [hop] at hc <;> dsimp only at hc
          case call c =>
            obtain ⟨callee, az, ts⟩ := c
            dsimp only at hc
            split at hc
            · exfalso; revert hc; simp
            · rename_i y _
              split at hc
              · rename_i x' l' h1 h2
                cases hc
                exact ⟨_, _, rfl, rfl, h1, h2⟩
              · cases hc
            all_goals (exfalso; revert hc; (try unfold binC); (repeat' split) <;> simp)
          all_goals (exfalso; revert hc; (try unfold binC); (repeat' split) <;> simp)
        obtain ⟨c, y, ho, hcal, hy, hal⟩ := ho
        have hfv := oo_sound h hy hx
        simp only [VR] at hfv
        obtain ⟨vs, hfe, hvs⟩ := hfv
        refine does f (c.args.toList.map a.eval ++ vs.toList) _ (appA_sound (oL_sound h hal hl) hvs) he ?_
        have e : resolve a.eval c o.type = pure { target := .fn (.func f) vs, args := #[] ++ c.args.map a.eval } := by
          unfold resolve; rw [hcal]; simp only [hfe]; rfl
        simp only [execOp, ho, e, Sem.run_bind, Sem.run_pure, Result.andThen_ok, invoke]
        congr 2
        simp
    · rename_i f fi hx
      split at he
      · cases he
      · rename_i l hl
        have ho : ∃ c y, o.op = .call c ∧ c.callee = .value y ∧ oo P y = some x ∧ oL P c.args.toList = some args := by
          unfold compOp at hc
          cases hop : o.op <;> rw [hop] at hc <;> dsimp only at hc
          case call c =>
            obtain ⟨callee, az, ts⟩ := c
            dsimp only at hc
            split at hc
            · exfalso; revert hc; simp
            · rename_i y _
              split at hc
              · rename_i x' l' h1 h2
                cases hc
                exact ⟨_, _, rfl, rfl, h1, h2⟩
              · cases hc
            all_goals (exfalso; revert hc; (try unfold binC); (repeat' split) <;> simp)
          all_goals (exfalso; revert hc; (try unfold binC); (repeat' split) <;> simp)
        obtain ⟨c, y, ho, hcal, hy, hal⟩ := ho
        have hfv := oo_sound h hy hx
        simp only [VR] at hfv
        obtain ⟨vs, hfe, hvs⟩ := hfv
        refine does f (vs.toList ++ c.args.toList.map a.eval) _ (appA_sound hvs (oL_sound h hal hl)) he ?_
        have e : resolve a.eval c o.type = pure { target := .fn (.func f) #[], args := vs ++ c.args.map a.eval } := by
          unfold resolve; rw [hcal]; simp only [hfe]; rfl
        simp only [execOp, ho, e, Sem.run_bind, Sem.run_pure, Result.andThen_ok, invoke]
        congr 2
        apply Array.ext'
        simp
    · cases he
  · rename_i m x args
    split at he
    · rename_i t v0 hx
      split at he
      · rename_i f hm
        split at he
        · cases he
        · rename_i l hl
          have ho : ∃ c y name, o.op = .call c ∧ c.callee = .invoke y name ∧ oo P y = some x ∧ oL P c.args.toList = some args ∧ m = methF P name := by
            unfold compOp at hc
            cases hop : o.op <;> rw [hop] at hc <;> dsimp only at hc
            case call c =>
              obtain ⟨callee, az, ts⟩ := c
              dsimp only at hc
              split at hc
              · exfalso; revert hc; simp
              · exfalso; revert hc; (repeat' split) <;> simp
              · rename_i y name
                split at hc
                · rename_i x' l' h1 h2
                  cases hc
                  exact ⟨_, _, _, rfl, rfl, h1, h2, rfl⟩
                · cases hc
              all_goals (exfalso; revert hc; (try unfold binC); (repeat' split) <;> simp)
            all_goals (exfalso; revert hc; (try unfold binC); (repeat' split) <;> simp)
          obtain ⟨c, y, name, ho, hcal, hy, hal, rfl⟩ := ho
          have hfv := oo_sound h hy hx
          simp only [VR] at hfv
          obtain ⟨X, hfe, hX⟩ := hfv
          refine does f (X :: c.args.toList.map a.eval) _ (by simp only [VRs]; exact ⟨_, _, rfl, hX, oL_sound h hal hl⟩) he ?_
          have e : resolve a.eval c o.type = pure { target := .fn (.method name) #[], args := #[a.eval y] ++ c.args.map a.eval } := by
            unfold resolve; rw [hcal]
          have e2 : (invoke (.fn (.method name) #[]) (#[a.eval y] ++ c.args.map a.eval)).run P w = (callMethod (a.eval y) name (c.args.map a.eval)).run P w := by
            simp only [invoke, cons_get0, cons_ext]
          have hmeth := methF_sound (v := X) (w := w) hm (P.types.size + 99)
          have e3 : (callMethod (.iface t X) name (c.args.map a.eval)).run P w = (callFunc f (#[X] ++ c.args.map a.eval)).run P w := by
            simp only [callMethod, Sem.run_bind, program, Sem.run, Result.andThen_ok]
            rw [show P.types.size + Made.depth = P.types.size + 99 + 1 from rfl, hmeth]
            rfl
          simp only [execOp, ho, e, Sem.run_bind, Sem.run_pure, Result.andThen_ok]
          rw [e2, hfe, e3]
          congr 2
          apply Array.ext'
          simp
      · cases he
    · cases he
  · exact base he
theorem put_rel (h : TR σ T a.tmps) {d : Option Nat} (hd : ∀ k, d = some k → k < a.tmps.size) {v : AV} {x : Value} (hv : VR σ v x) : TR σ (putT T d v) (a.put d x).tmps := by
  cases d with
  | none => exact h
  | some d => exact h.put (hd d rfl) hv
theorem put_size (a : Act) (d : Option Nat) (x : Value) : (a.put d x).tmps.size = a.tmps.size := by
  cases d <;> simp [Act.put]
theorem put_defers (a : Act) (d : Option Nat) (x : Value) : (a.put d x).defers = a.defers := by
  cases d <;> simp [Act.put]
theorem VR_notbool {v : AV} {x : Value} (h : VR σ v x) (hv : ∀ b, v ≠ .b b) : ∀ b, x ≠ .bool b := by
  intro b e
  subst e
  cases v <;> simp only [VR] at h <;> first
    | exact hv _ rfl
    | (obtain ⟨_, h, _⟩ := h; cases h; done)
    | (obtain ⟨_, _, _, h⟩ := h; cases h; done)
    | (obtain ⟨_, _, _, _, _, _, h⟩ := h; cases h; done)
    | cases h
theorem wants_sound (h : Rel P p σ T s a w) {ops : Array Oper} {o : Oper} {g : Option (Nat × Bool)} (hg : compGd ops o.guard = some g) {b : Bool} (hw : wants T g = some b) : Region.wanted o (yielded ops a.tmps) = b := by
  unfold compGd at hg
  unfold Region.wanted
  split at hg
  · rename_i h0
    obtain rfl := (Option.some.inj hg).symm
    obtain rfl := Option.some.inj hw
    rw [h0]
  · rename_i j c h0
    split at hg
    · rename_i t ht
      obtain rfl := (Option.some.inj hg).symm
      rw [h0]
      simp only [wants] at hw
      split at hw
      · cases hw
      · rename_i x hx
        obtain ⟨h1, h2⟩ := h.t t _ hx
        simp only [VR] at h2
        have : yielded ops a.tmps j = some x := by
          unfold yielded
          rw [ht]
          have : a.tmps[t]? = some (.bool x) := by rw [← h2, Array.getD_eq_getD_getElem?, getElem?_pos a.tmps t h1]; rfl
          simp [this]
        simp only [this]
        have := Option.some.inj hw
        subst this
        cases c <;> cases x <;> rfl
      · rename_i v hx hnb
        obtain rfl := Option.some.inj hw
        obtain ⟨h1, h2⟩ := h.t t _ hnb
        have h3 := VR_notbool h2 (fun b e => hx b e)
        have : yielded ops a.tmps j = none := by
          unfold yielded
          rw [ht]
          have e : a.tmps[t]? = some (a.tmps.getD t undef) := by rw [Array.getD_eq_getD_getElem?, getElem?_pos a.tmps t h1]; rfl
          simp only [Option.bind_some, e]
          generalize a.tmps.getD t undef = q at h3
          cases q <;> first
            | rfl
            | exact absurd rfl (h3 _)
        simp only [this]
        cases c <;> rfl
    · cases hg
theorem compA_parts {nt : Nat} {ops : Array Oper} {o : Oper} {ao : AOp} (h : compA P nt ops o = some ao) : compGd ops o.guard = some ao.g ∧ ao.ai = (compOp P o).getD .bad ∧ ao.d = o.dst ∧ ∀ k, o.dst = some k → k < nt := by
  unfold compA at h
  split at h
  · cases h
  · rename_i g hg
    split at h
    · rename_i hd
      obtain rfl := (Option.some.inj h).symm
      exact ⟨hg, rfl, hd.symm, fun k hk => by rw [hd] at hk; cases hk⟩
    · rename_i d hd
      split at h
      · rename_i hlt
        obtain rfl := (Option.some.inj h).symm
        exact ⟨hg, rfl, hd.symm, fun k hk => by rw [hd] at hk; obtain rfl := Option.some.inj hk; exact hlt⟩
      · cases h
theorem comp_some {o : Oper} {ai : AI} (hai : ai = (compOp P o).getD .bad) {n0 : Nat} {q : AV × St} (he : evOp call n0 ai T s = some q) : compOp P o = some ai := by
  cases hc : compOp P o with
  | some x => rw [hc] at hai; rw [hai]; rfl
  | none =>
    rw [hc] at hai
    rw [hai] at he
    cases he
theorem step_sound {nt : Nat} (hcall : CallOK P p.n0 call) (h : Rel P p σ T s a w) (hnt : nt ≤ a.tmps.size) {ops : Array Oper} {o : Oper} {ao : AOp} (hc : compA P nt ops o = some ao) {T' : Tr AV} {s' : St} (he : stepOp call p.n0 ao T s = some (T', s')) (hL : s'.nxt ≤ p.lim) :
    (Region.wanted o (yielded ops a.tmps) = false ∧ s' = s ∧ Rel P p σ T' s (a.put o.dst undef) w) ∨
    (Region.wanted o (yielded ops a.tmps) = true ∧ ∀ (next : Act → World → Prop) Q, (∀ x σ' w', Rel P p σ' T' s' (a.put o.dst x) w' → Good p σ s w σ' s' w' → next (a.put o.dst x) w') → o.wp P a w next Q) := by
  obtain ⟨hg, hai, hd, hdn⟩ := compA_parts hc
  have hdn' : ∀ k, o.dst = some k → k < a.tmps.size := fun k hk => Nat.lt_of_lt_of_le (hdn k hk) hnt
  unfold stepOp at he
  split at he
  · cases he
  · rename_i hw
    split at he
    · cases he
    · rename_i v s2 hs2
      obtain ⟨rfl, rfl⟩ := Prod.mk.inj (Option.some.inj he)
      refine .inr ⟨wants_sound h hg hw, fun next Q hk => ?_⟩
      refine op_sound hcall h (comp_some hai hs2) hs2 hL (fun x σ' w' hv hgood => hk x σ' w' ?_ hgood)
      rw [hd]
      exact ⟨put_rel (h.t.ext hgood.ext) hdn' hv, hgood.hr, h.ng, hgood.hr.n0, hgood.hr.g0⟩
  · rename_i hw
    obtain ⟨rfl, rfl⟩ := Prod.mk.inj (Option.some.inj he)
    refine .inl ⟨wants_sound h hg hw, rfl, ?_⟩
    rw [hd]
    exact ⟨put_rel h.t hdn' (by simp only [VR]; exact ⟨#[], rfl, by simp only [VRs]⟩), h.h, h.ng, h.n0, h.g0⟩
theorem evOps_nxt {n0 : Nat} (hcall : CallOK P n0 call) : ∀ (l : List AOp) {T : Tr AV} {s : St} {T' : Tr AV} {s' : St}, evOps call n0 l T s = some (T', s') → s.nxt ≤ s'.nxt
  | [], T, s, T', s', h => by obtain ⟨_, rfl⟩ := Prod.mk.inj (Option.some.inj h); exact Nat.le_refl _
  | o :: l, T, s, T', s', h => by
    have h' : (match stepOp call n0 o T s with
      | none => none
      | some (T1, s1) => evOps call n0 l T1 s1) = some (T', s') := h
    split at h'
    · cases h'
    · rename_i T1 s1 h1
      exact Nat.le_trans (stepOp_nxt hcall h1) (evOps_nxt hcall l h')
theorem evOps_sound {nt : Nat} (hcall : CallOK P p.n0 call) {ops : Array Oper} {Q : Exit → Act → World → Prop} : ∀ (os : List Oper) (l : List AOp) (hc : compL P nt ops os = some l) {T : Tr AV} {s : St} {T' : Tr AV} {s' : St} (he : evOps call p.n0 l T s = some (T', s')) (hL : s'.nxt ≤ p.lim) {σ : Env} {a : Act} {w : World}
    (h : Rel P p σ T s a w) (hnt : nt ≤ a.tmps.size) (hk : ∀ σ' a' w', Rel P p σ' T' s' a' w' → nt ≤ a'.tmps.size → a'.defers = a.defers → Good p σ s w σ' s' w' → Q .normal a' w'), wpList P ops Q os a w
  | [], l, hc, T, s, T', s', he, hL, σ, a, w, h, hnt, hk => by
    obtain rfl := (Option.some.inj hc).symm
    obtain ⟨rfl, rfl⟩ := Prod.mk.inj (Option.some.inj he)
    exact hk σ a w h hnt rfl (.refl h.h)
  | o :: os, l, hc, T, s, T', s', he, hL, σ, a, w, h, hnt, hk => by
    simp only [compL] at hc
    split at hc
    · cases hc
    · rename_i ao hao
      split at hc
      · cases hc
      · rename_i l' hl'
        obtain rfl := (Option.some.inj hc).symm
        have he' : (match stepOp call p.n0 ao T s with
          | none => none
          | some (T1, s1) => evOps call p.n0 l' T1 s1) = some (T', s') := he
        split at he'
        · cases he'
        · rename_i T1 s1 h1
          have hL1 : s1.nxt ≤ p.lim := Nat.le_trans (evOps_nxt hcall l' he') hL
          unfold wpList
          rcases step_sound hcall h hnt hao h1 hL1 with ⟨hw, rfl, hr⟩ | ⟨hw, hwp⟩
          · rw [if_neg (by rw [hw]; simp)]
            exact evOps_sound hcall os l' hl' he' hL hr (by rw [put_size]; exact hnt) (fun σ' a' w' q1 q2 q3 q4 => hk σ' a' w' q1 q2 (by rw [q3, put_defers]) q4)
          · rw [if_pos hw]
            refine .inl (hwp _ _ fun x σ1 w1 q1 q2 => ?_)
            exact evOps_sound hcall os l' hl' he' hL q1 (by rw [put_size]; exact hnt) (fun σ' a' w' r1 r2 r3 r4 => hk σ' a' w' r1 r2 (by rw [r3, put_defers]) (q2.trans r4))
end
end Go.Ev
end
section
namespace Go.Ev
open Go
set_option linter.unusedVariables false
variable [Theta]
set_option linter.unusedSectionVars false
set_option linter.unusedSimpArgs false
structure DR where
  lo : Nat
  hi : Nat
  W : Nat
  cls : Nat
  rb : Nat
  H : Tr Blk
  d : Option Nat
  v : AV
noncomputable def cpR (H' : Tr Blk) (n : Nat) : Nat → Tr Blk → Tr Blk :=
  Nat.rec (motive := fun _ => Nat → Tr Blk → Tr Blk) (fun _ H => H) (fun _ ih b H => ih (b + 1) (H.set b (H'.get b))) n
noncomputable def cpB (H' : Tr Blk) (fuel : Nat) : Nat → Tr Blk → Tr Blk :=
  Nat.rec (motive := fun _ => Nat → Tr Blk → Tr Blk) (fun _ H => H) (fun _ ih W H => match Nat.beq W 0 with
    | true => H
    | false => ih (W % 2 ^ Nat.log2 W) (H.set (Nat.log2 W) (H'.get (Nat.log2 W)))) fuel
noncomputable def apD (r : DR) (H : Tr Blk) : Tr Blk := cpB r.H r.W r.W (cpR r.H (r.hi - r.lo) r.lo H)
def DR.touch (r : DR) (b : Nat) : Prop := (r.lo ≤ b ∧ b < r.hi) ∨ r.W.testBit b = true
theorem cpR_get (H' : Tr Blk) : ∀ (n lo : Nat) (H : Tr Blk) (b : Nat), (cpR H' n lo H).get b = if lo ≤ b ∧ b < lo + n then H'.get b else H.get b
  | 0, lo, H, b => by rw [if_neg (by omega)]; rfl
  | n + 1, lo, H, b => by
    have e : cpR H' (n + 1) lo H = cpR H' n (lo + 1) (H.set lo (H'.get lo)) := rfl
    rw [e, cpR_get H' n, Tr.get_set]
    by_cases h1 : lo + 1 ≤ b ∧ b < lo + 1 + n
    · rw [if_pos h1, if_pos (by omega)]
    · rw [if_neg h1]
      by_cases h2 : b = lo
      · subst h2; rw [if_pos rfl, if_pos (by omega)]
      · rw [if_neg h2, if_neg (by omega)]
theorem testBit_log2 {W : Nat} (h : W ≠ 0) (b : Nat) : W.testBit b = (decide (b = W.log2) || (W % 2 ^ W.log2).testBit b) := by
  rw [Nat.testBit_mod_two_pow]
  by_cases hb : b = W.log2
  · subst hb; simp [Nat.testBit_log2 h]
  · by_cases hlt : b < W.log2
    · simp [hb, hlt]
    · have hge : W.log2 < b := by omega
      have : W < 2 ^ b := by
        have h1 : W < 2 ^ (W.log2 + 1) := Nat.lt_log2_self
        exact Nat.lt_of_lt_of_le h1 (Nat.pow_le_pow_right (by omega) hge)
      simp [hb, hlt, Nat.testBit_lt_two_pow this]
theorem cpB_get (H' : Tr Blk) : ∀ (fuel W : Nat) (H : Tr Blk) (b : Nat), W ≤ fuel → (cpB H' fuel W H).get b = if W.testBit b = true then H'.get b else H.get b
  | 0, W, H, b, h => by
    obtain rfl : W = 0 := by omega
    simp; rfl
  | fuel + 1, W, H, b, h => by
    have e : cpB H' (fuel + 1) W H = (match Nat.beq W 0 with
      | true => H
      | false => cpB H' fuel (W % 2 ^ Nat.log2 W) (H.set (Nat.log2 W) (H'.get (Nat.log2 W)))) := rfl
    rw [e]
    split
    · rename_i h0
      have h0 := Nat.eq_of_beq_eq_true h0
      subst h0
      simp
    · rename_i h0
      have h0 : W ≠ 0 := fun e => by subst e; cases h0
      have hlt : W % 2 ^ Nat.log2 W < W := by
        have h1 : W % 2 ^ Nat.log2 W < 2 ^ Nat.log2 W := Nat.mod_lt _ (Nat.pow_pos (by omega))
        have h2 : 2 ^ Nat.log2 W ≤ W := Nat.log2_self_le h0
        omega
      rw [cpB_get H' fuel _ _ _ (by omega), Tr.get_set, testBit_log2 h0]
      by_cases h1 : (W % 2 ^ W.log2).testBit b = true
      · simp [h1]
      · by_cases h2 : b = W.log2
        · simp [h1, h2]
        · simp [h1, h2]
theorem apD_get (r : DR) (H : Tr Blk) (hle : r.lo ≤ r.hi) (b : Nat) : (r.touch b → (apD r H).get b = r.H.get b) ∧ (¬ r.touch b → (apD r H).get b = H.get b) := by
  unfold apD DR.touch
  rw [cpB_get _ _ _ _ _ (Nat.le_refl _), cpR_get]
  constructor
  · rintro (h | h)
    · rw [if_pos (by omega : r.lo ≤ b ∧ b < r.lo + (r.hi - r.lo))]; simp
    · rw [if_pos h]
  · intro h
    rw [if_neg (fun hh => h (.inr hh)), if_neg (fun hh => h (.inl (by omega)))]
noncomputable def foldH (l : List DR) : Nat → (Nat → Bool) → Tr Blk → Tr Blk :=
  List.rec (motive := fun _ => Nat → (Nat → Bool) → Tr Blk → Tr Blk) (fun _ _ H => H) (fun r _ ih i S H => match S i with
    | true => ih (i + 1) S (apD r H)
    | false => ih (i + 1) S H) l
noncomputable def foldT (l : List DR) : Nat → (Nat → Bool) → Tr AV → Tr AV :=
  List.rec (motive := fun _ => Nat → (Nat → Bool) → Tr AV → Tr AV) (fun _ _ T => T) (fun r _ ih i S T => match S i with
    | true => ih (i + 1) S (putT T r.d r.v)
    | false => ih (i + 1) S T) l
noncomputable def eraseL (l : List Nat) (T : Tr AV) : Tr AV :=
  List.rec (motive := fun _ => Tr AV) T (fun t _ ih => ih.set t none) l
theorem eraseL_get : ∀ (l : List Nat) (T : Tr AV) (t : Nat), (eraseL l T).get t = if t ∈ l then none else T.get t
  | [], T, t => by simp; rfl
  | x :: l, T, t => by
    have e : eraseL (x :: l) T = (eraseL l T).set x none := rfl
    rw [e, Tr.get_set, eraseL_get l]
    by_cases h : t = x
    · simp [h]
    · simp [h]
noncomputable def baseT (o : DOp) (prev : List DR) (T0 : Tr AV) : Tr AV := eraseL o.er (foldT prev 0 (fun i => o.bef.testBit i) T0)
noncomputable def baseH (cls rb : Nat) (o : DOp) (prev : List DR) (H0 : Tr Blk) : Tr Blk := match cls with
  | 0 => .leaf
  | 1 => Tr.leaf.set rb ((foldH prev 0 (fun i => o.bef.testBit i) H0).get rb)
  | _ => foldH prev 0 (fun i => o.bef.testBit i) H0
noncomputable def clsOf (T : Tr AV) (ai : AI) : Nat × Nat := match ai with
  | .bin _ _ x _ => match evO T x with
    | some (.p _ _) => (2, 0)
    | _ => (0, 0)
  | .mv _ => (0, 0) | .pick _ _ _ => (0, 0) | .un _ _ => (0, 0)
  | .ld1 a => match evO T a with
    | some (.p b _) => (1, b)
    | _ => (0, 0)
  | .ldn _ a => match evO T a with
    | some (.p b _) => (1, b)
    | _ => (0, 0)
  | .fa _ _ => (0, 0) | .fl1 _ _ => (0, 0) | .fln _ _ _ => (0, 0) | .ia _ _ _ => (0, 0) | .iaa _ _ _ _ => (0, 0) | .ixs _ _ => (0, 0) | .ixa _ _ _ _ _ => (0, 0)
  | .sls _ _ _ => (0, 0) | .sll _ _ _ _ _ => (0, 0) | .sla _ _ _ _ _ _ => (0, 0) | .box _ _ => (0, 0) | .alc _ _ => (0, 0) | .bld _ _ => (0, 0) | .bsl _ _ _ _ _ => (0, 0)
  | .ext _ _ => (0, 0) | .bls _ => (0, 0) | .bll _ => (0, 0) | .bcap _ => (0, 0) | .bmn _ _ => (0, 0) | .bmx _ _ => (0, 0) | .mks _ _ _ _ _ _ => (0, 0)
  | .cvi _ _ => (0, 0) | .cid _ => (0, 0) | .nilc _ _ => (0, 0) | .mkf _ _ => (0, 0) | .mki _ _ => (0, 0) | .mkb _ _ => (0, 0) | .bni _ _ => (0, 0)
  | _ => (2, 0)
def rdOK (r : DR) (W : Nat) : Bool := match r.cls with
  | 0 => true
  | 1 => !(W.testBit r.rb)
  | _ => Nat.beq W 0
def pairOK (r q : DR) : Bool :=
  (match Nat.beq (r.W &&& q.W) 0 with | false => false | true => match Nat.beq (r.W >>> q.lo % 2 ^ (q.hi - q.lo)) 0 with | false => false | true => match Nat.beq (q.W >>> r.lo % 2 ^ (r.hi - r.lo)) 0 with
    | false => false
    | true => match rdOK r q.W with
      | false => false
      | true => rdOK q r.W)
noncomputable def pairsOK (l : List DR) (r : DR) (bef : Nat) : Nat → Bool :=
  List.rec (motive := fun _ => Nat → Bool) (fun _ => true) (fun q _ ih i => match bef.testBit i with
    | true => ih (i + 1)
    | false => match pairOK q r with
      | true => ih (i + 1)
      | false => false) l
noncomputable def evD (call : CallT) (n0 : Nat) (T0 : Tr AV) (H0 : Tr Blk) (l : List DOp) : List DR → Nat → Option (List DR) :=
  List.rec (motive := fun _ => List DR → Nat → Option (List DR)) (fun prev _ => some prev) (fun o _ ih prev nxt =>
    match wants (baseT o prev T0) o.op.g with
    | none => none
    | some false => match pairsOK prev ⟨nxt, nxt, 0, 0, 0, .leaf, o.op.d, .tup .nil⟩ o.bef 0 with
      | true => ih (prev ++ [⟨nxt, nxt, 0, 0, 0, .leaf, o.op.d, .tup .nil⟩]) nxt
      | false => none
    | some true => match evOp call n0 o.op.ai (baseT o prev T0) { H := baseH (clsOf (baseT o prev T0) o.op.ai).1 (clsOf (baseT o prev T0) o.op.ai).2 o prev H0, nxt := nxt, W := 0 } with
      | none => none
      | some (v, s') => match pairsOK prev ⟨nxt, s'.nxt, s'.W % 2 ^ nxt, (clsOf (baseT o prev T0) o.op.ai).1, (clsOf (baseT o prev T0) o.op.ai).2, s'.H, o.op.d, v⟩ o.bef 0 with
        | true => ih (prev ++ [⟨nxt, s'.nxt, s'.W % 2 ^ nxt, (clsOf (baseT o prev T0) o.op.ai).1, (clsOf (baseT o prev T0) o.op.ai).2, s'.H, o.op.d, v⟩]) s'.nxt
        | false => none) l
noncomputable def orW (l : List DR) (W : Nat) : Nat := List.rec (motive := fun _ => Nat) W (fun r _ ih => ih ||| r.W) l
noncomputable def lastHi (l : List DR) : Nat → Nat := List.rec (motive := fun _ => Nat → Nat) (fun n => n) (fun r _ ih _ => ih r.hi) l
noncomputable def evDraw (call : CallT) (n0 : Nat) (l : List DOp) (T : Tr AV) (s : St) : Option (Tr AV × St) := match evD call n0 T s.H l [] s.nxt with
  | none => none
  | some rs => some (foldT rs 0 (fun _ => true) T, { H := foldH rs 0 (fun _ => true) s.H, nxt := lastHi rs s.nxt, W := orW rs s.W })
def befOK (ops : Array Oper) (bef : List Nat) : Bool :=
  (List.range ops.size).all fun j => match ops[j]? with
    | none => false
    | some o => (o.after.toList.all fun e => !Region.binds .any e || (decide (e.on < j))) &&
      ((List.range ops.size).all fun i => !((bef.getD j 0).testBit i) || (decide (i < j) && Nat.beq (bef.getD i 0 ||| bef.getD j 0) (bef.getD j 0) && o.after.toList.any fun e => Region.binds .any e && (decide (e.on = i) || (bef.getD e.on 0).testBit i)))
def erOf (ops : Array Oper) (bef : List Nat) (j : Nat) : List Nat :=
  (List.range ops.size).filterMap fun i => if i = j || (bef.getD j 0).testBit i || (bef.getD i 0).testBit j then none else (ops[i]?).bind (·.dst)
def dstOK (ops : Array Oper) (bef : List Nat) : Bool :=
  (List.range ops.size).all fun j => (List.range ops.size).all fun i => i == j || (bef.getD j 0).testBit i || (bef.getD i 0).testBit j || (match (ops[i]?).bind (·.dst), (ops[j]?).bind (·.dst) with
    | some x, some y => x != y
    | _, _ => true)
def compD (P : Program) (nt : Nat) (ops : Array Oper) (bef : List Nat) : Nat → List AOp → List DOp
  | _, [] => []
  | j, a :: l => ⟨a, bef.getD j 0, erOf ops bef j⟩ :: compD P nt ops bef (j + 1) l
def compC (P : Program) (nt : Nat) : Code → Option AC
  | .skip => some .skip
  | .ret => some .ret
  | .exit n => some (.exit n)
  | .goto n => some (.goto n)
  | .label n => some (.lbl n)
  | .region _ ops false => (compL P nt ops ops.toList).map .reg
  | .region _ ops true => if befOK ops (Region.before ops).toList && dstOK ops (Region.before ops).toList && Region.noSelect ops then (compL P nt ops ops.toList).map fun l => .dreg (compD P nt ops (Region.before ops).toList 0 l) else some .bad
  | .seq a b => match compC P nt a, compC P nt b with
    | some a, some b => some (.seq a b)
    | _, _ => none
  | .cond c a b => match oo P c, compC P nt a, compC P nt b with
    | some c, some a, some b => some (.cond c a b)
    | _, _, _ => none
  | .block n c => (compC P nt c).map (.blk n)
  | .loop c => (compC P nt c).map .loop
  | .scope c => (compC P nt c).map .scope
  | _ => some .bad
end Go.Ev
end
section
namespace Go.Ev
open Go
set_option linter.unusedVariables false
variable [Theta]
set_option linter.unusedSectionVars false
set_option linter.unusedSimpArgs false
theorem foldH_cons (r : DR) (l : List DR) (i : Nat) (S : Nat → Bool) (H : Tr Blk) : foldH (r :: l) i S H = match S i with
    | true => foldH l (i + 1) S (apD r H)
    | false => foldH l (i + 1) S H := rfl
theorem foldT_cons (r : DR) (l : List DR) (i : Nat) (S : Nat → Bool) (T : Tr AV) : foldT (r :: l) i S T = match S i with
    | true => foldT l (i + 1) S (putT T r.d r.v)
    | false => foldT l (i + 1) S T := rfl
theorem foldH_congr {b : Nat} : ∀ (l : List DR) (k : Nat) (S S' : Nat → Bool) (H H' : Tr Blk), (∀ i r, l[i]? = some r → r.touch b → S (k + i) = S' (k + i)) → (∀ r ∈ l, r.lo ≤ r.hi) → H.get b = H'.get b → (foldH l k S H).get b = (foldH l k S' H').get b
  | [], k, S, S', H, H', _, _, h => h
  | r :: l, k, S, S', H, H', hS, hle, h => by
    have hl := hle r (List.mem_cons_self ..)
    have hn : ∀ i q, l[i]? = some q → q.touch b → S (k + 1 + i) = S' (k + 1 + i) := fun i q hq ht => by
      have := hS (i + 1) q (by simpa using hq) ht
      rwa [show k + (i + 1) = k + 1 + i from by omega] at this
    have hle' : ∀ q ∈ l, q.lo ≤ q.hi := fun q hq => hle q (List.mem_cons_of_mem _ hq)
    have ap := apD_get r H hl b
    have ap' := apD_get r H' hl b
    rw [foldH_cons, foldH_cons]
    by_cases ht : r.touch b
    · have h0 := hS 0 r rfl ht
      simp only [Nat.add_zero] at h0
      rw [h0]
      cases S' k with
      | true => exact foldH_congr l (k + 1) S S' _ _ hn hle' (by rw [ap.1 ht, ap'.1 ht])
      | false => exact foldH_congr l (k + 1) S S' _ _ hn hle' h
    · cases S k <;> cases S' k <;> exact foldH_congr l (k + 1) S S' _ _ hn hle' (by first | exact h | (rw [ap.2 ht]; exact h) | (rw [ap'.2 ht]; exact h) | (rw [ap.2 ht, ap'.2 ht]; exact h))
theorem foldH_none {b : Nat} : ∀ (l : List DR) (k : Nat) (S : Nat → Bool) (H : Tr Blk), (∀ i r, l[i]? = some r → S (k + i) = true → ¬ r.touch b) → (∀ r ∈ l, r.lo ≤ r.hi) → (foldH l k S H).get b = H.get b
  | [], k, S, H, _, _ => rfl
  | r :: l, k, S, H, hS, hle => by
    have hn : ∀ i q, l[i]? = some q → S (k + 1 + i) = true → ¬ q.touch b := fun i q hq ht => hS (i + 1) q (by simpa using hq) (by rwa [show k + (i + 1) = k + 1 + i from by omega])
    have hle' : ∀ q ∈ l, q.lo ≤ q.hi := fun q hq => hle q (List.mem_cons_of_mem _ hq)
    rw [foldH_cons]
    cases hs : S k with
    | true =>
      have h0 := hS 0 r rfl (by simpa using hs)
      show (foldH l (k + 1) S (apD r H)).get b = _
      rw [foldH_none l (k + 1) S _ hn hle', (apD_get r H (hle r (List.mem_cons_self ..)) b).2 h0]
    | false => exact foldH_none l (k + 1) S _ hn hle'
theorem foldH_last {b : Nat} : ∀ (l : List DR) (k j : Nat) (S : Nat → Bool) (H : Tr Blk) (r : DR), l[j]? = some r → S (k + j) = true → r.touch b → (∀ i q, j < i → l[i]? = some q → S (k + i) = true → ¬ q.touch b) → (∀ r ∈ l, r.lo ≤ r.hi) → (foldH l k S H).get b = r.H.get b
  | [], k, j, S, H, r, h, _, _, _, _ => by simp at h
  | q :: l, k, 0, S, H, r, h, hS, ht, hn, hle => by
    simp at h; subst h
    simp only [Nat.add_zero] at hS
    rw [foldH_cons, hS]
    show (foldH l (k + 1) S (apD q H)).get b = _
    rw [foldH_none l (k + 1) S _ (fun i r hr hs => hn (i + 1) r (by omega) (by simpa using hr) (by rwa [show k + (i + 1) = k + 1 + i from by omega])) (fun x hx => hle x (List.mem_cons_of_mem _ hx)), (apD_get q H (hle q (List.mem_cons_self ..)) b).1 ht]
  | q :: l, k, j + 1, S, H, r, h, hS, ht, hn, hle => by
    have hh : ∀ H', (foldH l (k + 1) S H').get b = r.H.get b := fun H' => foldH_last l (k + 1) j S H' r (by simpa using h) (by rwa [show k + 1 + j = k + (j + 1) from by omega]) ht
      (fun i x hi hx hs => hn (i + 1) x (by omega) (by simpa using hx) (by rwa [show k + (i + 1) = k + 1 + i from by omega])) (fun x hx => hle x (List.mem_cons_of_mem _ hx))
    rw [foldH_cons]
    cases S k <;> exact hh _
theorem foldH_origin {b : Nat} {x : Blk} (l : List DR) (k : Nat) (S : Nat → Bool) (H : Tr Blk) (hle : ∀ r ∈ l, r.lo ≤ r.hi) (h : (foldH l k S H).get b = some x) : (∃ i r, l[i]? = some r ∧ S (k + i) = true ∧ r.touch b) ∨ H.get b = some x := by
  by_cases hh : ∃ i r, l[i]? = some r ∧ S (k + i) = true ∧ r.touch b
  · exact .inl hh
  · rw [foldH_none l k S H (fun i r hr hs ht => hh ⟨i, r, hr, hs, ht⟩) hle] at h
    exact .inr h
theorem putT_get (T : Tr AV) (d : Option Nat) (v : AV) (t : Nat) : (putT T d v).get t = if d = some t then some v else T.get t := by
  cases d with
  | none => rfl
  | some d =>
    show (T.set d (some v)).get t = _
    rw [Tr.get_set]
    by_cases h : t = d
    · subst h; simp
    · rw [if_neg h, if_neg (by intro e; exact h (Option.some.inj e).symm)]
theorem foldT_congr {t : Nat} : ∀ (l : List DR) (k : Nat) (S S' : Nat → Bool) (T T' : Tr AV), (∀ i r, l[i]? = some r → r.d = some t → S (k + i) = S' (k + i)) → T.get t = T'.get t → (foldT l k S T).get t = (foldT l k S' T').get t
  | [], k, S, S', T, T', _, h => h
  | r :: l, k, S, S', T, T', hS, h => by
    have hn : ∀ i q, l[i]? = some q → q.d = some t → S (k + 1 + i) = S' (k + 1 + i) := fun i q hq ht => by
      have := hS (i + 1) q (by simpa using hq) ht
      rwa [show k + (i + 1) = k + 1 + i from by omega] at this
    rw [foldT_cons, foldT_cons]
    by_cases ht : r.d = some t
    · have h0 := hS 0 r rfl ht
      simp only [Nat.add_zero] at h0
      rw [h0]
      cases S' k with
      | true => exact foldT_congr l (k + 1) S S' _ _ hn (by rw [putT_get, putT_get, if_pos ht, if_pos ht])
      | false => exact foldT_congr l (k + 1) S S' _ _ hn h
    · have e1 : (putT T r.d r.v).get t = T.get t := by rw [putT_get, if_neg ht]
      have e2 : (putT T' r.d r.v).get t = T'.get t := by rw [putT_get, if_neg ht]
      cases S k <;> cases S' k <;> exact foldT_congr l (k + 1) S S' _ _ hn (by first | exact h | (rw [e1]; exact h) | (rw [e2]; exact h) | (rw [e1, e2]; exact h))
theorem foldT_none {t : Nat} (l : List DR) (k : Nat) (S : Nat → Bool) (T : Tr AV) (hS : ∀ i r, l[i]? = some r → S (k + i) = true → r.d ≠ some t) : (foldT l k S T).get t = T.get t := by
  have e : ∀ (l : List DR) (k : Nat) (T : Tr AV), (foldT l k (fun _ => false) T) = T := by
    intro l
    induction l with
    | nil => intro k T; rfl
    | cons r l ih => intro k T; rw [foldT_cons]; exact ih _ _
  rw [foldT_congr l k S (fun _ => false) T T (fun i r hr ht => by
    cases hs : S (k + i) with
    | false => rfl
    | true => exact absurd ht (hS i r hr hs)) rfl, e]
theorem foldT_last {t : Nat} : ∀ (l : List DR) (k j : Nat) (S : Nat → Bool) (T : Tr AV) (r : DR), l[j]? = some r → S (k + j) = true → r.d = some t → (∀ i q, j < i → l[i]? = some q → S (k + i) = true → q.d ≠ some t) → (foldT l k S T).get t = some r.v
  | [], k, j, S, T, r, h, _, _, _ => by simp at h
  | q :: l, k, 0, S, T, r, h, hS, ht, hn => by
    simp at h; subst h
    simp only [Nat.add_zero] at hS
    rw [foldT_cons, hS]
    show (foldT l (k + 1) S (putT T q.d q.v)).get t = _
    rw [foldT_none l (k + 1) S _ (fun i r hr hs => hn (i + 1) r (by omega) (by simpa using hr) (by rwa [show k + (i + 1) = k + 1 + i from by omega])), putT_get, if_pos ht]
  | q :: l, k, j + 1, S, T, r, h, hS, ht, hn => by
    have hh : ∀ T', (foldT l (k + 1) S T').get t = some r.v := fun T' => foldT_last l (k + 1) j S T' r (by simpa using h) (by rwa [show k + 1 + j = k + (j + 1) from by omega]) ht
      (fun i x hi hx hs => hn (i + 1) x (by omega) (by simpa using hx) (by rwa [show k + (i + 1) = k + 1 + i from by omega]))
    rw [foldT_cons]
    cases S k <;> exact hh _
theorem foldH_take {b : Nat} (l : List DR) (j : Nat) (S : Nat → Bool) (H : Tr Blk) (hS : ∀ i, j ≤ i → S i = false) (hle : ∀ r ∈ l, r.lo ≤ r.hi) : (foldH (l.take j) 0 S H).get b = (foldH l 0 S H).get b := by
  have app : ∀ (l m : List DR) (k : Nat) (H : Tr Blk), foldH (l ++ m) k S H = foldH m (k + l.length) S (foldH l k S H) := by
    intro l
    induction l with
    | nil => intro m k H; rfl
    | cons r l ih =>
      intro m k H
      rw [List.cons_append, foldH_cons, foldH_cons, List.length_cons, show k + (l.length + 1) = k + 1 + l.length from by omega]
      cases S k <;> exact ih m (k + 1) _
  by_cases hj : j ≤ l.length
  · have := app (l.take j) (l.drop j) 0 H
    rw [List.take_append_drop] at this
    rw [this, foldH_none (l.drop j) _ S _ (fun i r _ hs => by rw [hS _ (by rw [List.length_take]; omega)] at hs; cases hs) (fun r hr => hle r (List.mem_of_mem_drop hr))]
  · rw [List.take_of_length_le (by omega)]
theorem foldT_take {t : Nat} (l : List DR) (j : Nat) (S : Nat → Bool) (T : Tr AV) (hS : ∀ i, j ≤ i → S i = false) : (foldT (l.take j) 0 S T).get t = (foldT l 0 S T).get t := by
  have app : ∀ (l m : List DR) (k : Nat) (T : Tr AV), foldT (l ++ m) k S T = foldT m (k + l.length) S (foldT l k S T) := by
    intro l
    induction l with
    | nil => intro m k T; rfl
    | cons r l ih =>
      intro m k T
      rw [List.cons_append, foldT_cons, foldT_cons, List.length_cons, show k + (l.length + 1) = k + 1 + l.length from by omega]
      cases S k <;> exact ih m (k + 1) _
  by_cases hj : j ≤ l.length
  · have := app (l.take j) (l.drop j) 0 T
    rw [List.take_append_drop] at this
    rw [this, foldT_none (l.drop j) _ S _ (fun i r _ hs => by rw [hS _ (by rw [List.length_take]; omega)] at hs; cases hs)]
  · rw [List.take_of_length_le (by omega)]
structure DStep (call : CallT) (n0 : Nat) (T0 : Tr AV) (H0 : Tr Blk) (prev : List DR) (nx : Nat) (o : DOp) (r : DR) : Prop where
  lo : r.lo = nx
  le : r.lo ≤ r.hi
  d : r.d = o.op.d
  wl : ∀ b, r.W.testBit b = true → b < r.lo
  pairs : ∀ i q, prev[i]? = some q → o.bef.testBit i = false → pairOK q r = true
  run : (wants (baseT o prev T0) o.op.g = some false ∧ r.v = .tup .nil ∧ r.hi = r.lo ∧ r.W = 0) ∨
    (wants (baseT o prev T0) o.op.g = some true ∧ ∃ s', evOp call n0 o.op.ai (baseT o prev T0) { H := baseH r.cls r.rb o prev H0, nxt := r.lo, W := 0 } = some (r.v, s') ∧ r.H = s'.H ∧ r.hi = s'.nxt ∧ r.W = s'.W % 2 ^ r.lo)
theorem pairsOK_spec : ∀ (l : List DR) (r : DR) (bef k : Nat), pairsOK l r bef k = true → ∀ i q, l[i]? = some q → bef.testBit (k + i) = false → pairOK q r = true
  | [], r, bef, k, h, i, q, hq, _ => by simp at hq
  | x :: l, r, bef, k, h, i, q, hq, hb => by
    have h' : (match bef.testBit k with
      | true => pairsOK l r bef (k + 1)
      | false => match pairOK x r with
        | true => pairsOK l r bef (k + 1)
        | false => false) = true := h
    have rest : pairsOK l r bef (k + 1) = true ∧ (bef.testBit k = false → pairOK x r = true) := by
      split at h'
      · rename_i e; exact ⟨h', fun e' => by rw [e] at e'; cases e'⟩
      · split at h'
        · rename_i e; exact ⟨h', fun _ => e⟩
        · cases h'
    cases i with
    | zero => simp at hq; subst hq; exact rest.2 (by simpa using hb)
    | succ i => exact pairsOK_spec l r bef (k + 1) rest.1 i q (by simpa using hq) (by rwa [show k + 1 + i = k + (i + 1) from by omega])
theorem lastHi_append (l m : List DR) (n : Nat) : lastHi (l ++ m) n = lastHi m (lastHi l n) := by
  induction l generalizing n with
  | nil => rfl
  | cons r l ih => exact ih r.hi
theorem evD_spec {P : Program} {call : CallT} {n0 : Nat} (hcall : CallOK P n0 call) {T0 : Tr AV} {H0 : Tr Blk} {N : Nat} : ∀ (l : List DOp) (prev : List DR) (nxt : Nat) (rs : List DR), evD call n0 T0 H0 l prev nxt = some rs → nxt = lastHi prev N →
    ∃ new, rs = prev ++ new ∧ new.length = l.length ∧ ∀ j o, l[j]? = some o → ∃ r, new[j]? = some r ∧ DStep call n0 T0 H0 (prev ++ new.take j) (lastHi (prev ++ new.take j) N) o r
  | [], prev, nxt, rs, h, _ => by
    obtain rfl := (Option.some.inj h).symm
    exact ⟨[], by simp, rfl, by simp⟩
  | o :: l, prev, nxt, rs, h, hN => by
    have go : ∀ r nxt', evD call n0 T0 H0 l (prev ++ [r]) nxt' = some rs → nxt' = r.hi → DStep call n0 T0 H0 prev nxt o r →
        ∃ new, rs = prev ++ new ∧ new.length = (o :: l).length ∧ ∀ j o', (o :: l)[j]? = some o' → ∃ r, new[j]? = some r ∧ DStep call n0 T0 H0 (prev ++ new.take j) (lastHi (prev ++ new.take j) N) o' r := by
      intro r nxt' h1 h2 h3
      obtain ⟨new, g1, g2, g3⟩ := evD_spec hcall l (prev ++ [r]) nxt' rs h1 (by rw [lastHi_append prev [r] N, h2]; rfl)
      refine ⟨r :: new, by rw [g1]; simp, by simp [g2], fun j o' hj => ?_⟩
      cases j with
      | zero =>
        simp at hj; subst hj
        exact ⟨r, rfl, by simpa [← hN] using h3⟩
      | succ j =>
        obtain ⟨q, q1, q2⟩ := g3 j o' (by simpa using hj)
        exact ⟨q, by simpa using q1, by simpa using q2⟩
    have h' : (match wants (baseT o prev T0) o.op.g with
      | none => none
      | some false => match pairsOK prev ⟨nxt, nxt, 0, 0, 0, .leaf, o.op.d, .tup .nil⟩ o.bef 0 with
        | true => evD call n0 T0 H0 l (prev ++ [⟨nxt, nxt, 0, 0, 0, .leaf, o.op.d, .tup .nil⟩]) nxt
        | false => none
      | some true => match evOp call n0 o.op.ai (baseT o prev T0) { H := baseH (clsOf (baseT o prev T0) o.op.ai).1 (clsOf (baseT o prev T0) o.op.ai).2 o prev H0, nxt := nxt, W := 0 } with
        | none => none
        | some (v, s') => match pairsOK prev ⟨nxt, s'.nxt, s'.W % 2 ^ nxt, (clsOf (baseT o prev T0) o.op.ai).1, (clsOf (baseT o prev T0) o.op.ai).2, s'.H, o.op.d, v⟩ o.bef 0 with
          | true => evD call n0 T0 H0 l (prev ++ [⟨nxt, s'.nxt, s'.W % 2 ^ nxt, (clsOf (baseT o prev T0) o.op.ai).1, (clsOf (baseT o prev T0) o.op.ai).2, s'.H, o.op.d, v⟩]) s'.nxt
          | false => none) = some rs := h
    split at h'
    · cases h'
    · rename_i hw
      split at h'
      · rename_i hp
        refine go _ _ h' rfl ⟨rfl, Nat.le_refl _, rfl, fun b hb => by simp at hb, fun i q hq hb => ?_, .inl ⟨hw, rfl, rfl, rfl⟩⟩
        exact pairsOK_spec prev _ o.bef 0 hp i q hq (by simpa using hb)
      · cases h'
    · rename_i hw
      split at h'
      · cases h'
      · rename_i v s' he
        split at h'
        · rename_i hp
          refine go _ _ h' rfl ⟨rfl, evOp_nxt hcall he, rfl, fun b hb => ?_, fun i q hq hb => ?_, .inr ⟨hw, s', he, rfl, rfl, rfl⟩⟩
          · rw [Nat.testBit_mod_two_pow] at hb
            simp only [Bool.and_eq_true, decide_eq_true_eq] at hb
            exact hb.1
          · exact pairsOK_spec prev _ o.bef 0 hp i q hq (by simpa using hb)
        · cases h'
end Go.Ev
end
section
namespace Go.Ev
open Go
set_option linter.unusedVariables false
variable [Theta]
set_option linter.unusedSectionVars false
set_option linter.unusedSimpArgs false
structure BefP (ops : Array Oper) (bef : List Nat) : Prop where
  edge : ∀ j o, ops[j]? = some o → ∀ e ∈ o.after, Region.binds .any e = true → e.on < j
  lt : ∀ j i, j < ops.size → i < ops.size → (bef.getD j 0).testBit i = true → i < j
  clos : ∀ j i o, ops[j]? = some o → i < ops.size → (bef.getD j 0).testBit i = true → ∃ e ∈ o.after, Region.binds .any e = true ∧ (e.on = i ∨ (bef.getD e.on 0).testBit i = true)
  trans : ∀ j i k, j < ops.size → i < ops.size → (bef.getD j 0).testBit i = true → (bef.getD i 0).testBit k = true → (bef.getD j 0).testBit k = true
theorem befOK_spec {ops : Array Oper} {bef : List Nat} (h : befOK ops bef = true) : BefP ops bef := by
  unfold befOK at h
  rw [List.all_eq_true] at h
  have key : ∀ j o, ops[j]? = some o → (∀ e ∈ o.after, Region.binds .any e = true → e.on < j) ∧ ∀ i, i < ops.size → (bef.getD j 0).testBit i = true → i < j ∧ Nat.beq (bef.getD i 0 ||| bef.getD j 0) (bef.getD j 0) = true ∧ ∃ e ∈ o.after, Region.binds .any e = true ∧ (e.on = i ∨ (bef.getD e.on 0).testBit i = true) := by
    intro j o ho
    have hj : j < ops.size := (Array.getElem?_eq_some_iff.1 ho).1
    have := h j (List.mem_range.2 hj)
    rw [ho] at this
    simp only [Bool.and_eq_true, List.all_eq_true] at this
    obtain ⟨h1, h2⟩ := this
    refine ⟨fun e he hb => ?_, fun i hi hbit => ?_⟩
    · have := h1 e (by simpa using he)
      simpa [hb] using this
    · have := h2 i (List.mem_range.2 hi)
      rw [hbit] at this
      simp only [Bool.not_true, Bool.false_or, Bool.and_eq_true, List.any_eq_true, Bool.or_eq_true, decide_eq_true_eq] at this
      obtain ⟨⟨g1, g2⟩, e, he, g3, g4⟩ := this
      exact ⟨g1, g2, e, by simpa using he, g3, g4⟩
  refine ⟨fun j o ho => (key j o ho).1, fun j i hj hi hb => ?_, fun j i o ho hi hb => ((key j o ho).2 i hi hb).2.2, fun j i k hj hi hb hk => ?_⟩
  · exact ((key j ops[j] (by simp [hj])).2 i hi hb).1
  · have := ((key j ops[j] (by simp [hj])).2 i hi hb).2.1
    have := Nat.eq_of_beq_eq_true this
    rw [← this, Nat.testBit_or, hk]; rfl
theorem dstOK_spec {ops : Array Oper} {bef : List Nat} (h : dstOK ops bef = true) {i j : Nat} {x y : Oper} (hx : ops[i]? = some x) (hy : ops[j]? = some y) (hne : i ≠ j) {t : Tmp} (h1 : x.dst = some t) (h2 : y.dst = some t) :
    (bef.getD j 0).testBit i = true ∨ (bef.getD i 0).testBit j = true := by
  unfold dstOK at h
  rw [List.all_eq_true] at h
  have := h j (List.mem_range.2 (Array.getElem?_eq_some_iff.1 hy).1)
  rw [List.all_eq_true] at this
  have := this i (List.mem_range.2 (Array.getElem?_eq_some_iff.1 hx).1)
  rw [hx, hy] at this
  simpa [hne, h1, h2] using this
theorem erOf_spec {ops : Array Oper} {bef : List Nat} {i j : Nat} {x : Oper} (hx : ops[i]? = some x) (hne : i ≠ j) (h1 : (bef.getD j 0).testBit i = false) (h2 : (bef.getD i 0).testBit j = false) {t : Tmp} (ht : x.dst = some t) : t ∈ erOf ops bef j := by
  unfold erOf
  rw [List.mem_filterMap]
  refine ⟨i, List.mem_range.2 (Array.getElem?_eq_some_iff.1 hx).1, ?_⟩
  rw [List.getD_eq_getElem?_getD] at h1 h2
  simp [hne, h1, h2, hx, ht]
theorem compD_get (P : Program) (nt : Nat) (ops : Array Oper) (bef : List Nat) : ∀ (l : List AOp) (k j : Nat) (a : AOp), l[j]? = some a → (compD P nt ops bef k l)[j]? = some ⟨a, bef.getD (k + j) 0, erOf ops bef (k + j)⟩
  | [], k, j, a, h => by simp at h
  | x :: l, k, 0, a, h => by simp at h; subst h; simp [compD]
  | x :: l, k, j + 1, a, h => by
    simp only [compD, List.getElem?_cons_succ]
    have := compD_get P nt ops bef l (k + 1) j a (by simpa using h)
    rwa [show k + 1 + j = k + (j + 1) from by omega] at this
theorem compD_length (P : Program) (nt : Nat) (ops : Array Oper) (bef : List Nat) : ∀ (l : List AOp) (k : Nat), (compD P nt ops bef k l).length = l.length
  | [], k => rfl
  | x :: l, k => by simp [compD, compD_length P nt ops bef l]
theorem compL_get {P : Program} {nt : Nat} {ops : Array Oper} : ∀ (os : List Oper) (l : List AOp), compL P nt ops os = some l → l.length = os.length ∧ ∀ (j : Nat) (o : Oper), os[j]? = some o → ∃ a : AOp, l[j]? = some a ∧ compA P nt ops o = some a
  | [], l, h => by obtain rfl := (Option.some.inj h).symm; exact ⟨rfl, by simp⟩
  | o :: os, l, h => by
    simp only [compL] at h
    split at h
    · cases h
    · rename_i a ha
      split at h
      · cases h
      · rename_i l' hl'
        obtain rfl := (Option.some.inj h).symm
        obtain ⟨h1, h2⟩ := compL_get os l' hl'
        refine ⟨by simp [h1], fun j o' hj => ?_⟩
        cases j with
        | zero => simp at hj; subst hj; exact ⟨a, rfl, ha⟩
        | succ j => simpa using h2 j o' (by simpa using hj)
theorem pairOK_spec {r q : DR} (h : pairOK r q = true) : (∀ b, r.W.testBit b = true → q.W.testBit b = false) ∧ (∀ b, q.lo ≤ b → b < q.hi → r.W.testBit b = false) ∧ (∀ b, r.lo ≤ b → b < r.hi → q.W.testBit b = false) ∧ rdOK r q.W = true ∧ rdOK q r.W = true := by
  have alloc : ∀ {W lo hi : Nat}, Nat.beq (W >>> lo % 2 ^ (hi - lo)) 0 = true → ∀ b, lo ≤ b → b < hi → W.testBit b = false := by
    intro W lo hi h b h1 h2
    have h := Nat.eq_of_beq_eq_true h
    have e : (W >>> lo % 2 ^ (hi - lo)).testBit (b - lo) = W.testBit b := by
      rw [Nat.testBit_mod_two_pow, Nat.testBit_shiftRight, show lo + (b - lo) = b from by omega]
      have : b - lo < hi - lo := by omega
      simp [this]
    rw [← e, h]; simp
  unfold pairOK at h
  split at h
  · cases h
  · rename_i h1
    split at h
    · cases h
    · rename_i h2
      split at h
      · cases h
      · rename_i h3
        split at h
        · cases h
        · rename_i h4
          refine ⟨fun b hb => ?_, alloc h2, alloc h3, h4, h⟩
          have h1 := Nat.eq_of_beq_eq_true h1
          have : (r.W &&& q.W).testBit b = false := by rw [h1]; simp
          rw [Nat.testBit_and, hb] at this
          simpa using this
theorem filt_lt {p p' : Nat → Bool} (h : ∀ x, p' x = true → p x = true) {j : Nat} (h1 : p j = true) (h2 : p' j = false) : ∀ (l : List Nat), j ∈ l → (l.filter p').length < (l.filter p).length := by
  have le : ∀ l : List Nat, (l.filter p').length ≤ (l.filter p).length := by
    intro l
    induction l with
    | nil => simp
    | cons x l ih =>
      rw [List.filter_cons, List.filter_cons]
      cases e' : p' x with
      | true => simp [h x e', ih]
      | false => cases p x <;> simp <;> omega
  intro l
  induction l with
  | nil => intro h; cases h
  | cons x l ih =>
    intro hm
    rw [List.filter_cons, List.filter_cons]
    rcases List.mem_cons.1 hm with rfl | hm
    · rw [h1, h2]; have := le l; simp; omega
    · have := ih hm
      cases e' : p' x with
      | true => simp [h x e', this]
      | false => cases p x <;> simp <;> omega
section
variable {P : Program} {call : CallT} {nt : Nat} {ops : Array Oper}
structure DI (p : Px) (nt : Nat) (bef : List Nat) (n : Nat) (rs : List DR) (σ0 : Env) (T0 : Tr AV) (s0 : St) (Wend : Nat) (a0 : Act) (w0 : World) (L : Array Bool) (σ : Env) (a : Act) (w : World) : Prop where
  sz : L.size = n
  t : TR σ (foldT rs 0 (fun i => L.getD i false) T0) a.tmps
  nt : nt ≤ a.tmps.size
  df : a.defers = a0.defers
  ext : σ0.Ext σ
  blk : ∀ b k, (foldH rs 0 (fun i => L.getD i false) s0.H).get b = some k → ∃ r κ o, σ b = some (r, κ) ∧ w.heap[r]? = some o ∧ BR σ κ k o
  inj : ∀ b b' k k' r κ κ', (foldH rs 0 (fun i => L.getD i false) s0.H).get b = some k → (foldH rs 0 (fun i => L.getD i false) s0.H).get b' = some k' → σ b = some (r, κ) → σ b' = some (r, κ') → b = b'
  fr1 : ∀ (i : Nat) (r : DR), rs[i]? = some r → L.getD i false = false → ∀ b, r.lo ≤ b → b < r.hi → σ b = none
  fr2 : ∀ b, lastHi rs s0.nxt ≤ b → b < p.lim → σ b = none
  low : ∀ b r κ, p.n0 ≤ b → σ b = some (r, κ) → p.B ≤ r
  lt : ∀ b r κ, σ b = some (r, κ) → r < w.heap.size
  glob : ∀ b, b < p.ng → ∃ κ, σ b = some (b, κ)
  base : p.B ≤ w.heap.size
  wl : ∀ (i : Nat) (r : DR), rs[i]? = some r → L.getD i false = true → ∀ b, r.W.testBit b = true → p.n0 ≤ b
  keep : Keep σ0 s0.H Wend w0 w
  old : ∀ b k q, (foldH rs 0 (fun i => L.getD i false) s0.H).get b = some k → σ0 b = some q → ∃ k0, s0.H.get b = some k0
  nw : ∀ b r κ, σ0 b = none → σ b = some (r, κ) → (s0.nxt ≤ b ∧ b < lastHi rs s0.nxt) ∧ (w0.heap.size ≤ r ∨ ∃ b0 k0 κ0, s0.H.get b0 = some k0 ∧ σ0 b0 = some (r, κ0) ∧ Wend.testBit b0 = true)
  down : ∀ j, L.getD j false = true → ∀ i, i < n → (bef.getD j 0).testBit i = true → L.getD i false = true
structure DA (P : Program) (call : CallT) (nt : Nat) (ops : Array Oper) (bef : List Nat) (n0 : Nat) (T0 : Tr AV) (s0 : St) (rs : List DR) (Wend : Nat) : Prop where
  bp : BefP ops bef
  dst : dstOK ops bef = true
  len : rs.length = ops.size
  at_ : ∀ (j : Nat) (o : Oper), ops[j]? = some o → ∃ (r : DR) (a : AOp), rs[j]? = some r ∧ compA P nt ops o = some a ∧ DStep call n0 T0 s0.H (rs.take j) (lastHi (rs.take j) s0.nxt) ⟨a, bef.getD j 0, erOf ops bef j⟩ r
  wend : ∀ (j : Nat) (r : DR), rs[j]? = some r → ∀ b, r.W.testBit b = true → Wend.testBit b = true
theorem DA.step {bef : List Nat} {n0 : Nat} {T0 : Tr AV} {s0 : St} {rs : List DR} {Wend : Nat} (h : DA P call nt ops bef n0 T0 s0 rs Wend) {j : Nat} {r : DR} (hr : rs[j]? = some r) :
    ∃ o a, ops[j]? = some o ∧ compA P nt ops o = some a ∧ DStep call n0 T0 s0.H (rs.take j) (lastHi (rs.take j) s0.nxt) ⟨a, bef.getD j 0, erOf ops bef j⟩ r := by
  have hj : j < ops.size := by
    rcases Nat.lt_or_ge j rs.length with h' | h'
    · rw [← h.len]; exact h'
    · rw [List.getElem?_eq_none h'] at hr; cases hr
  obtain ⟨r', a, h1, h2, h3⟩ := h.at_ j ops[j] (by simp [hj])
  rw [hr] at h1
  obtain rfl := Option.some.inj h1
  exact ⟨ops[j], a, by simp [hj], h2, h3⟩
theorem DA.le {bef : List Nat} {n0 : Nat} {T0 : Tr AV} {s0 : St} {rs : List DR} {Wend : Nat} (h : DA P call nt ops bef n0 T0 s0 rs Wend) : ∀ r ∈ rs, r.lo ≤ r.hi := by
  intro r hr
  obtain ⟨j, hj⟩ := List.getElem?_of_mem hr
  obtain ⟨_, _, _, _, h3⟩ := h.step hj
  exact h3.le
theorem lastHi_take {rs : List DR} {n : Nat} {j : Nat} {r : DR} (hr : rs[j]? = some r) : lastHi (rs.take (j + 1)) n = r.hi := by
  have hj : j < rs.length := by
    rcases Nat.lt_or_ge j rs.length with h' | h'
    · exact h'
    · rw [List.getElem?_eq_none h'] at hr; cases hr
  rw [List.take_succ_eq_append_getElem hj, lastHi_append]
  have : rs[j] = r := by rw [List.getElem?_eq_getElem hj] at hr; exact Option.some.inj hr
  rw [this]; rfl
theorem DA.mono {bef : List Nat} {n0 : Nat} {T0 : Tr AV} {s0 : St} {rs : List DR} {Wend : Nat} (h : DA P call nt ops bef n0 T0 s0 rs Wend) : ∀ (j : Nat), j ≤ rs.length → (∀ (i : Nat) (r : DR), i < j → rs[i]? = some r → r.hi ≤ lastHi (rs.take j) s0.nxt ∧ s0.nxt ≤ r.lo) ∧ s0.nxt ≤ lastHi (rs.take j) s0.nxt := by
  intro j
  induction j with
  | zero => intro _; exact ⟨fun i r hi => by omega, Nat.le_refl _⟩
  | succ j ih =>
    intro hj
    obtain ⟨h1, h2⟩ := ih (by omega)
    have hr : rs[j]? = some rs[j] := List.getElem?_eq_getElem (by omega)
    obtain ⟨_, _, _, _, h3⟩ := h.step hr
    have hlast := lastHi_take (n := s0.nxt) hr
    have hlo := h3.lo
    have hle := h3.le
    refine ⟨fun i r hi hri => ?_, by rw [hlast]; omega⟩
    rw [hlast]
    by_cases hij : i = j
    · subst hij
      rw [hr] at hri
      obtain rfl := Option.some.inj hri
      exact ⟨Nat.le_refl _, by omega⟩
    · obtain ⟨g1, g2⟩ := h1 i r (by omega) hri
      exact ⟨by omega, g2⟩
theorem DA.lt {bef : List Nat} {n0 : Nat} {T0 : Tr AV} {s0 : St} {rs : List DR} {Wend : Nat} (h : DA P call nt ops bef n0 T0 s0 rs Wend) {i j : Nat} {r q : DR} (hi : rs[i]? = some r) (hj : rs[j]? = some q) (hij : i < j) : r.hi ≤ q.lo := by
  have hjl : j < rs.length := by
    rcases Nat.lt_or_ge j rs.length with h' | h'
    · exact h'
    · rw [List.getElem?_eq_none h'] at hj; cases hj
  obtain ⟨_, _, _, _, h3⟩ := h.step hj
  rw [h3.lo]
  exact ((h.mono j (by omega)).1 i r hij hi).1
theorem DA.first {bef : List Nat} {n0 : Nat} {T0 : Tr AV} {s0 : St} {rs : List DR} {Wend : Nat} (h : DA P call nt ops bef n0 T0 s0 rs Wend) {i : Nat} {r : DR} (hi : rs[i]? = some r) : s0.nxt ≤ r.lo ∧ r.hi ≤ lastHi rs s0.nxt := by
  have hil : i < rs.length := by
    rcases Nat.lt_or_ge i rs.length with h' | h'
    · exact h'
    · rw [List.getElem?_eq_none h'] at hi; cases hi
  have := (h.mono rs.length (Nat.le_refl _)).1 i r hil hi
  rw [List.take_length] at this
  exact ⟨this.2, this.1⟩
theorem DA.pair {bef : List Nat} {n0 : Nat} {T0 : Tr AV} {s0 : St} {rs : List DR} {Wend : Nat} (h : DA P call nt ops bef n0 T0 s0 rs Wend) {i j : Nat} {r q : DR} (hi : rs[i]? = some r) (hj : rs[j]? = some q) (hij : i < j) (hb : (bef.getD j 0).testBit i = false) : pairOK r q = true := by
  obtain ⟨_, _, _, _, h3⟩ := h.step hj
  exact h3.pairs i r (by rw [List.getElem?_take, if_pos hij]; exact hi) hb
theorem DA.apart {bef : List Nat} {n0 : Nat} {T0 : Tr AV} {s0 : St} {rs : List DR} {Wend : Nat} (h : DA P call nt ops bef n0 T0 s0 rs Wend) {i j : Nat} {r q : DR} (hi : rs[i]? = some r) (hj : rs[j]? = some q) (hij : i < j) (hb : (bef.getD j 0).testBit i = false) {b : Nat} (h1 : r.touch b) (h2 : q.touch b) : False := by
  obtain ⟨p1, p2, p3, _, _⟩ := pairOK_spec (h.pair hi hj hij hb)
  obtain ⟨_, _, _, _, s1⟩ := h.step hi
  have hlt := h.lt hi hj hij
  have hle1 := s1.le
  rcases h1 with ⟨a1, a2⟩ | a1
  · rcases h2 with ⟨b1, b2⟩ | b1
    · omega
    · rw [p3 b a1 a2] at b1; cases b1
  · rcases h2 with ⟨b1, b2⟩ | b1
    · have := s1.wl b a1; omega
    · rw [p1 b a1] at b1; cases b1
end
end Go.Ev
end
section
namespace Go.Ev
open Go
set_option linter.unusedVariables false
variable [Theta]
set_option linter.unusedSectionVars false
set_option linter.unusedSimpArgs false
section
variable {P : Program} {call : CallT} {nt : Nat} {ops : Array Oper} {bef : List Nat} {p : Px} {T0 : Tr AV} {s0 : St} {rs : List DR} {Wend : Nat} {σ0 σ : Env} {a0 a : Act} {w0 w : World} {L : Array Bool}
theorem ready_bits (hA : DA P call nt ops bef p.n0 T0 s0 rs Wend) (hD : DI p nt bef ops.size rs σ0 T0 s0 Wend a0 w0 L σ a w) {j : Nat} {o : Oper} (ho : ops[j]? = some o) (he : ∀ e ∈ o.after, Region.binds .any e = true → L.getD e.on false = true) :
    ∀ i, i < ops.size → (bef.getD j 0).testBit i = true → L.getD i false = true := by
  intro i hi hb
  obtain ⟨e, h1, h2, h3⟩ := hA.bp.clos j i o ho hi hb
  rcases h3 with rfl | h3
  · exact he e h1 h2
  · exact hD.down e.on (he e h1 h2) i hi h3
theorem base_sub (hA : DA P call nt ops bef p.n0 T0 s0 rs Wend) (hD : DI p nt bef ops.size rs σ0 T0 s0 Wend a0 w0 L σ a w) (hdom : ∀ b k, s0.H.get b = some k → b < s0.nxt) {j : Nat} {r : DR} (hr : rs[j]? = some r) (hun : L.getD j false = false)
    (hpre : ∀ i, i < ops.size → (bef.getD j 0).testBit i = true → L.getD i false = true) {o : DOp} (hob : o.bef = bef.getD j 0) {b : Nat} {k : Blk} (h : (baseH r.cls r.rb o (rs.take j) s0.H).get b = some k) :
    (foldH rs 0 (fun i => L.getD i false) s0.H).get b = some k ∧ b < r.lo := by
  have hle := hA.le
  have hjn : j < ops.size := by
    rcases Nat.lt_or_ge j rs.length with h' | h'
    · rw [← hA.len]; exact h'
    · rw [List.getElem?_eq_none h'] at hr; cases hr
  obtain ⟨oj, aj, hoj, _, hstep⟩ := hA.step hr
  have hidx : ∀ {i : Nat} {q : DR}, rs[i]? = some q → i < ops.size := fun {i q} hq => by
    rcases Nat.lt_or_ge i rs.length with h' | h'
    · rw [← hA.len]; exact h'
    · rw [List.getElem?_eq_none h'] at hq; cases hq
  -- the heap by the bits alone
  have hbits : ∀ i, j ≤ i → ((bef.getD j 0).testBit i && decide (i < ops.size)) = false := by
    intro i hi
    cases hb : (bef.getD j 0).testBit i with
    | false => rfl
    | true =>
      by_cases hin : i < ops.size
      · have := hA.bp.lt j i hjn hin hb; omega
      · simp [hin]
  have hsame : ∀ b, (foldH (rs.take j) 0 (fun i => o.bef.testBit i) s0.H).get b = (foldH rs 0 (fun i => (bef.getD j 0).testBit i && decide (i < ops.size)) s0.H).get b := by
    intro b
    rw [← foldH_take rs j (fun i => (bef.getD j 0).testBit i && decide (i < ops.size)) s0.H hbits hle]
    refine foldH_congr _ 0 _ _ _ _ (fun i q hq _ => ?_) (fun q hq => hle q (List.mem_of_mem_take hq)) rfl
    have : i < ops.size := by
      have : i < (rs.take j).length := by
        rcases Nat.lt_or_ge i (rs.take j).length with h' | h'
        · exact h'
        · rw [List.getElem?_eq_none h'] at hq; cases hq
      rw [List.length_take, hA.len] at this
      omega
    simp [hob, this]
  -- an unordered one that was carried out and touches b allocates it
  have main : ∀ b k, (foldH rs 0 (fun i => (bef.getD j 0).testBit i && decide (i < ops.size)) s0.H).get b = some k → (∀ i q, rs[i]? = some q → i ≠ j → (bef.getD j 0).testBit i = false → L.getD i false = true → q.W.testBit b = false) →
      (foldH rs 0 (fun i => L.getD i false) s0.H).get b = some k ∧ b < r.lo := by
    intro b k hk hnw
    have horig := foldH_origin rs 0 _ s0.H hle hk
    have hlt : b < r.lo := by
      rcases horig with ⟨i, q, hq, hs, ht⟩ | h0
      · simp only [Nat.zero_add, Bool.and_eq_true, decide_eq_true_eq] at hs
        have hij := hA.bp.lt j i hjn hs.2 hs.1
        have := hA.lt hq hr hij
        obtain ⟨_, _, _, _, s1⟩ := hA.step hq
        have := s1.le
        rcases ht with ⟨_, ht⟩ | ht
        · omega
        · have := s1.wl b ht; omega
      · have := hdom b k h0
        have := (hA.first hr).1
        omega
    refine ⟨?_, hlt⟩
    rw [← hk]
    refine foldH_congr rs 0 _ _ _ _ (fun i q hq ht => ?_) hle rfl
    simp only [Nat.zero_add]
    have hin := hidx hq
    cases hb : (bef.getD j 0).testBit i with
    | true => rw [hpre i hin hb]; simp [hin]
    | false =>
      cases hL : L.getD i false with
      | false => rfl
      | true =>
        exfalso
        have hij : i ≠ j := fun e => by subst e; rw [hun] at hL; cases hL
        have hW := hnw i q hq hij hb hL
        have hal : q.lo ≤ b ∧ b < q.hi := by
          rcases ht with ht | ht
          · exact ht
          · rw [hW] at ht; cases ht
        rcases horig with ⟨i', q', hq', hs', ht'⟩ | h0
        · simp only [Nat.zero_add, Bool.and_eq_true, decide_eq_true_eq] at hs'
          have hne : i ≠ i' := fun e => by subst e; rw [hb] at hs'; cases hs'.1
          rcases Nat.lt_or_gt_of_ne hne with hlt' | hlt'
          · cases hbb : (bef.getD i' 0).testBit i with
            | true => rw [hA.bp.trans j i' i hjn hs'.2 hs'.1 hbb] at hb; cases hb
            | false => exact hA.apart hq hq' hlt' hbb (.inl hal) ht'
          · have := hA.lt hq' hq hlt'
            obtain ⟨_, _, _, _, s1⟩ := hA.step hq'
            have := s1.le
            rcases ht' with ⟨_, ht'⟩ | ht'
            · omega
            · have := s1.wl b ht'; omega
        · have := hdom b k h0
          have := (hA.first hq).1
          omega
  -- by the class
  have pairs : ∀ i q, rs[i]? = some q → i ≠ j → (bef.getD j 0).testBit i = false → L.getD i false = true → rdOK r q.W = true := by
    intro i q hq hne hb hL
    rcases Nat.lt_or_gt_of_ne hne with hlt' | hlt'
    · exact (pairOK_spec (hA.pair hq hr hlt' hb)).2.2.2.2
    · have hb' : (bef.getD i 0).testBit j = false := by
        cases hh : (bef.getD i 0).testBit j with
        | false => rfl
        | true => rw [hD.down i hL j hjn hh] at hun; cases hun
      exact (pairOK_spec (hA.pair hr hq hlt' hb')).2.2.2.1
  unfold baseH at h
  split at h
  · rw [Tr.get_leaf] at h; cases h
  · rename_i hcls
    rw [Tr.get_set] at h
    by_cases hbb : b = r.rb
    · rw [if_pos hbb, ← hbb, hsame] at h
      refine main b k h (fun i q hq hne hb hL => ?_)
      have := pairs i q hq hne hb hL
      unfold rdOK at this
      rw [hcls] at this
      subst hbb
      simpa using this
    · rw [if_neg hbb, Tr.get_leaf] at h; cases h
  · rename_i hc0 hc1
    rw [hsame] at h
    refine main b k h (fun i q hq hne hb hL => ?_)
    have := pairs i q hq hne hb hL
    unfold rdOK at this
    split at this
    · rename_i e; exact absurd e hc0
    · rename_i e; exact absurd e hc1
    · rw [Nat.eq_of_beq_eq_true this]; simp
theorem baseT_sub (hA : DA P call nt ops bef p.n0 T0 s0 rs Wend) (hD : DI p nt bef ops.size rs σ0 T0 s0 Wend a0 w0 L σ a w) {j : Nat} {r : DR} (hr : rs[j]? = some r) (hun : L.getD j false = false)
    (hpre : ∀ i, i < ops.size → (bef.getD j 0).testBit i = true → L.getD i false = true) {op : AOp} : TR σ (baseT ⟨op, bef.getD j 0, erOf ops bef j⟩ (rs.take j) T0) a.tmps := by
  intro t v h
  refine hD.t t v ?_
  have hjn : j < ops.size := by
    rcases Nat.lt_or_ge j rs.length with h' | h'
    · rw [← hA.len]; exact h'
    · rw [List.getElem?_eq_none h'] at hr; cases hr
  unfold baseT at h
  rw [eraseL_get] at h
  split at h
  · cases h
  · rename_i hne
    have hbits : ∀ i, j ≤ i → ((bef.getD j 0).testBit i && decide (i < ops.size)) = false := by
      intro i hi
      cases hb : (bef.getD j 0).testBit i with
      | false => rfl
      | true =>
        by_cases hin : i < ops.size
        · have := hA.bp.lt j i hjn hin hb; omega
        · simp [hin]
    have h2 : (foldT rs 0 (fun i => (bef.getD j 0).testBit i && decide (i < ops.size)) T0).get t = some v := by
      rw [← foldT_take rs j _ T0 hbits, ← h]
      refine foldT_congr _ 0 _ _ _ _ (fun i q hq _ => ?_) rfl
      have : i < ops.size := by
        have : i < (rs.take j).length := by
          rcases Nat.lt_or_ge i (rs.take j).length with h' | h'
          · exact h'
          · rw [List.getElem?_eq_none h'] at hq; cases hq
        rw [List.length_take, hA.len] at this
        omega
      simp [this]
    rw [← h2]
    refine foldT_congr rs 0 _ _ _ _ (fun i q hq hd => ?_) rfl
    simp only [Nat.zero_add]
    obtain ⟨oi, ai, hoi, hai, hsi⟩ := hA.step hq
    have hin : i < ops.size := (Array.getElem?_eq_some_iff.1 hoi).1
    cases hb : (bef.getD j 0).testBit i with
    | true => rw [hpre i hin hb]; simp [hin]
    | false =>
      cases hL : L.getD i false with
      | false => rfl
      | true =>
        exfalso
        have hij : i ≠ j := fun e => by subst e; rw [hun] at hL; cases hL
        have hb' : (bef.getD i 0).testBit j = false := by
          cases hh : (bef.getD i 0).testBit j with
          | false => rfl
          | true => rw [hD.down i hL j hjn hh] at hun; cases hun
        have hdi := hsi.d
        have := (compA_parts hai).2.2.1
        dsimp only at hdi
        exact hne (erOf_spec hoi hij hb hb' (by rw [← this, ← hdi]; exact hd))
end
end Go.Ev
end
section
namespace Go.Ev
open Go
set_option linter.unusedVariables false
variable [Theta]
set_option linter.unusedSectionVars false
set_option linter.unusedSimpArgs false
section
variable {P : Program} {call : CallT} {nt : Nat} {ops : Array Oper} {bef : List Nat} {p : Px} {T0 : Tr AV} {s0 : St} {rs : List DR} {Wend : Nat} {σ0 σ : Env} {a0 a : Act} {w0 w : World} {L : Array Bool}
theorem set_getD {L : Array Bool} {j : Nat} (hj : j < L.size) (i : Nat) : (L.setIfInBounds j true).getD i false = if i = j then true else L.getD i false := by
  by_cases h : i = j
  · subst h; rw [if_pos rfl, Array.getD_eq_getD_getElem?, Array.getElem?_setIfInBounds_self_of_lt hj]; rfl
  · rw [if_neg h, Array.getD_eq_getD_getElem?, Array.getElem?_setIfInBounds_ne (Ne.symm h), ← Array.getD_eq_getD_getElem?]
theorem DI.frame (hA : DA P call nt ops bef p.n0 T0 s0 rs Wend) (hD : DI p nt bef ops.size rs σ0 T0 s0 Wend a0 w0 L σ a w) {j : Nat} {r : DR} (hr : rs[j]? = some r) (hun : L.getD j false = false) {σ' : Env} (he : σ.Ext σ') {x : Value} (hv : VR σ' r.v x) :
    TR σ' (foldT rs 0 (fun i => (L.setIfInBounds j true).getD i false) T0) (a.put r.d x).tmps := by
  obtain ⟨oj, aj, hoj, haj, hsj⟩ := hA.step hr
  have hjn : j < ops.size := (Array.getElem?_eq_some_iff.1 hoj).1
  have hjs : j < L.size := by rw [hD.sz]; exact hjn
  obtain ⟨_, _, hd, hdn⟩ := compA_parts haj
  have hrd : r.d = oj.dst := by rw [hsj.d, ← hd]
  intro t v h
  by_cases ht : r.d = some t
  · have hlast := foldT_last rs 0 j (fun i => (L.setIfInBounds j true).getD i false) T0 r hr (by simp only [Nat.zero_add]; rw [set_getD hjs, if_pos rfl]) ht (fun i q hi hq hs hqd => by
      simp only [Nat.zero_add] at hs
      rw [set_getD hjs, if_neg (by omega)] at hs
      obtain ⟨oi, ai, hoi, hai, hsi⟩ := hA.step hq
      have hin : i < ops.size := (Array.getElem?_eq_some_iff.1 hoi).1
      have hqd' : oi.dst = some t := by rw [← (compA_parts hai).2.2.1, ← hsi.d]; exact hqd
      rcases dstOK_spec hA.dst hoi hoj (by omega) hqd' (by rw [← hrd]; exact ht) with h' | h'
      · have := hA.bp.lt j i hjn hin h'; omega
      · rw [hD.down i hs j hjn h'] at hun; cases hun)
    rw [hlast] at h
    obtain rfl := Option.some.inj h
    have htn : t < a.tmps.size := Nat.lt_of_lt_of_le (hdn t (by rw [← hrd]; exact ht)) hD.nt
    rw [ht]
    refine ⟨by show t < (a.tmps.setIfInBounds t x).size; simpa using htn, ?_⟩
    show VR σ' r.v ((a.tmps.setIfInBounds t x).getD t undef)
    rw [Array.getD_eq_getD_getElem?, Array.getElem?_setIfInBounds_self_of_lt htn]
    exact hv
  · have hsame := foldT_congr (t := t) rs 0 (fun i => (L.setIfInBounds j true).getD i false) (fun i => L.getD i false) T0 T0 (fun i q hq hqd => by
      simp only [Nat.zero_add]
      rw [set_getD hjs]
      by_cases hij : i = j
      · subst hij; rw [hr] at hq; obtain rfl := Option.some.inj hq; exact absurd hqd ht
      · rw [if_neg hij]) rfl
    rw [hsame] at h
    obtain ⟨h1, h2⟩ := hD.t t v h
    cases hd' : r.d with
    | none => exact ⟨h1, h2.ext he⟩
    | some d =>
      have hne : d ≠ t := fun e => ht (by rw [hd', e])
      refine ⟨by show t < (a.tmps.setIfInBounds d x).size; simpa using h1, ?_⟩
      show VR σ' v ((a.tmps.setIfInBounds d x).getD t undef)
      rw [Array.getD_eq_getD_getElem?, Array.getElem?_setIfInBounds_ne hne, ← Array.getD_eq_getD_getElem?]
      exact h2.ext he
theorem DI.skip (hA : DA P call nt ops bef p.n0 T0 s0 rs Wend) (hD : DI p nt bef ops.size rs σ0 T0 s0 Wend a0 w0 L σ a w) {j : Nat} {r : DR} (hr : rs[j]? = some r) (hun : L.getD j false = false) (hpre : ∀ i, i < ops.size → (bef.getD j 0).testBit i = true → L.getD i false = true)
    (hv : r.v = .tup .nil) (hhi : r.hi = r.lo) (hW : r.W = 0) : DI p nt bef ops.size rs σ0 T0 s0 Wend a0 w0 (L.setIfInBounds j true) σ (a.put r.d undef) w := by
  obtain ⟨oj, aj, hoj, haj, hsj⟩ := hA.step hr
  have hjn : j < ops.size := (Array.getElem?_eq_some_iff.1 hoj).1
  have hjs : j < L.size := by rw [hD.sz]; exact hjn
  have hnt : ∀ b, ¬ r.touch b := fun b ht => by
    rcases ht with ht | ht
    · omega
    · rw [hW] at ht; simp at ht
  have hsame : ∀ b, (foldH rs 0 (fun i => (L.setIfInBounds j true).getD i false) s0.H).get b = (foldH rs 0 (fun i => L.getD i false) s0.H).get b := fun b =>
    foldH_congr rs 0 _ _ _ _ (fun i q hq ht => by
      simp only [Nat.zero_add]
      rw [set_getD hjs]
      by_cases hij : i = j
      · subst hij; rw [hr] at hq; obtain rfl := Option.some.inj hq; exact absurd ht (hnt b)
      · rw [if_neg hij]) hA.le rfl
  refine ⟨by simpa using hD.sz, hD.frame hA hr hun (.refl _) (by rw [hv]; simp only [VR]; exact ⟨#[], rfl, by simp only [VRs]⟩), by rw [put_size]; exact hD.nt, by rw [put_defers]; exact hD.df, hD.ext, fun b k h => hD.blk b k (by rw [← hsame]; exact h),
    fun b b' k k' r1 κ κ' h h' => hD.inj b b' k k' r1 κ κ' (by rw [← hsame]; exact h) (by rw [← hsame]; exact h'), fun i q hq hL b h1 h2 => ?_, hD.fr2, hD.low, hD.lt, hD.glob, hD.base, fun i q hq hL b hb => ?_, hD.keep, fun b k q h => hD.old b k q (by rw [← hsame]; exact h), hD.nw, fun i hi k hk hb => ?_⟩
  · rw [set_getD hjs] at hL
    split at hL
    · cases hL
    · exact hD.fr1 i q hq hL b h1 h2
  · rw [set_getD hjs] at hL
    split at hL
    · rename_i e; subst e; rw [hr] at hq; obtain rfl := Option.some.inj hq; rw [hW] at hb; simp at hb
    · exact hD.wl i q hq hL b hb
  · rw [set_getD hjs] at hi ⊢
    split
    · rfl
    · split at hi
      · rename_i e; subst e; exact hpre k hk hb
      · exact hD.down i hi k hk hb
theorem DI.done (hA : DA P call nt ops bef p.n0 T0 s0 rs Wend) (hD : DI p nt bef ops.size rs σ0 T0 s0 Wend a0 w0 L σ a w) (hdom : ∀ b k, s0.H.get b = some k → b < s0.nxt) (hlim : lastHi rs s0.nxt ≤ p.lim) {j : Nat} {r : DR} (hr : rs[j]? = some r) (hun : L.getD j false = false) (hpre : ∀ i, i < ops.size → (bef.getD j 0).testBit i = true → L.getD i false = true)
    {o : DOp} (hob : o.bef = bef.getD j 0) {s' : St} (hH : r.H = s'.H) (hhi : r.hi = s'.nxt) (hW : r.W = s'.W % 2 ^ r.lo) {σ' : Env} {w' : World} {x : Value} (hv : VR σ' r.v x)
    (hg : Good { p with lim := r.hi } σ { H := baseH r.cls r.rb o (rs.take j) s0.H, nxt := r.lo, W := 0 } w σ' s' w') :
    DI p nt bef ops.size rs σ0 T0 s0 Wend a0 w0 (L.setIfInBounds j true) σ' (a.put r.d x) w' := by
  obtain ⟨oj, aj, hoj, haj, hsj⟩ := hA.step hr
  have hjn : j < ops.size := (Array.getElem?_eq_some_iff.1 hoj).1
  have hjs : j < L.size := by rw [hD.sz]; exact hjn
  have hsub : ∀ {b k}, (baseH r.cls r.rb o (rs.take j) s0.H).get b = some k → (foldH rs 0 (fun i => L.getD i false) s0.H).get b = some k ∧ b < r.lo := fun {b k} h => base_sub hA hD hdom hr hun hpre hob h
  -- the heap behind it
  have hin : ∀ b, r.touch b → (foldH rs 0 (fun i => (L.setIfInBounds j true).getD i false) s0.H).get b = s'.H.get b := fun b ht => by
    rw [← hH]
    refine foldH_last rs 0 j _ s0.H r hr (by simp only [Nat.zero_add]; rw [set_getD hjs, if_pos rfl]) ht (fun i q hi hq hs hqt => ?_) hA.le
    simp only [Nat.zero_add] at hs
    rw [set_getD hjs, if_neg (by omega)] at hs
    cases hb : (bef.getD i 0).testBit j with
    | true => rw [hD.down i hs j hjn hb] at hun; cases hun
    | false => exact hA.apart hr hq hi hb ht hqt
  have hout : ∀ b, ¬ r.touch b → (foldH rs 0 (fun i => (L.setIfInBounds j true).getD i false) s0.H).get b = (foldH rs 0 (fun i => L.getD i false) s0.H).get b := fun b ht =>
    foldH_congr rs 0 _ _ _ _ (fun i q hq hqt => by
      simp only [Nat.zero_add]
      rw [set_getD hjs]
      by_cases hij : i = j
      · subst hij; rw [hr] at hq; obtain rfl := Option.some.inj hq; exact absurd hqt ht
      · rw [if_neg hij]) hA.le rfl
  have hbit : ∀ b, b < r.lo → s'.W.testBit b = true → r.W.testBit b = true := fun b hb hw => by rw [hW, Nat.testBit_mod_two_pow]; simp [hb, hw]
  have hfirst := hA.first hr
  have hlive : ∀ {b k q}, (foldH rs 0 (fun i => L.getD i false) s0.H).get b = some k → σ' b = some q → σ b = some q := by
    intro b k q hb hq
    obtain ⟨r1, κ1, o1, e1, _⟩ := hD.blk b k hb
    have := hg.ext _ _ e1
    rw [this] at hq
    rw [e1, hq]
  refine ⟨by simpa using hD.sz, hD.frame hA hr hun hg.ext hv, by rw [put_size]; exact hD.nt, by rw [put_defers]; exact hD.df, hD.ext.trans hg.ext, ?_, ?_, ?_, ?_, hg.hr.low, hg.hr.lt, hg.hr.glob, hg.hr.base, ?_, ?_, ?_, ?_, ?_⟩
  · -- blk
    intro b k hb
    by_cases ht : r.touch b
    · rw [hin b ht] at hb
      exact hg.hr.blk b k hb
    · rw [hout b ht] at hb
      obtain ⟨r1, κ1, o1, e1, e2, e3⟩ := hD.blk b k hb
      refine ⟨r1, κ1, o1, hg.ext _ _ e1, ?_, e3.ext hg.ext⟩
      rw [hg.keep.same r1 (hD.lt _ _ _ e1) (fun b' x κ hx hw' he => ?_)]
      · exact e2
      · obtain ⟨g1, g2⟩ := hsub hx
        have := hD.inj b' b x k r1 κ κ1 g1 hb he e1
        subst this
        exact ht (.inr (hbit b' g2 hw'))
  · -- inj
    have cross : ∀ b1 b2 k1 k2 rr κ1 κ2, r.touch b1 → ¬ r.touch b2 → s'.H.get b1 = some k1 → (foldH rs 0 (fun i => L.getD i false) s0.H).get b2 = some k2 → σ' b1 = some (rr, κ1) → σ' b2 = some (rr, κ2) → False := by
      intro b1 b2 k1 k2 rr κ1 κ2 ht1 ht2 h1 h2 e1 e2
      have e2' := hlive h2 e2
      cases hs : σ b1 with
      | some q =>
        have := hg.ext _ _ hs
        rw [this] at e1
        obtain rfl := Option.some.inj e1
        obtain ⟨k0, hk0⟩ := hg.old b1 k1 _ h1 hs
        have := hD.inj b1 b2 k0 k2 rr κ1 κ2 (hsub hk0).1 h2 hs e2'
        subst this
        exact ht2 ht1
      | none =>
        rcases (hg.nw b1 rr κ1 hs e1).2 with g | ⟨b0, k0, κ0, g1, g2, g3⟩
        · have := hD.lt _ _ _ e2'; omega
        · obtain ⟨q1, q2⟩ := hsub g1
          have := hD.inj b0 b2 k0 k2 rr κ0 κ2 q1 h2 g2 e2'
          subst this
          exact ht2 (.inr (hbit b0 q2 g3))
    intro b1 b2 k1 k2 rr κ1 κ2 h1 h2 e1 e2
    by_cases ht1 : r.touch b1
    · rw [hin b1 ht1] at h1
      by_cases ht2 : r.touch b2
      · rw [hin b2 ht2] at h2
        exact hg.hr.inj b1 b2 k1 k2 rr κ1 κ2 h1 h2 e1 e2
      · rw [hout b2 ht2] at h2
        exact (cross b1 b2 k1 k2 rr κ1 κ2 ht1 ht2 h1 h2 e1 e2).elim
    · rw [hout b1 ht1] at h1
      by_cases ht2 : r.touch b2
      · rw [hin b2 ht2] at h2
        exact (cross b2 b1 k2 k1 rr κ2 κ1 ht2 ht1 h2 h1 e2 e1).elim
      · rw [hout b2 ht2] at h2
        exact hD.inj b1 b2 k1 k2 rr κ1 κ2 h1 h2 (hlive h1 e1) (hlive h2 e2)
  · -- fr1
    intro i q hq hL b h1 h2
    rw [set_getD hjs] at hL
    split at hL
    · cases hL
    · rename_i hij
      have hn := hD.fr1 i q hq hL b h1 h2
      cases hs : σ' b with
      | none => rfl
      | some z =>
        obtain ⟨r1, κ1⟩ := z
        have hrng := (hg.nw b r1 κ1 hn hs).1
        have g1 : r.lo ≤ b := hrng.1
        have g2 : b < s'.nxt := hrng.2
        rw [← hhi] at g2
        rcases Nat.lt_or_gt_of_ne hij with h' | h'
        · have := hA.lt hq hr h'; omega
        · have := hA.lt hr hq h'; omega
  · -- fr2
    intro b h1 h2
    have hn := hD.fr2 b h1 h2
    cases hs : σ' b with
    | none => rfl
    | some z =>
      obtain ⟨r1, κ1⟩ := z
      have hrng := (hg.nw b r1 κ1 hn hs).1
      have g2 : b < s'.nxt := hrng.2
      rw [← hhi] at g2
      have := hfirst.2
      omega
  · -- wl
    intro i q hq hL b hb
    rw [set_getD hjs] at hL
    split at hL
    · rename_i e
      subst e
      rw [hr] at hq
      obtain rfl := Option.some.inj hq
      rw [hW, Nat.testBit_mod_two_pow] at hb
      simp only [Bool.and_eq_true] at hb
      exact hg.hr.wlow b hb.2
    · exact hD.wl i q hq hL b hb
  · -- keep
    refine ⟨hg.keep.os.trans hD.keep.os, hg.keep.tape.trans hD.keep.tape, hg.keep.output.trans hD.keep.output, Nat.le_trans hD.keep.size hg.keep.size, fun k hk hn => ?_⟩
    rw [← hD.keep.same k hk hn]
    refine hg.keep.same k (Nat.lt_of_lt_of_le hk hD.keep.size) (fun b x κ hx hw' he => ?_)
    obtain ⟨q1, q2⟩ := hsub hx
    have hwe : Wend.testBit b = true := hA.wend j r hr b (hbit b q2 hw')
    cases hs : σ0 b with
    | some q =>
      have := hD.ext _ _ hs
      rw [this] at he
      obtain rfl := Option.some.inj he
      obtain ⟨k0, hk0⟩ := hD.old b x _ q1 hs
      exact hn b k0 κ hk0 hwe hs
    | none =>
      rcases (hD.nw b k κ hs he).2 with g | ⟨b0, k0, κ0, g1, g2, g3⟩
      · omega
      · exact hn b0 k0 κ0 g1 g3 g2
  · -- old
    intro b k q hb hs
    by_cases ht : r.touch b
    · rw [hin b ht] at hb
      obtain ⟨k0, hk0⟩ := hg.old b k q hb (hD.ext _ _ hs)
      exact hD.old b k0 q (hsub hk0).1 hs
    · rw [hout b ht] at hb
      exact hD.old b k q hb hs
  · -- nw
    intro b rr κ hs he
    cases hs1 : σ b with
    | some q =>
      have := hg.ext _ _ hs1
      rw [this] at he
      obtain rfl := Option.some.inj he
      exact hD.nw b rr κ hs hs1
    | none =>
      obtain ⟨hrng, hh⟩ := hg.nw b rr κ hs1 he
      have g1 : r.lo ≤ b := hrng.1
      have g2 : b < s'.nxt := hrng.2
      rw [← hhi] at g2
      refine ⟨⟨by omega, by omega⟩, ?_⟩
      rcases hh with h1 | ⟨b0, k0, κ0, h1, h2, h3⟩
      · exact .inl (Nat.le_trans hD.keep.size h1)
      · obtain ⟨q1, q2⟩ := hsub h1
        have hwe : Wend.testBit b0 = true := hA.wend j r hr b0 (hbit b0 q2 h3)
        cases hs0 : σ0 b0 with
        | some q =>
          have := hD.ext _ _ hs0
          rw [this] at h2
          obtain rfl := Option.some.inj h2
          obtain ⟨k00, hk00⟩ := hD.old b0 k0 _ q1 hs0
          exact .inr ⟨b0, k00, κ0, hk00, hs0, hwe⟩
        | none => exact (hD.nw b0 rr κ0 hs0 h2).2
  · -- down
    intro i hi k hk hb
    rw [set_getD hjs] at hi ⊢
    split
    · rfl
    · split at hi
      · rename_i e; subst e; exact hpre k hk hb
      · exact hD.down i hi k hk hb
end
end Go.Ev
end
section
namespace Go.Ev
open Go
set_option linter.unusedVariables false
variable [Theta]
set_option linter.unusedSectionVars false
set_option linter.unusedSimpArgs false
section
variable {P : Program} {call : CallT} {nt : Nat} {ops : Array Oper} {bef : List Nat} {p : Px} {T0 : Tr AV} {s0 : St} {rs : List DR} {Wend : Nat} {σ0 σ : Env} {a0 a : Act} {w0 w : World} {L : Array Bool}
theorem DI.step (hcall : CallOK P p.n0 call) (hng : p.ng = P.globals.size) (hn0 : p.n0 ≤ s0.nxt) (hg0 : p.ng ≤ s0.nxt) (hA : DA P call nt ops bef p.n0 T0 s0 rs Wend) (hdom : ∀ b k, s0.H.get b = some k → b < s0.nxt) (hlim : lastHi rs s0.nxt ≤ p.lim) {Q : Exit → Act → World → Prop}
    (hD : DI p nt bef ops.size rs σ0 T0 s0 Wend a0 w0 L σ a w) {j : Nat} (hj : j ∈ Region.ready .any ops L) {K : Act → World → Prop} (hK : ∀ σ' a' w', DI p nt bef ops.size rs σ0 T0 s0 Wend a0 w0 (L.setIfInBounds j true) σ' a' w' → K a' w') : wpOp P ops Q j K a w := by
  obtain ⟨hun, o, ho, hedge⟩ := mem_ready.1 hj
  have hjn : j < ops.size := (Array.getElem?_eq_some_iff.1 ho).1
  have hjs : j < L.size := by rw [hD.sz]; exact hjn
  have hun : L.getD j false = false := by
    rw [Array.getD_eq_getD_getElem?, getElem?_pos L j hjs] at hun ⊢
    exact hun
  obtain ⟨r, ao, hr, hao, hst⟩ := hA.at_ j o ho
  have hpre := ready_bits hA hD ho hedge
  obtain ⟨hgd, hai, hd, hdn⟩ := compA_parts hao
  have hrd : r.d = o.dst := by rw [hst.d, ← hd]
  have hfirst := hA.first hr
  have hrel : Rel P { p with lim := r.hi } σ (baseT ⟨ao, bef.getD j 0, erOf ops bef j⟩ (rs.take j) T0) { H := baseH r.cls r.rb ⟨ao, bef.getD j 0, erOf ops bef j⟩ (rs.take j) s0.H, nxt := r.lo, W := 0 } a w := by
    have hsub : ∀ {b k}, (baseH r.cls r.rb ⟨ao, bef.getD j 0, erOf ops bef j⟩ (rs.take j) s0.H).get b = some k → (foldH rs 0 (fun i => L.getD i false) s0.H).get b = some k ∧ b < r.lo := fun {b k} h => base_sub hA hD hdom hr hun hpre rfl h
    refine ⟨baseT_sub hA hD hr hun hpre, ⟨fun b k hb => hD.blk b k (hsub hb).1, fun b b' k k' rr κ κ' hb hb' => hD.inj b b' k k' rr κ κ' (hsub hb).1 (hsub hb').1, fun b h1 h2 => hD.fr1 j r hr hun b h1 h2, hD.low, hD.lt, hD.glob, fun b hb => by simp at hb, hD.base, ?_, ?_, fun b k hb => (hsub hb).2⟩, hng, ?_, ?_⟩
    · exact Nat.le_trans hn0 hfirst.1
    · exact Nat.le_trans hg0 hfirst.1
    · exact Nat.le_trans hn0 hfirst.1
    · exact Nat.le_trans hg0 hfirst.1
  unfold wpOp
  rw [ho]
  rcases hst.run with ⟨hw, h1, h2, h3⟩ | ⟨hw, s', h1, h2, h3, h4⟩
  · have hwant := wants_sound hrel hgd hw
    simp only [hwant, Bool.false_eq_true, if_false]
    rw [← hrd]
    exact hK _ _ _ (hD.skip hA hr hun hpre h1 h2 h3)
  · have hwant := wants_sound hrel hgd hw
    simp only [hwant, if_true]
    refine .inl (op_sound (p := { p with lim := r.hi }) hcall hrel (comp_some hai h1) h1 (by show s'.nxt ≤ r.hi; omega) (fun x σ' w' hv hg => ?_))
    rw [← hrd]
    exact hK _ _ _ (hD.done hA hdom hlim hr hun hpre rfl h2 h3 h4 hv hg)
theorem DI.all (hcall : CallOK P p.n0 call) (hng : p.ng = P.globals.size) (hn0 : p.n0 ≤ s0.nxt) (hg0 : p.ng ≤ s0.nxt) (hA : DA P call nt ops bef p.n0 T0 s0 rs Wend) (hdom : ∀ b k, s0.H.get b = some k → b < s0.nxt) (hlim : lastHi rs s0.nxt ≤ p.lim) {Q : Exit → Act → World → Prop}
    (hQ : ∀ L σ a w, DI p nt bef ops.size rs σ0 T0 s0 Wend a0 w0 L σ a w → (∀ i, i < ops.size → L.getD i false = true) → Q .normal a w) :
    ∀ (fuel : Nat) (L : Array Bool) (σ : Env) (a : Act) (w : World), DI p nt bef ops.size rs σ0 T0 s0 Wend a0 w0 L σ a w → ((List.range ops.size).filter fun i => !L.getD i false).length ≤ fuel → wpAny P .any ops Q fuel L a w := by
  have full : ∀ L σ a w, DI p nt bef ops.size rs σ0 T0 s0 Wend a0 w0 L σ a w → Region.ready .any ops L = [] → ∀ i, i < ops.size → L.getD i false = true := by
    intro L σ a w hD hnil i
    induction i using Nat.strongRecOn with
    | _ i ih =>
      intro hi
      cases hL : L.getD i false with
      | true => rfl
      | false =>
        exfalso
        have : i ∈ Region.ready .any ops L := by
          rw [mem_ready]
          refine ⟨?_, ops[i], by simp [hi], fun e he hb => ?_⟩
          · rw [Array.getD_eq_getD_getElem?, getElem?_pos L i (by rw [hD.sz]; exact hi)] at hL ⊢
            exact hL
          · have hlt := hA.bp.edge i ops[i] (by simp [hi]) e he hb
            exact ih e.on hlt (by omega)
        rw [hnil] at this
        cases this
  intro fuel
  induction fuel with
  | zero =>
    intro L σ a w hD hle
    have hall : ∀ i, i < ops.size → L.getD i false = true := by
      intro i hi
      have : (List.range ops.size).filter (fun i => !L.getD i false) = [] := List.length_eq_zero_iff.1 (by omega)
      rw [List.filter_eq_nil_iff] at this
      have := this i (List.mem_range.2 hi)
      simpa using this
    refine ⟨?_, hQ L σ a w hD hall⟩
    cases hrd : Region.ready .any ops L with
    | nil => rfl
    | cons i l =>
      exfalso
      have hm : i ∈ Region.ready .any ops L := by rw [hrd]; exact List.mem_cons_self ..
      obtain ⟨hun, o, ho, _⟩ := mem_ready.1 hm
      have hi : i < ops.size := (Array.getElem?_eq_some_iff.1 ho).1
      have h1 := hall i hi
      rw [Array.getD_eq_getD_getElem?, getElem?_pos L i (by rw [hD.sz]; exact hi)] at h1 hun
      simp only [Option.getD_some] at h1 hun
      rw [h1] at hun; cases hun
  | succ fuel ih =>
    intro L σ a w hD hle
    refine ⟨fun hnil => hQ L σ a w hD (full L σ a w hD hnil), fun j hj => ?_⟩
    refine DI.step hcall hng hn0 hg0 hA hdom hlim hD hj (fun σ' a' w' hD' => ih _ σ' a' w' hD' ?_)
    obtain ⟨hun, o, ho, _⟩ := mem_ready.1 hj
    have hjn : j < ops.size := (Array.getElem?_eq_some_iff.1 ho).1
    have hjs : j < L.size := by rw [hD.sz]; exact hjn
    have hun : L.getD j false = false := by
      rw [Array.getD_eq_getD_getElem?, getElem?_pos L j hjs] at hun ⊢
      exact hun
    have := filt_lt (p := fun i => !L.getD i false) (p' := fun i => !(L.setIfInBounds j true).getD i false) (fun x hx => by
      rw [set_getD hjs] at hx
      by_cases hxj : x = j
      · rw [if_pos hxj] at hx; cases hx
      · rw [if_neg hxj] at hx; exact hx) (j := j) (by rw [hun]; rfl) (by rw [set_getD hjs, if_pos rfl]; rfl) (List.range ops.size) (List.mem_range.2 hjn)
    omega
theorem orW_spec : ∀ (l : List DR) (W b : Nat), (orW l W).testBit b = true ↔ (W.testBit b = true ∨ ∃ (i : Nat) (r : DR), l[i]? = some r ∧ r.W.testBit b = true)
  | [], W, b => by
    constructor
    · intro h; exact .inl h
    · rintro (h | ⟨i, r, h, _⟩)
      · exact h
      · simp at h
  | r :: l, W, b => by
    have e : orW (r :: l) W = orW l W ||| r.W := rfl
    rw [e, Nat.testBit_or, Bool.or_eq_true, orW_spec l W b]
    constructor
    · rintro ((h | ⟨i, q, h1, h2⟩) | h)
      · exact .inl h
      · exact .inr ⟨i + 1, q, by simpa using h1, h2⟩
      · exact .inr ⟨0, r, rfl, h⟩
    · rintro (h | ⟨i, q, h1, h2⟩)
      · exact .inl (.inl h)
      · cases i with
        | zero => simp at h1; subst h1; exact .inr h2
        | succ i => exact .inl (.inr ⟨i, q, by simpa using h1, h2⟩)
theorem lastHi_ge {l : List DR} {N : Nat} (h : ∀ (j : Nat), j ≤ l.length → N ≤ lastHi (l.take j) N) : N ≤ lastHi l N := by
  have := h l.length (Nat.le_refl _)
  rwa [List.take_length] at this
theorem draw_sound {id : Nat} (hm : P.follows .mixedOrders = true) (hcall : CallOK P p.n0 call) (hbef : befOK ops bef = true) (hdst : dstOK ops bef = true) {l : List AOp} (hc : compL P nt ops ops.toList = some l) {T : Tr AV} {s : St} {T' : Tr AV} {s' : St}
    (he : evDraw call p.n0 (compD P nt ops bef 0 l) T s = some (T', s')) (hL : s'.nxt ≤ p.lim) (h : Rel P p σ T s a w) (hnt : nt ≤ a.tmps.size) {Q : Exit → Act → World → Prop}
    (hk : ∀ σ' a' w', Rel P p σ' T' s' a' w' → nt ≤ a'.tmps.size → a'.defers = a.defers → Good p σ s w σ' s' w' → Q .normal a' w') : (Code.region id ops true).wp P Q a w := by
  unfold evDraw at he
  split at he
  · cases he
  · rename_i rs hrs
    obtain ⟨rfl, rfl⟩ := Prod.mk.inj (Option.some.inj he)
    obtain ⟨new, g1, g2, g3⟩ := evD_spec (P := P) hcall (N := s.nxt) _ [] s.nxt rs hrs rfl
    simp only [List.nil_append] at g1 g3
    subst g1
    obtain ⟨hlen, hget⟩ := compL_get _ _ hc
    rw [compD_length, hlen, Array.length_toList] at g2
    have hA : DA P call nt ops bef p.n0 T s rs (orW rs s.W) := by
      refine ⟨befOK_spec hbef, hdst, g2, fun j o ho => ?_, fun j r hr b hb => (orW_spec rs s.W b).2 (.inr ⟨j, r, hr, hb⟩)⟩
      obtain ⟨ao, h1, h2⟩ := hget j o (by simpa using ho)
      have h3 := compD_get P nt ops bef l 0 j ao h1
      rw [Nat.zero_add] at h3
      obtain ⟨r, q1, q2⟩ := g3 j _ h3
      exact ⟨r, ao, q1, h2, q2⟩
    refine wp_region_any hm ?_
    have hnil : ∀ i, (Array.replicate ops.size false).getD i false = false := by
      intro i
      rw [Array.getD_eq_getD_getElem?, Array.getElem?_replicate]
      split <;> rfl
    have hH0 : ∀ b, (foldH rs 0 (fun i => (Array.replicate ops.size false).getD i false) s.H).get b = s.H.get b := fun b => foldH_none rs 0 _ s.H (fun i r _ hs => by rw [hnil] at hs; cases hs) hA.le
    have hT0 : ∀ t, (foldT rs 0 (fun i => (Array.replicate ops.size false).getD i false) T).get t = T.get t := fun t => foldT_none rs 0 _ T (fun i r _ hs => by rw [hnil] at hs; cases hs)
    have hd := h.h.drew
    have start : DI p nt bef ops.size rs σ T s (orW rs s.W) a w (Array.replicate ops.size false) σ a { w with drawn := w.drawn + 1 } := by
      refine ⟨by simp, fun t v ht => h.t t v (by rw [← hT0]; exact ht), hnt, rfl, .refl _, fun b k hb => hd.blk b k (by rw [← hH0]; exact hb), fun b b' k k' r κ κ' hb hb' => hd.inj b b' k k' r κ κ' (by rw [← hH0]; exact hb) (by rw [← hH0]; exact hb'),
        fun i r hr _ b h1 h2 => ?_, fun b h1 h2 => ?_, hd.low, hd.lt, hd.glob, hd.base, (fun i r _ hs => by rw [hnil] at hs; cases hs), ⟨rfl, rfl, rfl, Nat.le_refl _, fun _ _ _ => rfl⟩, (fun b k q hb _ => ⟨k, by rw [← hH0]; exact hb⟩), (fun b r κ h1 h2 => nw_same h1 h2), (fun j hs => by rw [hnil] at hs; cases hs)⟩
      · have := hA.first hr
        refine h.h.fresh b (by omega) ?_
        have hL : lastHi rs s.nxt ≤ p.lim := hL
        omega
      · have hge : s.nxt ≤ lastHi rs s.nxt := lastHi_ge (fun j hj => (hA.mono j hj).2)
        exact h.h.fresh b (by omega) h2
    refine DI.all hcall h.ng h.n0 h.g0 hA h.h.dom hL (fun L σ' a' w' hD hall => ?_) ops.size _ σ a _ start (Nat.le_trans (List.length_filter_le _ _) (by simp))
    have hsameH : ∀ b, (foldH rs 0 (fun i => L.getD i false) s.H).get b = (foldH rs 0 (fun _ => true) s.H).get b := fun b => foldH_congr rs 0 _ _ _ _ (fun i r hr _ => by
      simp only [Nat.zero_add]
      refine hall i ?_
      rcases Nat.lt_or_ge i rs.length with h' | h'
      · have := hA.len; omega
      · rw [List.getElem?_eq_none h'] at hr; cases hr) hA.le rfl
    have hsameT : ∀ t, (foldT rs 0 (fun i => L.getD i false) T).get t = (foldT rs 0 (fun _ => true) T).get t := fun t => foldT_congr rs 0 _ _ _ _ (fun i r hr _ => by
      simp only [Nat.zero_add]
      refine hall i ?_
      rcases Nat.lt_or_ge i rs.length with h' | h'
      · have := hA.len; omega
      · rw [List.getElem?_eq_none h'] at hr; cases hr) rfl
    have hge : s.nxt ≤ lastHi rs s.nxt := lastHi_ge (fun j hj => (hA.mono j hj).2)
    have hR : HR p σ' { H := foldH rs 0 (fun _ => true) s.H, nxt := lastHi rs s.nxt, W := orW rs s.W } w' := by
      refine ⟨fun b k hb => hD.blk b k (by rw [hsameH]; exact hb), fun b b' k k' r κ κ' hb hb' => hD.inj b b' k k' r κ κ' (by rw [hsameH]; exact hb) (by rw [hsameH]; exact hb'), hD.fr2, hD.low, hD.lt, hD.glob, fun b hb => ?_, hD.base, Nat.le_trans h.n0 hge, Nat.le_trans h.g0 hge, fun b k hb => ?_⟩
      · rcases (orW_spec rs s.W b).1 hb with hb | ⟨i, r, hr, hb⟩
        · exact h.h.wlow b hb
        · have hi : i < ops.size := by
            rcases Nat.lt_or_ge i rs.length with h' | h'
            · have := hA.len; omega
            · rw [List.getElem?_eq_none h'] at hr; cases hr
          exact hD.wl i r hr (hall i hi) b hb
      · rcases foldH_origin rs 0 _ s.H hA.le hb with ⟨i, r, hr, _, ht⟩ | hb
        · have := hA.first hr
          obtain ⟨_, _, _, _, s1⟩ := hA.step hr
          have := s1.le
          show b < lastHi rs s.nxt
          rcases ht with ⟨_, ht⟩ | ht
          · omega
          · have := s1.wl b ht; omega
        · exact Nat.lt_of_lt_of_le (h.h.dom b k hb) hge
    refine hk σ' a' w' ⟨fun t v ht => hD.t t v (by rw [hsameT]; exact ht), hR, h.ng, hR.n0, hR.g0⟩ hD.nt hD.df ?_
    exact ⟨hD.ext, hR, hD.keep, fun b hb => (orW_spec rs s.W b).2 (.inl hb), fun b k q hb hq => hD.old b k q (by rw [hsameH]; exact hb) hq, hD.nw, hge⟩
end
end Go.Ev
end
