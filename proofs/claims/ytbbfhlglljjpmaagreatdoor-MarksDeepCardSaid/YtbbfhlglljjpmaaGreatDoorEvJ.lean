import Derived.Test.YtbbfhlglljjpmaaGreatDoorEvI
import Derived.Laws.Tables
namespace Go.Ev
open Go
set_option linter.unusedVariables false
variable [Theta]
set_option linter.unusedSectionVars false
set_option linter.unusedSimpArgs false
section
variable {P : Program} {p : Px} {σ : Env} {s : St} {w : World} {T : Tr AV} {a : Act}

theorem cellsOk_leaf (σ : Env) (c : Array Value) : cellsOk σ .leaf c := fun j a h => by rw [Tr.get_leaf] at h; cases h

/-- Cells laid from the start of a row. -/
theorem cellsOk_lay {l : AVs} {xs : List Value} (h : VRs σ l xs) : cellsOk σ (stC l 0 .leaf) xs.toArray := by
  have key : ∀ (l : AVs) (xs : List Value) (off : Nat) (t : Tr AV) (c : List Value), VRs σ l xs → cellsOk σ t c.toArray → c.length = off → cellsOk σ (stC l off t) (c ++ xs).toArray := by
    intro l
    induction l using AVs.rec (motive_1 := fun _ => True) with
    | nil => intro xs off t c h k _; simp only [VRs] at h; subst h; simpa [stC_nil] using k
    | cons a l _ ih =>
      intro xs off t c h k hc
      simp only [VRs] at h
      obtain ⟨y, ys, rfl, hy, h⟩ := h
      rw [stC_cons, show c ++ y :: ys = (c ++ [y]) ++ ys from by simp]
      refine ih ys (off + 1) _ _ h ?_ (by simp [hc])
      intro j a' e
      rw [Tr.get_set] at e
      by_cases hj : j = off
      · subst hj
        rw [if_pos rfl] at e
        obtain rfl := Option.some.inj e
        exact ⟨y, by simp [hc], hy⟩
      · rw [if_neg hj] at e
        obtain ⟨x, hx, hv⟩ := k _ _ e
        refine ⟨x, ?_, hv⟩
        simp only [List.getElem?_toArray] at hx ⊢
        rw [List.getElem?_append_left]
        · exact hx
        · rcases Nat.lt_or_ge j c.length with h' | h'
          · exact h'
          · rw [List.getElem?_eq_none h'] at hx; cases hx
    | _ => trivial
  simpa using key l xs 0 .leaf [] h (cellsOk_leaf _ _) rfl

theorem HR.newRow (h : Rel P p σ T s a w) (hlim : s.nxt < p.lim) (e esz κ : Nat) {cells : Tr AV} {c : Array Value} {used : Nat} {ex : Bool} (hc : ∀ σ', σ.Ext σ' → cellsOk σ' cells c) (hu : used ≤ c.size) (h1 : ex = true → c.size = used) (h2 : ex = false → c.size = κ * esz) (hd : ex = false → ∀ j a, cells.get j = some a → j < used) :
    ∃ σ', σ' s.nxt = some (w.heap.size, κ) ∧ σ.Ext σ' ∧ Good p σ s w σ' (evNew e esz cells used ex 0 s) (w.alloc (.cells c e)) := by
  have g := h.h.new h.n0 h.g0 hlim κ (.row e esz cells used ex 0) (.cells c e) (by
    have hext : σ.Ext (σ.put s.nxt (w.heap.size, κ)) := by
      intro b q hb
      unfold Env.put
      by_cases hbn : b = s.nxt
      · subst hbn; rw [h.h.fresh _ (Nat.le_refl _) hlim] at hb; cases hb
      · rw [if_neg hbn]; exact hb
    refine ⟨c, 0, 0, rfl, hc _ hext, hu, h1, h2, (fun _ j _ => by omega), (fun _ j => by omega), fun j a' hj => ?_⟩
    cases ex with
    | false => exact hd rfl j a' hj
    | true =>
      obtain ⟨x, hx, _⟩ := hc _ hext j a' hj
      rw [← h1 rfl]
      rcases Nat.lt_or_ge j c.size with h' | h'
      · exact h'
      · rw [Array.getElem?_eq_none h'] at hx; cases hx)
  refine ⟨_, ?_, g.ext, g⟩
  unfold Env.put; rw [if_pos rfl]

theorem zOf_sound {t : TypeId} {z : AVs} (h : zOf P t = some z) : ∃ i v, P.info? t = some i ∧ i.zero = some v ∧ z.len = i.size ∧ (∀ σ, VRs σ z v.cells.toList) ∧ v.cells.size = i.size := by
  unfold zOf at h
  split at h
  · rename_i i hi
    split at h
    · rename_i v hv
      split at h
      · rename_i a ha
        split at h
        · rename_i hl
          obtain rfl := Option.some.inj h
          have hc : ∀ σ, VRs σ (cellsOf a) v.cells.toList := fun σ => VR_cells (cv_sound _ _ _ ha σ)
          refine ⟨i, v, hi, hv, hl, hc, ?_⟩
          rw [← hl, (hc (fun _ => none)).len, Array.length_toList]
        · cases h
      · cases h
    · cases h
  · cases h

theorem snd_box (h : Rel P p σ T s a w) {o : Oper} {t : TypeId} {x : Operand} (ho : o.op = .box t x) {ai : AI} (hc : compOp P o = some ai) {v : AV} {s' : St} (he : evAI p.n0 ai T s = some (v, s')) (hL : s'.nxt ≤ p.lim) : Sound P p σ s w o a v s' := by
  unfold compOp at hc; rw [ho] at hc
  obtain ⟨x', h1, rfl⟩ := Option.map_eq_some_iff.1 hc
  simp only [evAI] at he
  split at he
  · cases he
  · rename_i X hX
    obtain ⟨rfl, rfl⟩ := Prod.mk.inj (Option.some.inj he)
    have hx := VR_cells (oo_sound h h1 hX)
    have hl := hx.len
    obtain ⟨σ', g1, g2, g3⟩ := HR.newRow h hL t 0 0 (c := (a.eval x).cells) (cells := stC (cellsOf X) 0 .leaf) (used := (cellsOf X).len) (ex := true)
      (fun σ' he => by have := cellsOk_lay (hx.ext he); simpa using this) (by rw [hl]; simp) (fun _ => by rw [hl]; simp) (fun e => by cases e) (fun e => by cases e)
    refine ⟨.pointer (some ⟨w.heap.size, 0, none⟩), σ', _, .inl ?_, by simp only [VR]; exact ⟨_, _, g1, rfl⟩, g3⟩
    simp [execOp, ho, Instr.box, newVar, newRow, newObj, Sem.run]

theorem snd_alloc (h : Rel P p σ T s a w) {o : Oper} {t : TypeId} (ho : o.op = .alloc t) {ai : AI} (hc : compOp P o = some ai) {v : AV} {s' : St} (he : evAI p.n0 ai T s = some (v, s')) (hL : s'.nxt ≤ p.lim) : Sound P p σ s w o a v s' := by
  unfold compOp at hc; rw [ho] at hc
  obtain ⟨z, h1, rfl⟩ := Option.map_eq_some_iff.1 hc
  obtain ⟨i, zv, q1, q2, q3, q4, q5⟩ := zOf_sound h1
  simp only [evAI] at he
  obtain ⟨rfl, rfl⟩ := Prod.mk.inj (Option.some.inj he)
  obtain ⟨σ', g1, g2, g3⟩ := HR.newRow h hL t 0 0 (c := zv.cells) (cells := stC z 0 .leaf) (used := z.len) (ex := true)
    (fun σ' he => by have := cellsOk_lay (q4 σ'); simpa using this) (by rw [q3, q5]; exact Nat.le_refl _) (fun _ => by rw [q3, q5]) (fun e => by cases e) (fun e => by cases e)
  refine ⟨.pointer (some ⟨w.heap.size, 0, none⟩), σ', _, .inl ?_, by simp only [VR]; exact ⟨_, _, g1, rfl⟩, g3⟩
  simp [execOp, ho, Instr.alloc, zeroValue, typeInfo, program, q1, q2, newVar, newRow, newObj, Sem.run]

/-! Aggregates -/
theorem putA_len : ∀ (z : AVs) (k : Nat) (l : AVs), (putA z k l).len = z.len
  | z, _, .nil => by cases z <;> simp [putA]
  | .nil, _, .cons _ _ => by simp [putA]
  | .cons z zs, k + 1, .cons b l => by simp [putA, AVs.len, putA_len zs k (.cons b l)]
  | .cons z zs, 0, .cons b l => by simp [putA, AVs.len, putA_len zs 0 l]

theorem foldl_put (off : Nat) : ∀ (l : List Value) (j : Nat) (cs : Array Value), (l.zipIdx j).foldl (fun cs q => cs.setIfInBounds (off + q.2) q.1) cs = ovl cs (off + j) l
  | [], _, _ => rfl
  | v :: l, j, cs => by
    simp only [List.zipIdx_cons, List.foldl_cons, ovl]
    rw [foldl_put off l (j + 1)]
    rfl
theorem ovl_cons_succ (v : Value) : ∀ (l : List Value) (k : Nat) (c : List Value), ovl (v :: c).toArray (k + 1) l = (v :: (ovl c.toArray k l).toList).toArray
  | [], k, c => by simp [ovl]
  | x :: l, k, c => by
    have e : (v :: c).toArray.setIfInBounds (k + 1) x = (v :: (c.set k x)).toArray := by simp
    have e2 : c.toArray.setIfInBounds k x = (c.set k x).toArray := by simp
    rw [ovl, ovl, e, e2, ovl_cons_succ v l (k + 1)]
theorem putA_sound : ∀ (z : AVs) (k : Nat) (l : AVs) (zs xs : List Value), VRs σ z zs → VRs σ l xs → VRs σ (putA z k l) (ovl zs.toArray k xs).toList
  | z, k, .nil, zs, xs, hz, hl => by
    simp only [VRs] at hl; subst hl
    have : putA z k .nil = z := by cases z <;> simp [putA]
    rw [this]; simpa [ovl] using hz
  | .nil, k, .cons b l, zs, xs, hz, hl => by
    simp only [VRs] at hz; subst hz
    have e : ∀ (xs : List Value) k, ovl (#[] : Array Value) k xs = #[] := by
      intro xs
      induction xs with
      | nil => intro k; rfl
      | cons x xs ih => intro k; simpa [ovl] using ih (k + 1)
    simp [putA, e, VRs]
  | .cons z zs', k + 1, .cons b l, zs, xs, hz, hl => by
    simp only [VRs] at hz
    obtain ⟨y, ys, rfl, h1, h2⟩ := hz
    have := putA_sound zs' k (.cons b l) ys xs h2 hl
    rw [ovl_cons_succ]
    simp only [putA, VRs]
    exact ⟨y, _, rfl, h1, this⟩
  | .cons z zs', 0, .cons b l, zs, xs, hz, hl => by
    simp only [VRs] at hz hl
    obtain ⟨y, ys, rfl, h1, h2⟩ := hz
    obtain ⟨x, xs', rfl, h3, h4⟩ := hl
    have := putA_sound zs' 0 l ys xs' h2 h4
    have e : ovl (y :: ys).toArray 0 (x :: xs') = ovl (x :: ys).toArray 1 xs' := by simp [ovl]
    rw [e, ovl_cons_succ]
    simp only [putA, VRs]
    exact ⟨x, _, rfl, h3, this⟩

/-- 'build': what 'fill' makes of the parts. -/
theorem fill_sound (h : Rel P p σ T s a w) (place : Nat → Option (Nat × Nat)) (prt : List (Nat × Operand) → Option (List (Nat × Nat × O)))
    (hp0 : prt [] = some []) (hps : ∀ i x r l, prt ((i, x) :: r) = some l → ∃ off n o l', l = (off, n, o) :: l' ∧ place i = some (off, n) ∧ oo P x = some o ∧ prt r = some l') :
    ∀ (q : List (Nat × Operand)) (l : List (Nat × Nat × O)) (z z' : AVs) (c : Array Value), prt q = some l → VRs σ z c.toList → bldP T l z = some z' →
      ∃ c', Instr.fill place c (q.map fun (i, x) => (i, a.eval x)) = some c' ∧ VRs σ z' c'.toList
  | [], l, z, z', c, hl, hz, hb => by
    rw [hp0] at hl
    obtain rfl := Option.some.inj hl
    obtain rfl := Option.some.inj hb
    exact ⟨c, rfl, hz⟩
  | (i, x) :: q, l, z, z', c, hl, hz, hb => by
    obtain ⟨off, n, o, l', rfl, h1, h2, h3⟩ := hps i x q l hl
    have hb' : (match evO T o with
      | none => none
      | some v => match Nat.beq (cellsOf v).len n with
        | true => match Nat.ble (off + n) z.len with
          | true => bldP T l' (putA z off (cellsOf v))
          | false => none
        | false => none) = some z' := hb
    split at hb'
    · cases hb'
    · rename_i v hv
      split at hb'
      · rename_i hn
        split at hb'
        · rename_i hle
          have hx := VR_cells (oo_sound h h2 hv)
          have hlen := hx.len
          rw [Array.length_toList] at hlen
          have hn := Nat.eq_of_beq_eq_true hn
          have hle := Nat.le_of_ble_eq_true hle
          have hzl := hz.len
          rw [Array.length_toList] at hzl
          have hput := putA_sound z off (cellsOf v) c.toList (a.eval x).cells.toList hz hx
          have hfold : Array.foldl (fun cs (q : Value × Nat) => cs.setIfInBounds (off + q.2) q.1) c (a.eval x).cells.zipIdx = ovl c off (a.eval x).cells.toList := by
            rw [← Array.foldl_toList, Array.toList_zipIdx]
            exact foldl_put off _ 0 c
          obtain ⟨c', g1, g2⟩ := fill_sound h place prt hp0 hps q l' _ z' (ovl c off (a.eval x).cells.toList) h3 (by simpa using hput) hb'
          refine ⟨c', ?_, g2⟩
          simp only [List.map_cons, Instr.fill, h1]
          rw [if_neg (by simp; omega)]
          rw [← g1]
          congr 1
        · cases hb'
      · cases hb'

theorem prtS_step {fs : Array Field} (i : Nat) (x : Operand) (r : List (Nat × Operand)) (l : List (Nat × Nat × O)) (h : prtS P fs ((i, x) :: r) = some l) :
    ∃ f n o l', l = (f.offset, n, o) :: l' ∧ fs[i]? = some f ∧ szOf P f.type = some n ∧ oo P x = some o ∧ prtS P fs r = some l' := by
  simp only [prtS] at h
  split at h
  · cases h
  · rename_i f hf
    split at h
    · cases h
    · rename_i n hn
      split at h
      · cases h
      · rename_i o ho
        split at h
        · cases h
        · rename_i l' hl'
          exact ⟨f, n, o, l', (Option.some.inj h).symm, hf, hn, ho, hl'⟩
theorem prtA_step {esz : Nat} (i : Nat) (x : Operand) (r : List (Nat × Operand)) (l : List (Nat × Nat × O)) (h : prtA P esz ((i, x) :: r) = some l) :
    ∃ o l', l = (i * esz, esz, o) :: l' ∧ oo P x = some o ∧ prtA P esz r = some l' := by
  simp only [prtA] at h
  split at h
  · cases h
  · rename_i o ho
    split at h
    · cases h
    · rename_i l' hl'
      exact ⟨o, l', (Option.some.inj h).symm, ho, hl'⟩

theorem places_of {fs : List Field} (hall : fs.all (fun f => (szOf P f.type).isSome) = true) :
    ∃ pl : List (Nat × Nat), fs.mapM (fun f => (P.info? f.type).map fun i => (f.offset, i.size)) = some pl ∧ ∀ (i : Nat) (f : Field) n, fs[i]? = some f → szOf P f.type = some n → pl[i]? = some (f.offset, n) := by
  induction fs with
  | nil => exact ⟨[], rfl, by simp⟩
  | cons f fs ih =>
    simp only [List.all_cons, Bool.and_eq_true] at hall
    obtain ⟨pl, h1, h2⟩ := ih hall.2
    obtain ⟨n, hn⟩ := Option.isSome_iff_exists.1 hall.1
    obtain ⟨i, hi, hi2⟩ := szOf_eq hn
    refine ⟨(f.offset, i.size) :: pl, by simp [List.mapM_cons, hi, h1], ?_⟩
    intro j g m hg hm
    cases j with
    | zero =>
      simp at hg; subst hg
      obtain ⟨i', hi', hi2'⟩ := szOf_eq hm
      rw [hi] at hi'
      obtain rfl := Option.some.inj hi'
      simp [hi2']
    | succ j => simp at hg ⊢; exact h2 j g m hg hm

theorem snd_build (h : Rel P p σ T s a w) {o : Oper} {t : TypeId} {parts : Array (Nat × Operand)} (ho : o.op = .build t parts) {ai : AI} (hc : compOp P o = some ai) {v : AV} {s' : St} (he : evAI p.n0 ai T s = some (v, s')) : Sound P p σ s w o a v s' := by
  unfold compOp at hc; rw [ho] at hc
  dsimp only at hc
  split at hc
  · rename_i fs z h1 h2
    split at hc
    · rename_i hall
      obtain ⟨l, hl, rfl⟩ := Option.map_eq_some_iff.1 hc
      obtain ⟨i, zv, q1, q2, q3, q4, q5⟩ := zOf_sound h2
      simp only [evAI] at he
      split at he
      · rename_i z' hz'
        obtain ⟨rfl, rfl⟩ := Prod.mk.inj (Option.some.inj he)
        obtain ⟨pl, p1, p2⟩ := places_of (P := P) (fs := fs.toList) (by simpa using hall)
        obtain ⟨c', f1, f2⟩ := fill_sound h (fun x => pl.toArray[x]?) (prtS P fs) rfl (fun i x r l hh => by
            obtain ⟨f, n, o', l', e1, e2, e3, e4, e5⟩ := prtS_step i x r l hh
            exact ⟨f.offset, n, o', l', e1, by simpa using p2 i f n (by simpa using e2) e3, e4, e5⟩) parts.toList l z z' zv.cells hl (q4 σ) hz'
        refine .same h (x := .agg c') ?_ (by simp only [VR]; exact ⟨c', rfl, f2⟩)
        have hb : P.built t (parts.map fun (i, x) => (i, a.eval x)).toList = some c' := by
          simp only [Program.built, q1, h1, q2, p1]
          rw [← f1]
          congr 1
          simp
        simp only [execOp, ho]
        exact run_val (run_build w t _ c' hb)
      · cases he
    · cases hc
  · rename_i n e z h1 h2
    split at hc
    · rename_i m hm
      obtain ⟨l, hl, rfl⟩ := Option.map_eq_some_iff.1 hc
      obtain ⟨i, zv, q1, q2, q3, q4, q5⟩ := zOf_sound h2
      obtain ⟨ie, r1, r2⟩ := szOf_eq hm
      simp only [evAI] at he
      split at he
      · rename_i z' hz'
        obtain ⟨rfl, rfl⟩ := Prod.mk.inj (Option.some.inj he)
        obtain ⟨c', f1, f2⟩ := fill_sound h (fun i => some (i * m, m)) (prtA P m) rfl (fun i x r l hh => by
            obtain ⟨o', l', e1, e2, e3⟩ := prtA_step i x r l hh
            exact ⟨i * m, m, o', l', e1, rfl, e2, e3⟩) parts.toList l z z' zv.cells hl (q4 σ) hz'
        refine .same h (x := .agg c') ?_ (by simp only [VR]; exact ⟨c', rfl, f2⟩)
        have hb : P.built t (parts.map fun (i, x) => (i, a.eval x)).toList = some c' := by
          simp only [Program.built, q1, h1, q2, r1, r2]
          rw [← f1]
          congr 1
          simp
        simp only [execOp, ho]
        exact run_val (run_build w t _ c' hb)
      · cases he
    · cases hc
  · cases hc

/-! A slice's literal -/
theorem cellsOk_stC' {l : AVs} {xs : List Value} {off : Nat} {t : Tr AV} {c : Array Value} (h : VRs σ l xs) (k : cellsOk σ t c) (hs : off + xs.length ≤ c.size) : cellsOk σ (stC l off t) (ovl c off xs) := cellsOk_stC l xs off t c h k hs

theorem fillL_sound (h : Rel P p σ T s a w) (esz m : Nat) :
    ∀ (q : List (Nat × Operand)) (l : List (Nat × Nat × O)) (t t' : Tr AV) (c : Array Value), prtA P esz q = some l → cellsOk σ t c → c.size = m → bslP T m l t = some t' →
      ∃ c', Instr.fill (fun i => some (i * esz, esz)) c (q.map fun (i, x) => (i, a.eval x)) = some c' ∧ cellsOk σ t' c' ∧ c'.size = m
  | [], l, t, t', c, hl, hz, hm, hb => by
    obtain rfl := Option.some.inj hl
    obtain rfl := Option.some.inj hb
    exact ⟨c, rfl, hz, hm⟩
  | (i, x) :: q, l, t, t', c, hl, hz, hm, hb => by
    obtain ⟨o, l', rfl, h2, h3⟩ := prtA_step i x q l hl
    have hb' : (match evO T o with
      | none => none
      | some v => match Nat.beq (cellsOf v).len esz with
        | true => match Nat.ble (i * esz + esz) m with
          | true => bslP T m l' (stC (cellsOf v) (i * esz) t)
          | false => none
        | false => none) = some t' := hb
    split at hb'
    · cases hb'
    · rename_i v hv
      split at hb'
      · rename_i hn
        split at hb'
        · rename_i hle
          have hx := VR_cells (oo_sound h h2 hv)
          have hlen := hx.len
          rw [Array.length_toList] at hlen
          have hn := Nat.eq_of_beq_eq_true hn
          have hle := Nat.le_of_ble_eq_true hle
          have hput := cellsOk_stC' (off := i * esz) hx hz (by rw [Array.length_toList]; omega)
          have hfold : Array.foldl (fun cs (q : Value × Nat) => cs.setIfInBounds (i * esz + q.2) q.1) c (a.eval x).cells.zipIdx = ovl c (i * esz) (a.eval x).cells.toList := by
            rw [← Array.foldl_toList, Array.toList_zipIdx]
            exact foldl_put (i * esz) _ 0 c
          obtain ⟨c', g1, g2, g3⟩ := fillL_sound h esz m q l' _ t' (ovl c (i * esz) (a.eval x).cells.toList) h3 hput (by rw [size_ovl]; exact hm) hb'
          refine ⟨c', ?_, g2, g3⟩
          simp only [List.map_cons, Instr.fill]
          rw [if_neg (by simp; omega)]
          rw [← g1]
          congr 1
        · cases hb'
      · cases hb'

/-- Zeros, again and again. -/
theorem fillZ_sound {z : AVs} {zs : List Value} (hz : VRs σ z zs) {zl : Nat} (hzl : zs.length = zl) : ∀ (n off : Nat) (t : Tr AV) (c : Array Value), cellsOk σ t c → (∀ j, j < n * zl → c[off + j]? = zs[j % zl]?) → cellsOk σ (fillZ z zl n off t) c
  | 0, off, t, c, h, _ => h
  | n + 1, off, t, c, h, hc => by
    have e : fillZ z zl (n + 1) off t = fillZ z zl n (off + zl) (stC z off t) := rfl
    rw [e]
    refine fillZ_sound hz hzl n (off + zl) _ c ?_ ?_
    · have key : ∀ (l : AVs) (xs : List Value) (k : Nat) (t : Tr AV), VRs σ l xs → cellsOk σ t c → (∀ j x, xs[j]? = some x → c[k + j]? = some x) → cellsOk σ (stC l k t) c := by
        intro l
        induction l using AVs.rec (motive_1 := fun _ => True) with
        | nil => intro xs k t _ ht _; exact ht
        | cons a l _ ih =>
          intro xs k t hx ht hj
          simp only [VRs] at hx
          obtain ⟨y, ys, rfl, hy, hx⟩ := hx
          rw [stC_cons]
          refine ih ys (k + 1) _ hx ?_ (fun j x hj' => by rw [show k + 1 + j = k + (j + 1) from by omega]; exact hj (j + 1) x (by simpa using hj'))
          intro j b hb
          rw [Tr.get_set] at hb
          by_cases hjk : j = k
          · subst hjk
            rw [if_pos rfl] at hb
            obtain rfl := Option.some.inj hb
            exact ⟨y, by simpa using hj 0 y rfl, hy⟩
          · rw [if_neg hjk] at hb
            exact ht j b hb
        | _ => trivial
      refine key z zs off t hz h (fun j x hj => ?_)
      have hjl : j < zl := by
        rcases Nat.lt_or_ge j zs.length with h' | h'
        · omega
        · rw [List.getElem?_eq_none h'] at hj; cases hj
      rw [hc j (by rw [Nat.add_mul]; omega), Nat.mod_eq_of_lt hjl, hj]
    · intro j hj
      rw [Nat.add_assoc, hc (zl + j) (by rw [Nat.add_mul]; omega), Nat.add_mod_left]

theorem snd_bsl (h : Rel P p σ T s a w) {o : Oper} {t : TypeId} {len : Nat} {parts : Array (Nat × Operand)} (ho : o.op = .buildSlice t len parts) {ai : AI} (hc : compOp P o = some ai) {v : AV} {s' : St} (he : evAI p.n0 ai T s = some (v, s')) (hL : s'.nxt ≤ p.lim) : Sound P p σ s w o a v s' := by
  unfold compOp at hc; rw [ho] at hc
  dsimp only at hc
  split at hc
  · rename_i e h1
    split at hc
    · rename_i n z h2 h3
      split at hc
      · rename_i hlim
        obtain ⟨l, hl, rfl⟩ := Option.map_eq_some_iff.1 hc
        obtain ⟨i, zv, q1, q2, q3, q4, q5⟩ := zOf_sound h3
        obtain ⟨i', r1, r2⟩ := szOf_eq h2
        rw [q1] at r1
        obtain rfl := Option.some.inj r1
        simp only [evAI] at he
        split at he
        · rename_i hzn
          split at he
          · rename_i tr htr
            obtain ⟨rfl, rfl⟩ := Prod.mk.inj (Option.some.inj he)
            have hzl : zv.cells.toList.length = n := by simp [q5, r2]
            have hstart : cellsOk σ (match Nat.beq l.length len with | true => .leaf | false => fillZ z n len 0 .leaf) ((Array.range (len * n)).map (zv.cells[· % zv.cells.size]!)) := by
              split
              · exact cellsOk_leaf _ _
              · refine fillZ_sound (q4 σ) hzl len 0 _ _ (cellsOk_leaf _ _) (fun j hj => ?_)
                have hn0 : 0 < n := by
                  rcases Nat.eq_zero_or_pos n with h0 | h0
                  · rw [h0] at hj; simp at hj
                  · exact h0
                have hjm : j % n < zv.cells.size := by rw [q5, r2]; exact Nat.mod_lt _ hn0
                simp only [Nat.zero_add, Array.getElem?_map, Array.getElem?_range, hj, if_true, Option.map_some, q5, r2]
                rw [Array.getElem?_toList, getElem?_pos zv.cells (j % n) hjm, getElem!_pos zv.cells (j % n) hjm]
            obtain ⟨c', f1, f2, f3⟩ := fillL_sound h n (len * n) parts.toList l _ tr _ hl hstart (by simp) htr
            obtain ⟨σ', g1, g2, g3⟩ := HR.newRow h hL e n 0 (c := c') (cells := tr) (used := len * n) (ex := true) (fun σ' he => f2.ext he) (by rw [f3]; exact Nat.le_refl _) (fun _ => f3) (fun e => by cases e) (fun e => by cases e)
            refine ⟨.slice (some ⟨w.heap.size, 0, none⟩) len len, σ', _, .inl ?_, by simp only [VR]; exact ⟨_, _, g1, rfl⟩, g3⟩
            have hlim' : ¬ (16777216 < len * n) := by omega
            have f1' : Instr.fill (fun i => some (i * n, n)) ((Array.range (len * n)).map (zv.cells[· % zv.cells.size]!)) (parts.map fun (i, x) => (i, a.eval x)).toList = some c' := by
              rw [← f1]; congr 1; simp
            simp only [execOp, ho]
            refine run_val ?_
            by_cases h0 : len * n = 0
            · have f1'' : Instr.fill (fun i => some (i * n, n)) ((Array.range (len * n)).map ((#[] : Array Value)[· % 0]!)) (parts.map fun (i, x) => (i, a.eval x)).toList = some c' := by
                rw [← f1']; congr 1; simp [h0]
              simp [Instr.buildSlice, run_underlying h1, sizeOf, typeInfo, q1, r2, h0]
              simp [h0] at f1''
              simp [f1'', newRow, newObj, Sem.run]
            · simp [Instr.buildSlice, run_underlying h1, sizeOf, typeInfo, q1, q2, r2, h0, hlim', zeroValue]
              simp at f1'
              simp [f1', newRow, newObj, Sem.run]
          · cases he
        · cases he
      · cases hc
    · cases hc
  · cases hc
end
end Go.Ev
