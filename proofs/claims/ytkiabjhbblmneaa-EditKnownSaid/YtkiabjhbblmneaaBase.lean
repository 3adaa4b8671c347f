import Derived.WalkKit
import Derived.WalkSpells
import Derived.WalkLawsBesides
import Derived.Below
import Derived.KernelRfl
import Derived.Lib.Hide
import Derived.Lib.ConvBytes
import Derived.Laws.BytesArg
import Derived.IntWalk
namespace Go.Kb
open Go.RowKit

/-- A slice value's cells, read. -/
structure RV (w : World) (size : Nat) (A : Option Addr) (n c : Nat) (xs : List Value) : Prop where
  len : xs.length = n * size
  cap : n ≤ c
  nil : A = none → n = 0 ∧ c = 0
  cell : ∀ ad, A = some ad → ∀ j u, xs[j]? = some u → w.cell? (ad.add j) = some u
  one : ∀ u ∈ xs, u.oneCell' = true

theorem add_block (ad : Addr) (j : Nat) : (ad.add j).block = ad.block := by unfold Addr.add; split <;> rfl

theorem RV.grown {w w1 : World} {size : Nat} {A : Option Addr} {n c : Nat} {xs : List Value} (h : RV w size A n c xs) {row : Option Nat}
    (hg : w.grownBy w1 row) (hne : ∀ ad, A = some ad → some ad.block ≠ row) : RV w1 size A n c xs :=
  ⟨h.len, h.cap, h.nil, fun ad e j u hu => hg.cell (h.cell ad e j u hu) (by rw [add_block]; exact hne ad e), h.one⟩

theorem RV.below {w w1 : World} {size : Nat} {A : Option Addr} {n c : Nat} {xs : List Value} (h : RV w size A n c xs)
    (hb : Below w.heap.size w w1) : RV w1 size A n c xs :=
  h.grown (row := none) ⟨hb.os, hb.tape, hb.output, hb.size, fun i hi _ => hb.block i hi⟩ (fun _ _ => by simp)

/-- What lies below B stays, though blocks from B on are written. -/
theorem RV.low {w0 w1 : World} {size : Nat} {A : Option Addr} {n c : Nat} {xs : List Value} (h : RV w0 size A n c xs)
    (hb : Below w0.heap.size w0 w1) : RV w1 size A n c xs := h.below hb

theorem below_of_grown {w w1 : World} (h : w.grownBy w1 none) : Below w.heap.size w w1 :=
  ⟨h.os, h.tape, h.output, h.size, fun i hi => h.block i hi (by simp)⟩
theorem grown_of_below {w w1 : World} (h : Below w.heap.size w w1) (row : Option Nat) : w.grownBy w1 row :=
  ⟨h.os, h.tape, h.output, h.size, fun i hi _ => h.block i hi⟩

theorem RV.take {w : World} {size : Nat} {A : Option Addr} {n c : Nat} {xs : List Value} (h : RV w size A n c xs) (k d : Nat) (hk : k ≤ n) (hd : k ≤ d) (hn : A = none → d = 0) :
    RV w size A k d (xs.take (k * size)) :=
  ⟨by rw [List.length_take, h.len]; exact Nat.min_eq_left (Nat.mul_le_mul_right _ hk), hd, fun e => ⟨by have := (h.nil e).1; omega, hn e⟩,
   (fun ad e j u hu => by
     rw [List.getElem?_take] at hu
     split at hu
     · exact h.cell ad e j u hu
     · cases hu),
   fun u hu => h.one u (List.mem_of_mem_take hu)⟩

theorem add_add (ad : Addr) (i j : Nat) : (ad.add i).add j = ad.add (i + j) := by
  unfold Addr.add
  by_cases hi : i = 0
  · subst hi; simp
  · by_cases hj : j = 0
    · subst hj; simp
    · rw [if_neg hi, if_neg hj, if_neg (by omega)]; simp [Nat.add_assoc]

/-- 'x[k:]' where k is below the capacity. -/
theorem RV.drop {w : World} {size : Nat} {A : Option Addr} {n c : Nat} {xs : List Value} (h : RV w size A n c xs) (k : Nat) (d : Nat) (hd : n - k ≤ d) (B : Option Addr)
    (hB : ∀ ad, A = some ad → n ≤ k ∨ B = some (ad.add (k * size))) (hn : B = none → n ≤ k ∧ d = 0) : RV w size B (n - k) d (xs.drop (k * size)) :=
  ⟨(by rw [List.length_drop, h.len, Nat.sub_mul]), hd, (fun e => by have := hn e; omega),
   (fun ad e j u hu => by
     have hlt : j < n * size - k * size := by
       have := (List.getElem?_eq_some_iff.1 hu).1
       rwa [List.length_drop, h.len] at this
     have hkn : ¬ n ≤ k := by
       intro hle
       have := Nat.mul_le_mul_right size hle
       omega
     rw [List.getElem?_drop] at hu
     cases hA : A with
     | none => have := (h.nil hA).1; omega
     | some a0 =>
       rcases hB a0 hA with hh | hh
       · exact absurd hh hkn
       · rw [hh] at e
         injection e with e
         subst e
         have : (a0.add (k * size)).add j = a0.add (k * size + j) := by
           unfold Addr.add
           by_cases hi : k * size = 0
           · rw [hi]; simp
           · by_cases hj : j = 0
             · subst hj; simp
             · rw [if_neg hi, if_neg hj, if_neg (by omega)]; simp [Nat.add_assoc]
         rw [this]
         exact h.cell a0 hA _ u hu),
   fun u hu => h.one u (List.mem_of_mem_drop hu)⟩

theorem own_rv {w : World} {base n : Nat} {e : TypeId} {size : Nat} {v : Value} {xs : List Value} (h : w.ownsRow base e size v n xs) (h1 : ∀ u ∈ xs, u.oneCell' = true) :
    ∃ A c, v = .slice A n c ∧ RV w size A n c xs ∧ c ≤ maxLen ∧ (∀ ad, A = some ad → base ≤ ad.block ∧ ad.block < w.heap.size ∧ ad = ⟨ad.block, 0, none⟩) := by
  rcases h.2 with ⟨rfl, rfl⟩ | ⟨g, cap, cur, rfl, hb, hh, hn, hc, _⟩
  · exact ⟨none, 0, rfl, ⟨h.1, Nat.le_refl _, fun _ => ⟨rfl, rfl⟩, (fun _ e => by cases e), h1⟩, by simp [maxLen], (fun _ e => by cases e)⟩
  · refine ⟨some ⟨g, 0, none⟩, cap, rfl, ⟨h.1, hn, (fun e => by cases e), fun ad e j u hu => ?_, h1⟩, hc, fun ad e => ?_⟩
    · injection e with e
      subst e
      exact h.cells (g := g) rfl j u hu
    · injection e with e
      subst e
      exact ⟨hb, (Array.getElem?_eq_some_iff.1 hh).1, rfl⟩

theorem own_form {w : World} {base n : Nat} {e : TypeId} {size : Nat} {v : Value} {xs : List Value} (h : w.ownsRow base e size v n xs) :
    ∃ A c, v = .slice A n c ∧ n ≤ c ∧ c ≤ maxLen := by
  rcases h.2 with ⟨rfl, rfl⟩ | ⟨g, cap, cur, rfl, hb, hh, hn, hc, _⟩
  · exact ⟨none, 0, rfl, Nat.le_refl _, by simp [maxLen]⟩
  · exact ⟨_, cap, rfl, hn, hc⟩

/-- 'append(s, x...)', s a row of the call's own, x whatever reads. -/
theorem wpList_ap {P : Program} {w : World} {ops : Array Oper} {rest : List Oper} {o : Oper} {a : Act} {Q : Exit → Act → World → Prop} (hgd : o.guard = none) (s x : Operand) (t : TypeId)
    (ho : o.op = .call { callee := .builtin .append, args := #[s, x], argTypes := #[t, t] })
    (base : Nat) (e : TypeId) (i : TypeInfo) (z : Value) (size bytes : Nat) (ht : P.underlying t = some (.slice e)) (hi : P.info? e = some i) (hz : i.zero = some z)
    (hsize : i.size = size) (hby : i.bytes = bytes) (hzs : z.cells.size = size) (hsz : 0 < size)
    (v : Value) (hs : a.eval s = v) (A : Option Addr) (m c : Nat) (hx : a.eval x = .slice A m c)
    (n : Nat) (xs : List Value) (hown : w.ownsRow base e size v n xs)
    (news : List Value) (hR : RV w size A m c news) 
    (h63 : n + m ≤ maxLen) (hbytes : (n + m) * bytes ≤ 140737488355328) (hbase : base ≤ w.heap.size)
    (h : ∀ A' c' w', w'.ownsRow base e size (.slice A' (n + m) c') (n + m) (xs ++ news) → w.grownBy w' v.ownBlock → wpList P ops Q rest (a.put o.dst (.slice A' (n + m) c')) w') : wpList P ops Q (o :: rest) a w := by
  cases A with
  | some ad =>
    refine wpList_append_own w hgd s x t ho base e i z size bytes ht hi hz hsize hby hzs hsz v n xs hs hown ad m c news hx hR.len (hR.cell ad rfl) hR.one h63 hbytes hbase ?_
    intro v' w' h1 h2 _
    obtain ⟨A', c', rfl, _⟩ := own_form h1
    exact h A' c' w' h1 h2
  | none =>
    obtain ⟨rfl, rfl⟩ := hR.nil rfl
    obtain rfl : news = [] := List.eq_nil_of_length_eq_zero (by simpa using hR.len)
    refine wpList_plain hgd fun K hK' => ?_
    have hrun := run_append_owned_none (P := P) w base t o.type e i size ht hi v n xs hown
    unfold Oper.wp
    simp [execOp, ho, resolve, invoke, builtin, hs, hx, hrun, Result.andThen]
    obtain ⟨A', c', rfl, _⟩ := own_form hown
    exact hK' _ _ (by simpa using h A' c' w (by simpa using hown) (World.grownBy.refl _ _))

theorem bthen {B : Nat} {w w1 w2 : World} (h : Below B w w1) (hB : B ≤ w.heap.size) (k : Below w1.heap.size w1 w2) : Below B w w2 :=
  h.trans (k.mono (Nat.le_trans hB h.size))
theorem balloc {B : Nat} {w w1 : World} (h : Below B w w1) (hB : B ≤ w.heap.size) (o : Obj) : Below B w (w1.alloc o) := h.alloc (Nat.le_trans hB h.size) o

theorem bdrewN {B : Nat} {w W : World} (h : Below B w W) (n : Nat) : Below B w (W.drewN n) := ⟨h.os, h.tape, h.output, h.size, h.block⟩
theorem bdrew {B : Nat} {w W : World} (h : Below B w W) : Below B w W.drew := h.drew

@[go_sem] theorem kmax (ats : Array TypeId) (ty : TypeId) (k k' : IntKind) (x y : Int) : Builtin.max_ ats ty #[.int k x, .int k' y] = pure (.int k (max x y)) := by
  simp only [Builtin.max_, List.foldlM_cons, List.foldlM_nil, Builtin.max2, gt_iff_lt]
  have : (if x < y then y else x) = max x y := by split <;> omega
  rw [this]
  rfl
@[go_sem] theorem kmin (ats : Array TypeId) (ty : TypeId) (k k' : IntKind) (x y : Int) : Builtin.min_ ats ty #[.int k x, .int k' y] = pure (.int k (min x y)) := by
  simp only [Builtin.min_, List.foldlM_cons, List.foldlM_nil, Builtin.min2]
  have : (if y < x then y else x) = min x y := by split <;> omega
  rw [this]
  rfl

theorem cell_alloc' {w : World} {a : Addr} {v : Value} (h : w.cell? a = some v) (o : Obj) : (w.alloc o).cell? a = some v :=
  (((Below.refl w.heap.size w).alloc (Nat.le_refl _) o).cell (World.block_lt_of_cell? w a h)).trans h

theorem bl_app (a b : ByteArray) : (a ++ b).data.toList = a.data.toList ++ b.data.toList := by
  rw [ByteArray.data_append, Array.toList_append]
theorem bl_extract (s : ByteArray) (i j : Nat) : (s.extract i j).data.toList = (s.data.toList.take j).drop i := by
  rw [ByteArray.data_extract, Array.toList_extract, List.extract_eq_take_drop, List.drop_take]
theorem bl_len (s : ByteArray) : s.data.toList.length = s.size := rfl
theorem bl_ext {a b : ByteArray} (h : a.data.toList = b.data.toList) : a = b := by
  cases a; cases b
  simp only at h
  congr
  exact Array.toList_inj.1 h

theorem rv_at {w : World} {g : Nat} {cs : List Value} {t : TypeId} {fr : Nat × Nat} (h : w.heap[g]? = some (.cells cs.toArray t fr)) (h1 : ∀ u ∈ cs, u.oneCell' = true) (size n : Nat) (hn : cs.length = n * size) (c : Nat) (hc : n ≤ c) :
    RV w size (some ⟨g, 0, none⟩) n c cs :=
  ⟨hn, hc, (fun e => by cases e), (fun ad e j u hu => by
    injection e with e
    subst e
    have ha : (⟨g, 0, none⟩ : Addr).add j = ⟨g, j, none⟩ := by unfold Addr.add; split <;> simp_all
    rw [ha]
    simp [World.cell?, h]
    simpa using hu), h1⟩

/-- A byte as a cell. -/
def eB (b : UInt8) : Value := .int .u8 b.toNat
theorem eB_one (l : List UInt8) : ∀ u ∈ l.map eB, u.oneCell' = true := by
  intro u hu
  obtain ⟨_, _, rfl⟩ := List.mem_map.1 hu
  rfl

theorem wpList_strbytes {P : Program} {w : World} {ops : Array Oper} {rest : List Oper} {o : Oper} {a : Act} {Q : Exit → Act → World → Prop} (hgd : o.guard = none) (src dst : TypeId) (x : Operand)
    (ho : o.op = .convert src dst x) (e : TypeId) {u : TypeDesc} (hs : P.underlying src = some u) (hd : P.underlying dst = some (.slice e)) (he : P.underlying e = some (.int .u8))
    (s : ByteArray) (hx : a.eval x = .string s)
    (h : ∀ c' w', RV w' 1 (some ⟨w.heap.size, 0, none⟩) s.size c' (s.data.toList.map eB) → Below w.heap.size w w' → w'.heap.size = w.heap.size + 1 → wpList P ops Q rest (a.put o.dst (.slice (some ⟨w.heap.size, 0, none⟩) s.size c')) w') : wpList P ops Q (o :: rest) a w := by
  refine wpList_plain hgd fun K hK' => ?_
  have hrun := Lib.run_convert_string_bytes (P := P) w src dst e s hs hd he
  unfold Oper.wp
  simp [execOp, ho, hx, hrun, Result.andThen]
  refine hK' _ _ (h _ _ ⟨(by rw [List.length_map, Nat.mul_one]; rfl), grownCap_ge _ _ _ _, (fun e => by cases e), fun ad e j u hu => ?_, eB_one _⟩ ⟨rfl, rfl, rfl, by rw [Lib.bytesWorld_size]; omega, fun k hk => Lib.bytesWorld_at_old _ _ _ _ hk⟩ (Lib.bytesWorld_size _ _ _))
  injection e with e
  subst e
  have hj : j < s.size := by have := (List.getElem?_eq_some_iff.1 hu).1; rw [List.length_map] at this; exact this
  have ha : (⟨w.heap.size, 0, none⟩ : Addr).add j = ⟨w.heap.size, j, none⟩ := by unfold Addr.add; split <;> simp_all
  rw [ha, Lib.bytesWorld_cell _ _ _ _ hj, ← hu, List.getElem?_map]
  have hj' : j < s.data.toList.length := hj
  rw [List.getElem?_eq_getElem hj', List.getD_eq_getElem?_getD, List.getElem?_eq_getElem hj']
  rfl

theorem run_bytes_str {P : Program} {w : World} (src dst e : TypeId) (hs : P.underlying src = some (.slice e)) (he : P.underlying e = some (.int .u8)) (hd : P.underlying dst = some .string)
    {A : Option Addr} {n c : Nat} {l : List UInt8} (hR : RV w 1 A n c (l.map eB)) : (convert src dst (.slice A n c)).run P w = .ok (.string ⟨l.toArray⟩) w := by
  have hl : l.length = n := by have := hR.len; simpa using this
  cases A with
  | none =>
    obtain ⟨rfl, rfl⟩ := hR.nil rfl
    obtain rfl : l = [] := List.eq_nil_of_length_eq_zero hl
    exact run_convert_bytes_nil w src e hs he 0 0 dst hd
  | some ad =>
    have hcs := run_convert_bytes_string (P := P) w src dst e (some ad) n c hs he
    have hl2 : (loadCells ad n).run P w = .ok ((l.map fun b => (b.toNat : Int)).map (Value.int .u8)).toArray w := by
      have := run_loadCells_list (P := P) w ad (l.map eB) (fun j v hj => hR.cell ad rfl j v hj)
      simp only [List.length_map, hl] at this
      rw [this, List.map_map]
      rfl
    rw [hcs hd, run_bytesToString w ad n c _ hl2, foldl_push_bytes]
    congr 2
    simp [ByteArray.empty, ByteArray.emptyWithCapacity, Function.comp_def]
    rfl

end Go.Kb
