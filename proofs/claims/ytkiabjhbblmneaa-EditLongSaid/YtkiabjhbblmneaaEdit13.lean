import Derived.Test.YtkiabjhbblmneaaEdit8
import Derived.Test.YtkiabjhbblmneaaEditPure3
import Derived.Test.YtkiabjhbblmneaaEdit12
open Go Go.RowKit Go.Kb Go.Ed
namespace Go.Proofs.Ytkiabjhbblmneaa

def Yes' (w : World) (e : Ending) (w' : World) : Prop := e = .returned (.bool true) ∧ Below w.heap.size w w'
def zstr (n : Nat) : ByteArray := ⟨(List.replicate n (0 : UInt8)).toArray⟩
theorem zstr_size (n : Nat) : (zstr n).size = n := by
  rw [← bl_len]
  simp [zstr]
def zcells (n : Nat) : List Value := List.replicate n (.int .u8 0)
theorem zcells_eq (n : Nat) : zcells n = (List.replicate n (0 : UInt8)).map eB := by
  simp [zcells, eB]

theorem wpList_bytesstr {P : Program} {w : World} {ops : Array Oper} {rest : List Oper} {o : Oper} {a : Act} {Q : Exit → Act → World → Prop} (hgd : o.guard = none) (src dst : TypeId) (x : Operand)
    (ho : o.op = .convert src dst x) (e : TypeId) (hs : P.underlying src = some (.slice e)) (he : P.underlying e = some (.int .u8)) (hd : P.underlying dst = some .string)
    {A : Option Addr} {n c : Nat} (hx : a.eval x = .slice A n c) (l : List UInt8) (hR : RV w 1 A n c (l.map eB)) (s : ByteArray) (hss : (⟨l.toArray⟩ : ByteArray) = s)
    (h : wpList P ops Q rest (a.put o.dst (.string s)) w) : wpList P ops Q (o :: rest) a w := by
  subst hss
  refine wpList_plain hgd fun K hK' => ?_
  have hrun := run_bytes_str (P := P) (w := w) src dst e hs he hd hR
  unfold Oper.wp
  simp [execOp, ho, hx, hrun, Result.andThen]
  exact hK' _ _ h

/-- 'make([]byte, n)'. -/
theorem wpList_zeros {w : World} {ops : Array Oper} {rest : List Oper} {o : Oper} {a : Act} {Q : Exit → Act → World → Prop}
    (hg : o.guard = none) (l c : Operand) (hop : o.op = Op.makeSlice 41 l c) (n : Nat) (hn : n ≤ 1000000)
    (C : Int) (hl : a.eval l = .int .i64 C) (hc : a.eval c = .int .i64 C) (hC : C = (n : Int))
    (hK : ∀ A d w', RV w' 1 A n d ((List.replicate n (0 : UInt8)).map eB) → Below w.heap.size w w' → wpList Try.prog ops Q rest (a.put o.dst (.slice A n d)) w') : wpList Try.prog ops Q (o :: rest) a w := by
  obtain ⟨i0, hi, hz0, hz1, hz2⟩ := info_parts info_u8
  refine wpList_make_full w hg l c 41 hop w.heap.size 5 i0 _ 1 Try.underlying41 hi hz0 hz1 .i64 .i64 C C n hl hc hC hC (by rw [hz2]; omega) (by simp only [maxLen]; omega) (Nat.le_refl _) ?_
  intro w' ho hgw
  have hcs : (madeCells (Value.int .u8 0).cells (n * 1)).toList = (List.replicate n (0 : UInt8)).map eB := by
    rw [Nat.mul_one, ← zcells_eq]
    exact toList_madeCells_one _ _
  rw [hcs] at ho
  obtain ⟨A', c', he, hR, _⟩ := own_rv ho (eB_one _)
  have hK1 := hK A' c' w' hR (below_of_grown hgw)
  rw [← he] at hK1
  exact hK1

/-- What the edits of this law make. -/
theorem long_one (k N : Nat) (hk : k ≤ 7000) (hN : N < 20) :
    (N ≤ 10 → ∃ X : ByteArray, X.size = 7990 + N ∧ appE (zstr 7000).data.toList [⟨k, k, zstr (990 + N)⟩] = (X.data.toList, 0) ∧ ∃ Y : ByteArray, Y.size = 990 + N ∧ appE (zstr 7000).data.toList [⟨k, k, zstr (990 + N)⟩, ⟨0, 7000, ⟨#[]⟩⟩] = (Y.data.toList, 0)) ∧
    (¬ N ≤ 10 → ∀ l, appE (zstr 7000).data.toList (⟨k, k, zstr (990 + N)⟩ :: l) = ([], 5)) := by
  have hst := step_in (zstr 7000).data.toList ⟨k, k, zstr (990 + N)⟩ (by simp only; omega) (by simp only; omega) (by rw [bl_len, zstr_size]; simp only; omega)
  rw [bl_len, zstr_size, zstr_size] at hst
  simp only at hst
  constructor
  · intro h
    refine ⟨⟨(stepE (zstr 7000).data.toList ⟨k, k, zstr (990 + N)⟩).toArray⟩, ?_, ?_, ?_⟩
    · rw [← bl_len]; simp only; omega
    · rw [appE, if_neg (by rw [bl_len, zstr_size]; simp only; omega), if_neg (by omega)]
      rfl
    · have hst2 := step_in (stepE (zstr 7000).data.toList ⟨k, k, zstr (990 + N)⟩) ⟨0, 7000, ⟨#[]⟩⟩ (by simp only; omega) (by simp only; omega) (by simp only; omega)
      simp only at hst2
      have h0 : (⟨#[]⟩ : ByteArray).size = 0 := rfl
      rw [h0] at hst2
      refine ⟨⟨(stepE (stepE (zstr 7000).data.toList ⟨k, k, zstr (990 + N)⟩) ⟨0, 7000, ⟨#[]⟩⟩).toArray⟩, ?_, ?_⟩
      · rw [← bl_len]; simp only; omega
      · rw [appE, if_neg (by rw [bl_len, zstr_size]; simp only; omega), if_neg (by omega), appE, if_neg (by simp only; omega), if_neg (by omega)]
        rfl
  · intro h l
    rw [appE, if_neg (by rw [bl_len, zstr_size]; simp only; omega), if_pos (by omega)]

set_option maxRecDepth 100000 in
set_option maxHeartbeats 1600000 in
theorem long_walk (n at_ : Int) (w : World) (_hn : (Lit.int .i64 n).wf = true) (_hat : (Lit.int .i64 at_).wf = true) :
    Calls Try.prog 6 #[.int .i64 n, .int .i64 at_] w (Yes' w) := by
  clear _hn _hat
  obtain ⟨N, hN⟩ : ∃ N : Nat, wit n 20 = (N : Int) := ⟨(wit n 20).toNat, by have := wit_range n 20 (by omega); omega⟩
  obtain ⟨k, hk⟩ : ∃ k : Nat, wit at_ 7001 = (k : Int) := ⟨(wit at_ 7001).toNat, by have := wit_range at_ 7001 (by omega); omega⟩
  have hN20 : N < 20 := by have := wit_range n 20 (by omega); omega
  have hk7 : k ≤ 7000 := by have := wit_range at_ 7001 (by omega); omega
  have cn : ∀ w', Calls Try.prog 16 #[.int .i64 n, .int .i64 20] w' (fun e w2 => e = .returned (.int .i64 (N : Int)) ∧ w' = w2) := fun w' => by
    have := within_any w' n 20 (by omega) (by omega)
    rwa [hN] at this
  have ck : ∀ w', Calls Try.prog 16 #[.int .i64 at_, .int .i64 7001] w' (fun e w2 => e = .returned (.int .i64 (k : Int)) ∧ w' = w2) := fun w' => by
    have := within_any w' at_ 7001 (by omega) (by omega)
    rwa [hk] at this
  have hlo := long_one k N hk7 hN20
  have ca : ∀ (w' : World) A c, RV w' 3 A 1 c [.int .i64 (k : Int), .int .i64 (k : Int), .string (zstr (990 + N))] → Calls Try.prog 12 #[.string (zstr 7000), .slice A 1 c] w' (AppPost w' (appE (zstr 7000).data.toList [⟨k, k, zstr (990 + N)⟩])) := fun w' A c hR =>
    apply_any w' (zstr 7000) A 1 c [⟨k, k, zstr (990 + N)⟩] (by rw [zstr_size]; omega) hR (by omega) (by
      intro x hx
      simp only [List.mem_singleton] at hx
      subst hx
      simp only [zstr_size]
      omega)
  have cb : ∀ (w' : World) A c, RV w' 3 A 2 c [.int .i64 (k : Int), .int .i64 (k : Int), .string (zstr (990 + N)), .int .i64 0, .int .i64 7000, .string ⟨#[]⟩] → Calls Try.prog 12 #[.string (zstr 7000), .slice A 2 c] w' (AppPost w' (appE (zstr 7000).data.toList [⟨k, k, zstr (990 + N)⟩, ⟨0, 7000, ⟨#[]⟩⟩])) := fun w' A c hR =>
    apply_any w' (zstr 7000) A 2 c [⟨k, k, zstr (990 + N)⟩, ⟨0, 7000, ⟨#[]⟩⟩] (by rw [zstr_size]; omega) hR (by omega) (by
      intro x hx
      simp only [List.mem_cons, List.not_mem_nil, or_false] at hx
      rcases hx with rfl | rfl
      · simp only [zstr_size]; omega
      · exact Nat.zero_le _)
  have z1 : (⟨(List.replicate 7000 (0 : UInt8)).toArray⟩ : ByteArray) = zstr 7000 := rfl
  have z2 : (⟨(List.replicate (990 + N) (0 : UInt8)).toArray⟩ : ByteArray) = zstr (990 + N) := rfl
  have Z1 := Lib.hid z1
  have Z2 := Lib.hid z2
  have CN := Lib.hid cn
  have CK := Lib.hid ck
  clear hN hk cn ck z1 z2
  by_cases h10 : N ≤ 10
  · obtain ⟨X, hX, eX, Y, hY, eY⟩ := hlo.1 h10
    rw [eX] at ca
    rw [eY] at cb
    have hX1 : (((X.size : Int) == 7990 + (N : Int))) = true := by simp; omega
    have hY1 : (((Y.size : Int) == 990 + (N : Int))) = true := by simp; omega
    have ca' : ∀ (w' : World) A c, RV w' 3 A 1 c [.int .i64 (k : Int), .int .i64 (k : Int), .string (zstr (990 + N))] → Calls Try.prog 12 #[.string (zstr 7000), .slice A 1 c] w' (fun e w2 => e = .returned (.tuple #[.string X, .int .i64 0]) ∧ Below w'.heap.size w' w2) := ca
    have CA := Lib.hid ca'
    have cb' : ∀ (w' : World) A c, RV w' 3 A 2 c [.int .i64 (k : Int), .int .i64 (k : Int), .string (zstr (990 + N)), .int .i64 0, .int .i64 7000, .string ⟨#[]⟩] → Calls Try.prog 12 #[.string (zstr 7000), .slice A 2 c] w' (fun e w2 => e = .returned (.tuple #[.string Y, .int .i64 0]) ∧ Below w'.heap.size w' w2) := cb
    have CB := Lib.hid cb'
    clear ca cb ca' cb' hlo eX eY hX hY
    generalize zstr 7000 = zs at *
    generalize zstr (990 + N) = zn at *
    go_enter Try.func6, Try.ntmps6
    have tok1 : True := trivial
    have tok2 : True := trivial
    have tok3 : True := trivial
    have tok4 : True := trivial
    have tok5 : True := trivial
    have tok6 : True := trivial
    have tok7 : True := trivial
    have tok8 : True := trivial
    go_wp2_with (first | (go_at_call 9; ((with_reducible refine (known_any _).mono ?_); rintro e w1 ⟨rfl, hbk⟩)) | (go_at_call 16; ((with_reducible refine (CN.out _).mono ?_); rintro e w2 ⟨rfl, rfl⟩)) | (go_at_call 16; ((with_reducible refine (CK.out _).mono ?_); rintro e w2 ⟨rfl, rfl⟩)) | (at_make; have _t := tok1; refine wpList_zeros rfl _ _ rfl 7000 (by omega) _ rfl rfl (by go_num) ?_; rotate_right; intro A1 d1 v1 hR1 hb1; have HR1 := Lib.hid hR1; clear hR1; clear tok1) | (have _t := tok2; refine wpList_bytesstr rfl 41 9 _ rfl 5 Try.underlying41 Try.underlying5 Try.underlying9 rfl _ HR1.out _ Z1.out ?_; clear tok2 HR1) | (at_make; have _t := tok3; refine wpList_zeros rfl _ _ rfl (990 + N) (by omega) _ rfl rfl (by go_num) ?_; rotate_right; intro A3 d3 v3 hR3 hb3; have HR3 := Lib.hid hR3; clear hR3; clear tok3) | (have _t := tok4; refine wpList_bytesstr rfl 41 9 _ rfl 5 Try.underlying41 Try.underlying5 Try.underlying9 rfl _ HR3.out _ Z2.out ?_; clear tok4 HR3) | (have _t := tok7; go_at_call 12; ((with_reducible refine (CA.out _ _ _ (rv_at (heap_new'' _ _ _ rfl) (by simp [Value.oneCell']) 3 1 rfl 1 (Nat.le_refl _))).mono ?_); rintro e u1 ⟨rfl, hbu1⟩; clear tok7)) | (at_make; have _t := tok5; refine wpList_zeros rfl _ _ rfl (990 + N) (by omega) _ rfl rfl (by go_num) ?_; rotate_right; intro A5 d5 v5 hR5 hb5; have HR5 := Lib.hid hR5; clear hR5; clear tok5) | (have _t := tok6; refine wpList_bytesstr rfl 41 9 _ rfl 5 Try.underlying41 Try.underlying5 Try.underlying9 rfl _ HR5.out _ Z2.out ?_; clear tok6 HR5) | (have _t := tok8; go_at_call 12; ((with_reducible refine (CB.out _ _ _ (rv_at (heap_new'' _ _ _ rfl) (by simp [Value.oneCell']) 3 2 rfl 2 (Nat.le_refl _))).mono ?_); rintro e u2 ⟨rfl, hbu2⟩; clear tok8)))
    go_ret
    exact ⟨rfl, bthen (balloc (bthen (bthen (balloc (bthen (bthen hbk (Nat.le_refl _) hb1) (Nat.le_refl _) hb3) (Nat.le_refl _) _) (Nat.le_refl _) hbu1) (Nat.le_refl _) hb5) (Nat.le_refl _) _) (Nat.le_refl _) hbu2⟩
  · rw [hlo.2 h10] at ca
    rw [hlo.2 h10] at cb
    have ca' : ∀ (w' : World) A c, RV w' 3 A 1 c [.int .i64 (k : Int), .int .i64 (k : Int), .string (zstr (990 + N))] → Calls Try.prog 12 #[.string (zstr 7000), .slice A 1 c] w' (fun e w2 => e = .returned (.tuple #[.string ⟨#[]⟩, .int .i64 5]) ∧ Below w'.heap.size w' w2) := ca
    have CA := Lib.hid ca'
    have cb' : ∀ (w' : World) A c, RV w' 3 A 2 c [.int .i64 (k : Int), .int .i64 (k : Int), .string (zstr (990 + N)), .int .i64 0, .int .i64 7000, .string ⟨#[]⟩] → Calls Try.prog 12 #[.string (zstr 7000), .slice A 2 c] w' (fun e w2 => e = .returned (.tuple #[.string ⟨#[]⟩, .int .i64 5]) ∧ Below w'.heap.size w' w2) := cb
    have CB := Lib.hid cb'
    clear ca cb ca' cb' hlo
    generalize zstr 7000 = zs at *
    generalize zstr (990 + N) = zn at *
    go_enter Try.func6, Try.ntmps6
    have tok1 : True := trivial
    have tok2 : True := trivial
    have tok3 : True := trivial
    have tok4 : True := trivial
    have tok5 : True := trivial
    have tok6 : True := trivial
    have tok7 : True := trivial
    have tok8 : True := trivial
    go_wp2_with (first | (go_at_call 9; ((with_reducible refine (known_any _).mono ?_); rintro e w1 ⟨rfl, hbk⟩)) | (go_at_call 16; ((with_reducible refine (CN.out _).mono ?_); rintro e w2 ⟨rfl, rfl⟩)) | (go_at_call 16; ((with_reducible refine (CK.out _).mono ?_); rintro e w2 ⟨rfl, rfl⟩)) | (at_make; have _t := tok1; refine wpList_zeros rfl _ _ rfl 7000 (by omega) _ rfl rfl (by go_num) ?_; rotate_right; intro A1 d1 v1 hR1 hb1; have HR1 := Lib.hid hR1; clear hR1; clear tok1) | (have _t := tok2; refine wpList_bytesstr rfl 41 9 _ rfl 5 Try.underlying41 Try.underlying5 Try.underlying9 rfl _ HR1.out _ Z1.out ?_; clear tok2 HR1) | (at_make; have _t := tok3; refine wpList_zeros rfl _ _ rfl (990 + N) (by omega) _ rfl rfl (by go_num) ?_; rotate_right; intro A3 d3 v3 hR3 hb3; have HR3 := Lib.hid hR3; clear hR3; clear tok3) | (have _t := tok4; refine wpList_bytesstr rfl 41 9 _ rfl 5 Try.underlying41 Try.underlying5 Try.underlying9 rfl _ HR3.out _ Z2.out ?_; clear tok4 HR3) | (have _t := tok7; go_at_call 12; ((with_reducible refine (CA.out _ _ _ (rv_at (heap_new'' _ _ _ rfl) (by simp [Value.oneCell']) 3 1 rfl 1 (Nat.le_refl _))).mono ?_); rintro e u1 ⟨rfl, hbu1⟩; clear tok7)) | (at_make; have _t := tok5; refine wpList_zeros rfl _ _ rfl (990 + N) (by omega) _ rfl rfl (by go_num) ?_; rotate_right; intro A5 d5 v5 hR5 hb5; have HR5 := Lib.hid hR5; clear hR5; clear tok5) | (have _t := tok6; refine wpList_bytesstr rfl 41 9 _ rfl 5 Try.underlying41 Try.underlying5 Try.underlying9 rfl _ HR5.out _ Z2.out ?_; clear tok6 HR5) | (have _t := tok8; go_at_call 12; ((with_reducible refine (CB.out _ _ _ (rv_at (heap_new'' _ _ _ rfl) (by simp [Value.oneCell']) 3 2 rfl 2 (Nat.le_refl _))).mono ?_); rintro e u2 ⟨rfl, hbu2⟩; clear tok8)))
    go_ret
    exact ⟨rfl, bthen (balloc (bthen (bthen (balloc (bthen (bthen hbk (Nat.le_refl _) hb1) (Nat.le_refl _) hb3) (Nat.le_refl _) _) (Nat.le_refl _) hbu1) (Nat.le_refl _) hb5) (Nat.le_refl _) _) (Nat.le_refl _) hbu2⟩

end Go.Proofs.Ytkiabjhbblmneaa
