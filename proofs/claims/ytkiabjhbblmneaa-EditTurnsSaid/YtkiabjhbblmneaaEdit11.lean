import Derived.Test.YtkiabjhbblmneaaEdit10
import Derived.Test.YtkiabjhbblmneaaEditPure2
open Go Go.RowKit Go.Kb Go.Ed
namespace Go.Proofs.Ytkiabjhbblmneaa

theorem apply_turn (w : World) (a b : ByteArray) (A : Option Addr) (c : Nat) (ha : a.size ≤ 200) (hb : b.size ≤ 200) (hl : RV w 3 A 2 c (cellsE [betw a b, betw b a])) :
    Calls Try.prog 12 #[.string a, .slice A 2 c] w (fun e w' => e = .returned (.tuple #[.string a, .int .i64 0]) ∧ Below w.heap.size w w') := by
  refine (apply_any w a A 2 c [betw a b, betw b a] (by omega) hl (by omega) ?_).mono ?_
  · intro x hx
    simp only [List.mem_cons, List.not_mem_nil, or_false] at hx
    have h1 := bet_put_size a b
    have h2 := bet_put_size b a
    rcases hx with rfl | rfl <;> omega
  · rintro e w' ⟨he, hb'⟩
    rw [turn_app a b (by omega) (by omega)] at he
    exact ⟨he, hb'⟩

theorem heap_new' (W : World) (o : Obj) (g : Nat) (hg : g = W.heap.size) : (W.alloc o).heap[g]? = some o := by subst hg; exact heap_alloc_new W o

theorem rv6 {w : World} {g : Nat} {u0 u1 u2 u3 u4 u5 : Value} {t : TypeId} (h : w.heap[g]? = some (.cells #[u0, u1, u2, u3, u4, u5] t (0, 0))) (o : ∀ u ∈ [u0, u1, u2, u3, u4, u5], u.oneCell' = true) : RV w 3 (some ⟨g, 0, none⟩) 2 2 [u0, u1, u2, u3, u4, u5] :=
  rv_at (cs := [u0, u1, u2, u3, u4, u5]) h o 3 2 rfl 2 (Nat.le_refl _)

set_option maxRecDepth 100000 in
set_option maxHeartbeats 1600000 in
theorem turns_walk (a b : ByteArray) (w : World) (h1 : a.size ≤ 140737488351232) (h2 : b.size ≤ 140737488351232) :
    Calls Try.prog 8 #[.string a, .string b] w (Yes w) := by
  by_cases hbig : 200 < a.size ∨ 200 < b.size
  · go_enter Try.func8, Try.ntmps8
    go_wp2_with (first | (go_at_call 9; ((with_reducible refine (known_any _).mono ?_); rintro e w1 ⟨rfl, hb1⟩)))
    all_goals first
      | (go_ret; exact ⟨rfl, hb1⟩)
      | (exfalso; omega)
  · have g1 : (a.size : Int) ≤ 200 := by omega
    have g2 : (b.size : Int) ≤ 200 := by omega
    clear hbig
    have hs1 := bet_put_size a b
    have hs2 := bet_put_size b a
    have hk := betK_le a b
    have cab : ∀ w', Calls Try.prog 14 #[.string a, .string b] w' (fun e w2 => e = .returned (.agg #[.int .i64 (betN a b : Int), .int .i64 ((a.size - betK a b : Nat) : Int), .string (betw a b).put]) ∧ Below w'.heap.size w' w2) := fun w' => between_any w' a b (by omega) (by omega)
    have cba : ∀ w', Calls Try.prog 14 #[.string b, .string a] w' (fun e w2 => e = .returned (.agg #[.int .i64 (betN a b : Int), .int .i64 ((b.size - betK a b : Nat) : Int), .string (betw b a).put]) ∧ Below w'.heap.size w' w2) := fun w' => by
      refine (between_any w' b a (by omega) (by omega)).mono ?_
      rintro e w2 ⟨he, hb⟩
      refine ⟨?_, hb⟩
      rw [he]
      simp only [betw, betN_comm b a, betK_comm b a]
    rw [betK_comm b a, betN_comm b a] at hs2
    have ct : ∀ w' A c, RV w' 3 A 2 c [.int .i64 (betN a b : Int), .int .i64 ((a.size - betK a b : Nat) : Int), .string (betw a b).put, .int .i64 (betN a b : Int), .int .i64 ((b.size - betK a b : Nat) : Int), .string (betw b a).put] → Calls Try.prog 12 #[.string a, .slice A 2 c] w' (fun e w2 => e = .returned (.tuple #[.string a, .int .i64 0]) ∧ Below w'.heap.size w' w2) := fun w' A c hR => by
      refine apply_turn w' a b A c (by omega) (by omega) ?_
      have : cellsE [betw a b, betw b a] = [.int .i64 (betN a b : Int), .int .i64 ((a.size - betK a b : Nat) : Int), .string (betw a b).put, .int .i64 (betN a b : Int), .int .i64 ((b.size - betK a b : Nat) : Int), .string (betw b a).put] := by
        simp only [cellsE, encE, List.flatMap_cons, List.flatMap_nil, betw, betN_comm b a, betK_comm b a]
        rfl
      rw [this]
      exact hR
    have cr : ∀ w', Calls Try.prog 15 #[.string a, .string b] w' (fun e w2 => e = .returned (.agg #[.int .i64 (betN a b : Int), .int .i64 ((a.size - betK a b : Nat) : Int), .string (betw a b).put]) ∧ Below w'.heap.size w' w2) := fun w' => rbetween_any w' a b (by omega) (by omega)
    have hfirst : ∀ (i : 0 < (betw a b).put.size) (j : 0 < (betw b a).put.size), (((betw a b).put[0]).toNat : Int) ≠ (((betw b a).put[0]).toNat : Int) := fun i j hh => bet_first a b i j _ _ (bl_get _ 0 i) (bl_get _ 0 j) (UInt8.toNat_inj.1 (by omega))
    have hlast : ∀ (i : (betw a b).put.size - 1 < (betw a b).put.size) (j : (betw b a).put.size - 1 < (betw b a).put.size), (((betw a b).put[(betw a b).put.size - 1]).toNat : Int) ≠ (((betw b a).put[(betw b a).put.size - 1]).toNat : Int) := fun i j hh => bet_last a b (by omega) (by omega) _ _ (bl_get _ _ i) (bl_get _ _ j) (UInt8.toNat_inj.1 (by omega))
    generalize (betw a b).put = p at *
    generalize (betw b a).put = r at *
    generalize betN a b = n at *
    generalize betK a b = k at *
    have CA := Lib.hid cab
    have CB := Lib.hid cba
    have CT := Lib.hid ct
    have CR := Lib.hid cr
    have HF := Lib.hid hfirst
    have HL := Lib.hid hlast
    clear cab cba ct cr hfirst hlast
    have f1 : (p.size : Int) ≤ ((b.size - k : Nat) : Int) - n := by omega
    have f2 : ((b.size - k : Nat) : Int) - n ≤ (p.size : Int) := by omega
    have f3 : (r.size : Int) ≤ ((a.size - k : Nat) : Int) - n := by omega
    have f4 : ((a.size - k : Nat) : Int) - n ≤ (r.size : Int) := by omega
    have HS1 := Lib.hid hs1
    have HS2 := Lib.hid hs2
    clear hs1 hs2
    · skip
      go_enter Try.func8, Try.ntmps8
      go_wp2_with (first | (go_at_call 9; ((with_reducible refine (known_any _).mono ?_); rintro e w1 ⟨rfl, hb1⟩)) | (go_at_call 14; ((with_reducible refine (CA.out _).mono ?_); rintro e w2 ⟨rfl, hb2⟩)) | (go_at_call 14; ((with_reducible refine (CB.out _).mono ?_); rintro e w3 ⟨rfl, hb3⟩)) | (go_at_call 12; ((with_reducible refine (CT.out _ _ _ ?r1).mono ?_); rotate_right; rintro e w4 ⟨rfl, hb4⟩; obtain ⟨hc4, hf4⟩ := bcell hb4)))
      case r1 => exact rv6 (heap_new' _ _ _ (by simp)) (by simp [Value.oneCell'])
      all_goals
        have hbb : Below w.heap.size w w4 := bthen (balloc (balloc (balloc (bthen (bthen hb1 (Nat.le_refl _) hb2) (Nat.le_refl _) hb3) (Nat.le_refl _) _) (Nat.le_refl _) _) (Nat.le_refl _) _) (Nat.le_refl _) hb4
        have y0 : w4.cell? ⟨w3.heap.size, 0, none⟩ = some (.int .i64 (n : Int)) := by go_simp
        have y1 : w4.cell? ⟨w3.heap.size, 1, none⟩ = some (.int .i64 ((a.size - k : Nat) : Int)) := by go_simp
        have y2 : w4.cell? ⟨w3.heap.size, 2, none⟩ = some (.string p) := by go_simp
        have x2 : w4.cell? ⟨w3.heap.size + 1, 2, none⟩ = some (.string r) := by go_simp
        generalize w3.heap.size = g at *
        clear hb4 hc4 hf4 hb3 hb2 hb1 f1 f2 f3 f4
      · have hbw := fun w' => run_eq_ed ⟨(n : Int), ((a.size - k : Nat) : Int), p⟩ ⟨(n : Int), ((a.size - k : Nat) : Int), p⟩ w'
        rw [edB_refl] at hbw
        clear x2
        go_region_held3 (fun w' => w'.cell? ⟨g, 0, none⟩ = some (.int .i64 (n : Int)) ∧ w'.cell? ⟨g, 1, none⟩ = some (.int .i64 ((a.size - k : Nat) : Int)) ∧ w'.cell? ⟨g, 2, none⟩ = some (.string p))
          (first | exact ⟨y0, y1, y2⟩ | (go_split_ands; refine ⟨?_, ?_, ?_⟩ <;> (exact (hb6.cell (World.block_lt_of_cell? _ _ (by assumption))).trans (by assumption))) | go_keep)
          (first | (go_at_call 15; ((with_reducible refine (CR.out _).mono ?_); rintro e w6 ⟨rfl, hb6⟩)))
        all_goals
          go_wp2_with fail
          go_ret
          exact ⟨rfl, bthen hbb (Nat.le_refl _) (bundrew hb6)⟩
      · have hbw := fun w' => run_eq_ed ⟨(n : Int), ((a.size - k : Nat) : Int), p⟩ ⟨(n : Int), ((a.size - k : Nat) : Int), p⟩ w'
        rw [edB_refl] at hbw
        clear x2
        go_region_held3 (fun w' => w'.cell? ⟨g, 0, none⟩ = some (.int .i64 (n : Int)) ∧ w'.cell? ⟨g, 1, none⟩ = some (.int .i64 ((a.size - k : Nat) : Int)) ∧ w'.cell? ⟨g, 2, none⟩ = some (.string p))
          (first | exact ⟨y0, y1, y2⟩ | (go_split_ands; refine ⟨?_, ?_, ?_⟩ <;> (exact (hb6.cell (World.block_lt_of_cell? _ _ (by assumption))).trans (by assumption))) | go_keep)
          (first | (go_at_call 15; ((with_reducible refine (CR.out _).mono ?_); rintro e w6 ⟨rfl, hb6⟩)))
        all_goals
          go_wp2_with fail
          go_ret
          exact ⟨rfl, bthen hbb (Nat.le_refl _) (bundrew hb6)⟩
      · rename (((b.size - k : Nat) : Int) - (n : Int) == 0) = false ∧ ((r.size : Int) == 0) = false => q4
        rename ¬ ((b.size - k : Nat) : Int) - (n : Int) = 0 => q3
        rename (p.size : Int) = ((b.size - k : Nat) : Int) - (n : Int) => q1
        have z1 : 0 < p.size := by omega
        have z2 : 0 < r.size := by have := q4.2; rw [beq_eq_false_iff_ne] at this; omega
        clear y0 y1
        clear q1
        have e1 : ((p[0].toNat : Int) != (r[0].toNat : Int)) = true := bne_iff_ne.2 (HF.out z1 z2)
        have e2 : ((p[p.size - 1].toNat : Int) != (r[r.size - 1].toNat : Int)) = true := bne_iff_ne.2 (HL.out (by omega) (by omega))
        have e3 : IntKind.i64.wrap ((p.size : Int) - 1) = ((p.size - 1 : Nat) : Int) := by rw [IntWalk.i64_in _ (by have := HS1.out; omega)]; omega
        have e4 : IntKind.i64.wrap ((r.size : Int) - 1) = ((r.size - 1 : Nat) : Int) := by rw [IntWalk.i64_in _ (by have := HS2.out; omega)]; omega
        have i1 : p.size - 1 < p.size := by omega
        have i2 : r.size - 1 < r.size := by omega
        go_quiet (fail)
        clear e1 e2 e3 e4
        go_wp2_with fail
        go_ret
        exact ⟨rfl, bdrewN hbb _⟩

end Go.Proofs.Ytkiabjhbblmneaa
