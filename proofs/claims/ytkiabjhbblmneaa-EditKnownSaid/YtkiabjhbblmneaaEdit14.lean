import Derived.Test.YtkiabjhbblmneaaEdit10
open Go Go.RowKit Go.Kb Go.Ed
namespace Go.Proofs.Ytkiabjhbblmneaa
theorem new_cell (W : World) (cs : Array Value) (t : TypeId) (fr : Nat × Nat) (g j : Nat) (u : Value) (hg : g = W.heap.size) (h : cs[j]? = some u) : (W.alloc (.cells cs t fr)).cell? ⟨g, j, none⟩ = some u := by
  subst hg
  have hh := heap_alloc_new W (.cells cs t fr)
  simp only [World.cell?]
  rw [hh]
  exact h
set_option maxRecDepth 100000 in
set_option maxHeartbeats 1600000 in
theorem knownE_walk (which : Int) (w : World) (_hn : (Lit.int .i64 which).wf = true) :
    Calls Try.prog 7 #[.int .i64 which] w (Yes w) := by
  clear _hn
  obtain ⟨k, hk⟩ : ∃ k : Nat, wit which 9 = (k : Int) := ⟨(wit which 9).toNat, by have := wit_range which 9 (by omega); omega⟩
  have hk9 : k < 9 := by have := wit_range which 9 (by omega); omega
  have cn : ∀ w', Calls Try.prog 16 #[.int .i64 which, .int .i64 9] w' (fun e w2 => e = .returned (.int .i64 (k : Int)) ∧ w' = w2) := fun w' => by
    have := within_any w' which 9 (by omega) (by omega)
    rwa [hk] at this
  have CN := Lib.hid cn
  clear hk cn
  go_enter Try.func7, Try.ntmps7
  go_wp2_with (first | (go_at_call 9; ((with_reducible refine (known_any _).mono ?_); rintro e w1 ⟨rfl, hbk⟩)) | (go_at_call 16; ((with_reducible refine (CN.out _).mono ?_); rintro e w2 ⟨rfl, rfl⟩)))
  have hb0 : Below w.heap.size w (((w1.alloc (.cells #[.string ⟨#[]⟩, .string ⟨#[97, 98, 99]⟩, .string ⟨#[97, 98, 99]⟩, .string ⟨#[]⟩, .string ⟨#[97, 97]⟩, .string ⟨#[97, 97, 97]⟩, .string ⟨#[97, 98, 97, 98]⟩, .string ⟨#[120, 97, 121]⟩, .string ⟨#[97, 98]⟩] 9)).alloc (.cells #[.string ⟨#[]⟩, .string ⟨#[97, 98, 99]⟩, .string ⟨#[]⟩, .string ⟨#[120, 121, 122]⟩, .string ⟨#[97, 97, 97]⟩, .string ⟨#[97]⟩, .string ⟨#[97, 98]⟩, .string ⟨#[120, 98, 121]⟩, .string ⟨#[99, 100]⟩] 9)).alloc (.cells #[.int .i64 0, .int .i64 0, .string ⟨#[]⟩, .int .i64 3, .int .i64 3, .string ⟨#[]⟩, .int .i64 0, .int .i64 3, .string ⟨#[]⟩, .int .i64 0, .int .i64 0, .string ⟨#[120, 121, 122]⟩, .int .i64 2, .int .i64 2, .string ⟨#[97]⟩, .int .i64 1, .int .i64 3, .string ⟨#[]⟩, .int .i64 2, .int .i64 4, .string ⟨#[]⟩, .int .i64 1, .int .i64 2, .string ⟨#[98]⟩, .int .i64 0, .int .i64 2, .string ⟨#[99, 100]⟩] 36)) := balloc (balloc (balloc hbk (Nat.le_refl _) _) (Nat.le_refl _) _) (Nat.le_refl _) _
  have hps : ∃ s t : ByteArray, s.size ≤ 900 ∧ t.size ≤ 900 ∧ (((w1.alloc (.cells #[.string ⟨#[]⟩, .string ⟨#[97, 98, 99]⟩, .string ⟨#[97, 98, 99]⟩, .string ⟨#[]⟩, .string ⟨#[97, 97]⟩, .string ⟨#[97, 97, 97]⟩, .string ⟨#[97, 98, 97, 98]⟩, .string ⟨#[120, 97, 121]⟩, .string ⟨#[97, 98]⟩] 9)).alloc (.cells #[.string ⟨#[]⟩, .string ⟨#[97, 98, 99]⟩, .string ⟨#[]⟩, .string ⟨#[120, 121, 122]⟩, .string ⟨#[97, 97, 97]⟩, .string ⟨#[97]⟩, .string ⟨#[97, 98]⟩, .string ⟨#[120, 98, 121]⟩, .string ⟨#[99, 100]⟩] 9)).alloc (.cells #[.int .i64 0, .int .i64 0, .string ⟨#[]⟩, .int .i64 3, .int .i64 3, .string ⟨#[]⟩, .int .i64 0, .int .i64 3, .string ⟨#[]⟩, .int .i64 0, .int .i64 0, .string ⟨#[120, 121, 122]⟩, .int .i64 2, .int .i64 2, .string ⟨#[97]⟩, .int .i64 1, .int .i64 3, .string ⟨#[]⟩, .int .i64 2, .int .i64 4, .string ⟨#[]⟩, .int .i64 1, .int .i64 2, .string ⟨#[98]⟩, .int .i64 0, .int .i64 2, .string ⟨#[99, 100]⟩] 36)).cell? ⟨w1.heap.size, k, none⟩ = some (.string s) ∧ (((w1.alloc (.cells #[.string ⟨#[]⟩, .string ⟨#[97, 98, 99]⟩, .string ⟨#[97, 98, 99]⟩, .string ⟨#[]⟩, .string ⟨#[97, 97]⟩, .string ⟨#[97, 97, 97]⟩, .string ⟨#[97, 98, 97, 98]⟩, .string ⟨#[120, 97, 121]⟩, .string ⟨#[97, 98]⟩] 9)).alloc (.cells #[.string ⟨#[]⟩, .string ⟨#[97, 98, 99]⟩, .string ⟨#[]⟩, .string ⟨#[120, 121, 122]⟩, .string ⟨#[97, 97, 97]⟩, .string ⟨#[97]⟩, .string ⟨#[97, 98]⟩, .string ⟨#[120, 98, 121]⟩, .string ⟨#[99, 100]⟩] 9)).alloc (.cells #[.int .i64 0, .int .i64 0, .string ⟨#[]⟩, .int .i64 3, .int .i64 3, .string ⟨#[]⟩, .int .i64 0, .int .i64 3, .string ⟨#[]⟩, .int .i64 0, .int .i64 0, .string ⟨#[120, 121, 122]⟩, .int .i64 2, .int .i64 2, .string ⟨#[97]⟩, .int .i64 1, .int .i64 3, .string ⟨#[]⟩, .int .i64 2, .int .i64 4, .string ⟨#[]⟩, .int .i64 1, .int .i64 2, .string ⟨#[98]⟩, .int .i64 0, .int .i64 2, .string ⟨#[99, 100]⟩] 36)).cell? ⟨w1.heap.size + 1, k, none⟩ = some (.string t) ∧ (((w1.alloc (.cells #[.string ⟨#[]⟩, .string ⟨#[97, 98, 99]⟩, .string ⟨#[97, 98, 99]⟩, .string ⟨#[]⟩, .string ⟨#[97, 97]⟩, .string ⟨#[97, 97, 97]⟩, .string ⟨#[97, 98, 97, 98]⟩, .string ⟨#[120, 97, 121]⟩, .string ⟨#[97, 98]⟩] 9)).alloc (.cells #[.string ⟨#[]⟩, .string ⟨#[97, 98, 99]⟩, .string ⟨#[]⟩, .string ⟨#[120, 121, 122]⟩, .string ⟨#[97, 97, 97]⟩, .string ⟨#[97]⟩, .string ⟨#[97, 98]⟩, .string ⟨#[120, 98, 121]⟩, .string ⟨#[99, 100]⟩] 9)).alloc (.cells #[.int .i64 0, .int .i64 0, .string ⟨#[]⟩, .int .i64 3, .int .i64 3, .string ⟨#[]⟩, .int .i64 0, .int .i64 3, .string ⟨#[]⟩, .int .i64 0, .int .i64 0, .string ⟨#[120, 121, 122]⟩, .int .i64 2, .int .i64 2, .string ⟨#[97]⟩, .int .i64 1, .int .i64 3, .string ⟨#[]⟩, .int .i64 2, .int .i64 4, .string ⟨#[]⟩, .int .i64 1, .int .i64 2, .string ⟨#[98]⟩, .int .i64 0, .int .i64 2, .string ⟨#[99, 100]⟩] 36)).cell? ⟨w1.heap.size + 1 + 1, k * 3, none⟩ = some (.int .i64 (betw s t).fr) ∧ (((w1.alloc (.cells #[.string ⟨#[]⟩, .string ⟨#[97, 98, 99]⟩, .string ⟨#[97, 98, 99]⟩, .string ⟨#[]⟩, .string ⟨#[97, 97]⟩, .string ⟨#[97, 97, 97]⟩, .string ⟨#[97, 98, 97, 98]⟩, .string ⟨#[120, 97, 121]⟩, .string ⟨#[97, 98]⟩] 9)).alloc (.cells #[.string ⟨#[]⟩, .string ⟨#[97, 98, 99]⟩, .string ⟨#[]⟩, .string ⟨#[120, 121, 122]⟩, .string ⟨#[97, 97, 97]⟩, .string ⟨#[97]⟩, .string ⟨#[97, 98]⟩, .string ⟨#[120, 98, 121]⟩, .string ⟨#[99, 100]⟩] 9)).alloc (.cells #[.int .i64 0, .int .i64 0, .string ⟨#[]⟩, .int .i64 3, .int .i64 3, .string ⟨#[]⟩, .int .i64 0, .int .i64 3, .string ⟨#[]⟩, .int .i64 0, .int .i64 0, .string ⟨#[120, 121, 122]⟩, .int .i64 2, .int .i64 2, .string ⟨#[97]⟩, .int .i64 1, .int .i64 3, .string ⟨#[]⟩, .int .i64 2, .int .i64 4, .string ⟨#[]⟩, .int .i64 1, .int .i64 2, .string ⟨#[98]⟩, .int .i64 0, .int .i64 2, .string ⟨#[99, 100]⟩] 36)).cell? ⟨w1.heap.size + 1 + 1, k * 3 + 1, none⟩ = some (.int .i64 (betw s t).to) ∧ (((w1.alloc (.cells #[.string ⟨#[]⟩, .string ⟨#[97, 98, 99]⟩, .string ⟨#[97, 98, 99]⟩, .string ⟨#[]⟩, .string ⟨#[97, 97]⟩, .string ⟨#[97, 97, 97]⟩, .string ⟨#[97, 98, 97, 98]⟩, .string ⟨#[120, 97, 121]⟩, .string ⟨#[97, 98]⟩] 9)).alloc (.cells #[.string ⟨#[]⟩, .string ⟨#[97, 98, 99]⟩, .string ⟨#[]⟩, .string ⟨#[120, 121, 122]⟩, .string ⟨#[97, 97, 97]⟩, .string ⟨#[97]⟩, .string ⟨#[97, 98]⟩, .string ⟨#[120, 98, 121]⟩, .string ⟨#[99, 100]⟩] 9)).alloc (.cells #[.int .i64 0, .int .i64 0, .string ⟨#[]⟩, .int .i64 3, .int .i64 3, .string ⟨#[]⟩, .int .i64 0, .int .i64 3, .string ⟨#[]⟩, .int .i64 0, .int .i64 0, .string ⟨#[120, 121, 122]⟩, .int .i64 2, .int .i64 2, .string ⟨#[97]⟩, .int .i64 1, .int .i64 3, .string ⟨#[]⟩, .int .i64 2, .int .i64 4, .string ⟨#[]⟩, .int .i64 1, .int .i64 2, .string ⟨#[98]⟩, .int .i64 0, .int .i64 2, .string ⟨#[99, 100]⟩] 36)).cell? ⟨w1.heap.size + 1 + 1, k * 3 + 2, none⟩ = some (.string (betw s t).put) := by
    have hk' : k = 0 ∨ k = 1 ∨ k = 2 ∨ k = 3 ∨ k = 4 ∨ k = 5 ∨ k = 6 ∨ k = 7 ∨ k = 8 := by omega
    rcases hk' with rfl | rfl | rfl | rfl | rfl | rfl | rfl | rfl | rfl
    · refine ⟨⟨#[]⟩, ⟨#[]⟩, by decide, by decide, cell_alloc' (cell_alloc' (new_cell _ _ _ _ _ _ _ rfl rfl) _) _, cell_alloc' (new_cell _ _ _ _ _ _ _ (by simp) rfl) _, ?_⟩
      have hB : betw ⟨#[]⟩ ⟨#[]⟩ = ⟨0, 0, ⟨#[]⟩⟩ := by kernel_rfl
      rw [hB]
      exact ⟨new_cell _ _ _ _ _ _ _ (by simp) rfl, new_cell _ _ _ _ _ _ _ (by simp) rfl, new_cell _ _ _ _ _ _ _ (by simp) rfl⟩
    · refine ⟨⟨#[97, 98, 99]⟩, ⟨#[97, 98, 99]⟩, by decide, by decide, cell_alloc' (cell_alloc' (new_cell _ _ _ _ _ _ _ rfl rfl) _) _, cell_alloc' (new_cell _ _ _ _ _ _ _ (by simp) rfl) _, ?_⟩
      have hB : betw ⟨#[97, 98, 99]⟩ ⟨#[97, 98, 99]⟩ = ⟨3, 3, ⟨#[]⟩⟩ := by kernel_rfl
      rw [hB]
      exact ⟨new_cell _ _ _ _ _ _ _ (by simp) rfl, new_cell _ _ _ _ _ _ _ (by simp) rfl, new_cell _ _ _ _ _ _ _ (by simp) rfl⟩
    · refine ⟨⟨#[97, 98, 99]⟩, ⟨#[]⟩, by decide, by decide, cell_alloc' (cell_alloc' (new_cell _ _ _ _ _ _ _ rfl rfl) _) _, cell_alloc' (new_cell _ _ _ _ _ _ _ (by simp) rfl) _, ?_⟩
      have hB : betw ⟨#[97, 98, 99]⟩ ⟨#[]⟩ = ⟨0, 3, ⟨#[]⟩⟩ := by kernel_rfl
      rw [hB]
      exact ⟨new_cell _ _ _ _ _ _ _ (by simp) rfl, new_cell _ _ _ _ _ _ _ (by simp) rfl, new_cell _ _ _ _ _ _ _ (by simp) rfl⟩
    · refine ⟨⟨#[]⟩, ⟨#[120, 121, 122]⟩, by decide, by decide, cell_alloc' (cell_alloc' (new_cell _ _ _ _ _ _ _ rfl rfl) _) _, cell_alloc' (new_cell _ _ _ _ _ _ _ (by simp) rfl) _, ?_⟩
      have hB : betw ⟨#[]⟩ ⟨#[120, 121, 122]⟩ = ⟨0, 0, ⟨#[120, 121, 122]⟩⟩ := by kernel_rfl
      rw [hB]
      exact ⟨new_cell _ _ _ _ _ _ _ (by simp) rfl, new_cell _ _ _ _ _ _ _ (by simp) rfl, new_cell _ _ _ _ _ _ _ (by simp) rfl⟩
    · refine ⟨⟨#[97, 97]⟩, ⟨#[97, 97, 97]⟩, by decide, by decide, cell_alloc' (cell_alloc' (new_cell _ _ _ _ _ _ _ rfl rfl) _) _, cell_alloc' (new_cell _ _ _ _ _ _ _ (by simp) rfl) _, ?_⟩
      have hB : betw ⟨#[97, 97]⟩ ⟨#[97, 97, 97]⟩ = ⟨2, 2, ⟨#[97]⟩⟩ := by kernel_rfl
      rw [hB]
      exact ⟨new_cell _ _ _ _ _ _ _ (by simp) rfl, new_cell _ _ _ _ _ _ _ (by simp) rfl, new_cell _ _ _ _ _ _ _ (by simp) rfl⟩
    · refine ⟨⟨#[97, 97, 97]⟩, ⟨#[97]⟩, by decide, by decide, cell_alloc' (cell_alloc' (new_cell _ _ _ _ _ _ _ rfl rfl) _) _, cell_alloc' (new_cell _ _ _ _ _ _ _ (by simp) rfl) _, ?_⟩
      have hB : betw ⟨#[97, 97, 97]⟩ ⟨#[97]⟩ = ⟨1, 3, ⟨#[]⟩⟩ := by kernel_rfl
      rw [hB]
      exact ⟨new_cell _ _ _ _ _ _ _ (by simp) rfl, new_cell _ _ _ _ _ _ _ (by simp) rfl, new_cell _ _ _ _ _ _ _ (by simp) rfl⟩
    · refine ⟨⟨#[97, 98, 97, 98]⟩, ⟨#[97, 98]⟩, by decide, by decide, cell_alloc' (cell_alloc' (new_cell _ _ _ _ _ _ _ rfl rfl) _) _, cell_alloc' (new_cell _ _ _ _ _ _ _ (by simp) rfl) _, ?_⟩
      have hB : betw ⟨#[97, 98, 97, 98]⟩ ⟨#[97, 98]⟩ = ⟨2, 4, ⟨#[]⟩⟩ := by kernel_rfl
      rw [hB]
      exact ⟨new_cell _ _ _ _ _ _ _ (by simp) rfl, new_cell _ _ _ _ _ _ _ (by simp) rfl, new_cell _ _ _ _ _ _ _ (by simp) rfl⟩
    · refine ⟨⟨#[120, 97, 121]⟩, ⟨#[120, 98, 121]⟩, by decide, by decide, cell_alloc' (cell_alloc' (new_cell _ _ _ _ _ _ _ rfl rfl) _) _, cell_alloc' (new_cell _ _ _ _ _ _ _ (by simp) rfl) _, ?_⟩
      have hB : betw ⟨#[120, 97, 121]⟩ ⟨#[120, 98, 121]⟩ = ⟨1, 2, ⟨#[98]⟩⟩ := by kernel_rfl
      rw [hB]
      exact ⟨new_cell _ _ _ _ _ _ _ (by simp) rfl, new_cell _ _ _ _ _ _ _ (by simp) rfl, new_cell _ _ _ _ _ _ _ (by simp) rfl⟩
    · refine ⟨⟨#[97, 98]⟩, ⟨#[99, 100]⟩, by decide, by decide, cell_alloc' (cell_alloc' (new_cell _ _ _ _ _ _ _ rfl rfl) _) _, cell_alloc' (new_cell _ _ _ _ _ _ _ (by simp) rfl) _, ?_⟩
      have hB : betw ⟨#[97, 98]⟩ ⟨#[99, 100]⟩ = ⟨0, 2, ⟨#[99, 100]⟩⟩ := by kernel_rfl
      rw [hB]
      exact ⟨new_cell _ _ _ _ _ _ _ (by simp) rfl, new_cell _ _ _ _ _ _ _ (by simp) rfl, new_cell _ _ _ _ _ _ _ (by simp) rfl⟩
  generalize ((w1.alloc (.cells #[.string ⟨#[]⟩, .string ⟨#[97, 98, 99]⟩, .string ⟨#[97, 98, 99]⟩, .string ⟨#[]⟩, .string ⟨#[97, 97]⟩, .string ⟨#[97, 97, 97]⟩, .string ⟨#[97, 98, 97, 98]⟩, .string ⟨#[120, 97, 121]⟩, .string ⟨#[97, 98]⟩] 9)).alloc (.cells #[.string ⟨#[]⟩, .string ⟨#[97, 98, 99]⟩, .string ⟨#[]⟩, .string ⟨#[120, 121, 122]⟩, .string ⟨#[97, 97, 97]⟩, .string ⟨#[97]⟩, .string ⟨#[97, 98]⟩, .string ⟨#[120, 98, 121]⟩, .string ⟨#[99, 100]⟩] 9)).alloc (.cells #[.int .i64 0, .int .i64 0, .string ⟨#[]⟩, .int .i64 3, .int .i64 3, .string ⟨#[]⟩, .int .i64 0, .int .i64 3, .string ⟨#[]⟩, .int .i64 0, .int .i64 0, .string ⟨#[120, 121, 122]⟩, .int .i64 2, .int .i64 2, .string ⟨#[97]⟩, .int .i64 1, .int .i64 3, .string ⟨#[]⟩, .int .i64 2, .int .i64 4, .string ⟨#[]⟩, .int .i64 1, .int .i64 2, .string ⟨#[98]⟩, .int .i64 0, .int .i64 2, .string ⟨#[99, 100]⟩] 36) = W0 at *
  generalize w1.heap.size = g at *
  obtain ⟨s, t, hs, ht, i1, i2, i3, i4, i5⟩ := hps
  clear hbk
  have hg : g + 1 + 1 < W0.heap.size := World.block_lt_of_cell? _ _ i3
  have hg1 : g + 1 < W0.heap.size := World.block_lt_of_cell? _ _ i2
  have hg0 : g < W0.heap.size := World.block_lt_of_cell? _ _ i1
  have kb0 : (0 : Int) ≤ (k : Int) := by omega
  have kb1 : (k : Int) < 9 := by omega
  go_upto_region 7 with fail
  go_cut [7, 8] (fun s7 s8 wx => s7 = .string t ∧ s8 = .int .i64 0 ∧ Below W0.heap.size W0 wx)
  case first =>
    go_region_with (go_at_call 12; ((with_reducible refine (apply_betw _ s t _ _ (by omega) (by omega) (rv3 (by go_simp) (by go_simp) (by go_simp) (by simp [Value.oneCell']))).mono ?_); rintro e w5 ⟨rfl, hb5⟩))
    all_goals (go_wp2_with fail; go_meet)
    all_goals exact ⟨rfl, rfl, (by first | exact bundrew (bthen (bdrew (balloc (Below.refl _ _) (Nat.le_refl _) _)) (Nat.le_refl _) hb5) | exact bthen (bdrew (balloc (Below.refl _ _) (Nat.le_refl _) _)) (Nat.le_refl _) hb5 | exact bthen (balloc (bdrew (Below.refl _ _)) (Nat.le_refl _) _) (Nat.le_refl _) hb5)⟩
  case rest =>
    obtain ⟨wx, rfl⟩ : ∃ wx : World, wx = wc := ⟨_, rfl⟩
    obtain ⟨rfl, rfl, hbx⟩ := hcut
    have m1 : wx.cell? ⟨g, k, none⟩ = some (.string s) := (hbx.cell hg0).trans i1
    have m2 : wx.cell? ⟨g + 1, k, none⟩ = some (.string t) := (hbx.cell hg1).trans i2
    have y0 : wx.cell? ⟨g + 1 + 1, k * 3, none⟩ = some (.int .i64 (betw s t).fr) := (hbx.cell hg).trans i3
    have y1 : wx.cell? ⟨g + 1 + 1, k * 3 + 1, none⟩ = some (.int .i64 (betw s t).to) := (hbx.cell hg).trans i4
    have y2 : wx.cell? ⟨g + 1 + 1, k * 3 + 2, none⟩ = some (.string (betw s t).put) := (hbx.cell hg).trans i5
    have hgx : g + 1 + 1 < wx.heap.size := World.block_lt_of_cell? _ _ y0
    have hgx1 : g + 1 < wx.heap.size := World.block_lt_of_cell? _ _ m2
    have hgx0 : g < wx.heap.size := World.block_lt_of_cell? _ _ m1
    clear i1 i2 i3 i4 i5 hg hg1 hg0
    have hbw := fun w' => run_eq_ed (betw s t) (betw s t) w'
    rw [edB_refl] at hbw
    go_upto_region 8 with fail
    go_cut [2] (fun s2 wz => s2 = .bool true ∧ Below wx.heap.size wx wz)
    case first =>
      go_region_held3 (fun w' => w'.cell? ⟨g, k, none⟩ = some (.string s) ∧ w'.cell? ⟨g + 1, k, none⟩ = some (.string t) ∧ w'.cell? ⟨g + 1 + 1, k * 3, none⟩ = some (.int .i64 (betw s t).fr) ∧ w'.cell? ⟨g + 1 + 1, k * 3 + 1, none⟩ = some (.int .i64 (betw s t).to) ∧ w'.cell? ⟨g + 1 + 1, k * 3 + 2, none⟩ = some (.string (betw s t).put) ∧ Below wx.heap.size wx w')
        (first | exact ⟨m1, m2, y0, y1, y2, bdrew (Below.refl _ _)⟩ | (go_split_ands; refine ⟨?_, ?_, ?_, ?_, ?_, bthen (by assumption) (Nat.le_refl _) hb6⟩ <;> (exact (hb6.cell (World.block_lt_of_cell? _ _ (by assumption))).trans (by assumption))) | go_keep)
        (first | (go_at_call 14; ((with_reducible refine (between_any _ _ _ (by omega) (by omega)).mono ?_); rintro e w6 ⟨rfl, hb6⟩)))
      go_wp2_with fail
      go_meet
      exact ⟨rfl, bundrew hb6⟩
    case rest =>
      obtain ⟨wz, rfl⟩ : ∃ wz : World, wz = wc := ⟨_, rfl⟩
      obtain ⟨rfl, hbz⟩ := hcut
      go_wp2_with fail
      go_ret
      exact ⟨rfl, bthen (bthen hb0 (Nat.le_refl _) hbx) (Nat.le_refl _) hbz⟩
end Go.Proofs.Ytkiabjhbblmneaa
