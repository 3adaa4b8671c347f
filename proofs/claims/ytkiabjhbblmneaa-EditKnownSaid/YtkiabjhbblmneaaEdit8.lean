import Derived.Test.YtkiabjhbblmneaaEdit7
import Derived.Laws.StructEq
open Go Go.RowKit Go.Kb Go.Ed
namespace Go.Proofs.Ytkiabjhbblmneaa

def edB (x y : Ed) : Bool := x.fr == y.fr && x.to == y.to && x.put.toList == y.put.toList
theorem edB_refl (x : Ed) : edB x x = true := by simp [edB]
theorem edB_eq {x y : Ed} (h : x = y) : edB x y = true := by subst h; exact edB_refl x

theorem run_eq_ed (x y : Ed) (w : World) : (binOp .eql 36 (.agg #[.int .i64 x.fr, .int .i64 x.to, .string x.put]) (.agg #[.int .i64 y.fr, .int .i64 y.to, .string y.put])).run Try.prog w = .ok (.bool (edB x y)) w := by
  have hS : Try.prog.underlying 36 = some (.struct (Try.prog.fieldsOf 36)) := by kernel_rfl
  have hp : Try.prog.stoodInHeld 36 = false := by kernel_rfl
  rw [run_eql_struct, show (10000 : Nat) = 9999 + 1 from rfl, run_equalIn_agg w 9999 36 _ _ hS hp]
  simp only [Program.fieldsOf, Try.underlying36]
  go_simp
  unfold edB
  by_cases h1 : x.fr = y.fr <;> by_cases h2 : x.to = y.to <;> by_cases h3 : x.put.toList = y.put.toList <;> simp [h1, h2, h3]

set_option maxHeartbeats 400000 in
theorem known_any (w : World) :
    Calls Try.prog 9 #[] w (fun e w' => e = .returned (.bool true) ∧ Below w.heap.size w w') := by
  have hbe : betw ⟨#[97, 98, 99]⟩ ⟨#[97, 120, 99]⟩ = ⟨1, 2, ⟨#[120]⟩⟩ := by kernel_rfl
  have HB := Lib.hid hbe
  clear hbe
  have hk := fun w' => run_eq_ed ⟨1, 2, ⟨#[120]⟩⟩ ⟨1, 2, ⟨#[120]⟩⟩ w'
  rw [edB_refl] at hk
  go_enter Try.func9, Try.ntmps9
  go_wp2_with (first | (go_at_call 14; ((with_reducible refine (between_any _ _ _ ?a1 ?a2).mono ?_); rotate_right; rintro e w1 ⟨he, hb1⟩; rw [HB.out] at he; subst he)))
  go_ret
  exact ⟨rfl, balloc hb1 (Nat.le_refl _) _⟩

end Go.Proofs.Ytkiabjhbblmneaa
