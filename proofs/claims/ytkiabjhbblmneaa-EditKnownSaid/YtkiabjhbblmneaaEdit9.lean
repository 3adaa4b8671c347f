import Derived.Test.YtkiabjhbblmneaaEdit8
import Derived.Test.YtkiabjhbblmneaaEditPure
open Go Go.RowKit Go.Kb Go.Ed
namespace Go.Proofs.Ytkiabjhbblmneaa

def Yes (w : World) (e : Ending) (w' : World) : Prop := e = .returned (.bool true) ∧ Below w.heap.size w w'

theorem app0 (s : ByteArray) (l : List Ed) (h : s.size ≤ 400) : (appE s.data.toList (nearE 8 s.size l)).2 = 0 := by
  have := (near_app 8 s.data.toList l (by rw [bl_len]; omega)).1
  rwa [bl_len] at this
theorem near_len (f : Nat) : ∀ (n : Int) (l : List Ed), (nearE f n l).length ≤ f := by
  induction f with
  | zero => intro n l; simp [nearE]
  | succ f ih =>
    intro n l
    cases l with
    | nil => simp [nearE]
    | cons x l => have := ih (near2 n x) l; simp only [nearE, List.length_cons]; omega
theorem near_put (f : Nat) : ∀ (n : Int) (l : List Ed), ∀ x ∈ nearE f n l, x.put.size ≤ 20000 := by
  induction f with
  | zero => intro n l x hx; simp [nearE] at hx
  | succ f ih =>
    intro n l x hx
    cases l with
    | nil => simp [nearE] at hx
    | cons y l =>
      simp only [nearE, List.mem_cons] at hx
      rcases hx with rfl | hx
      · have := near1_size n y; omega
      · exact ih _ l x hx

set_option maxHeartbeats 1600000 in
theorem applies_walk (s : ByteArray) (A : Option Addr) (n c : Nat) (l : List Ed) (w : World) (hs : s.size ≤ 140737488351232) (hl : RV w 3 A n c (cellsE l)) (hc : c ≤ maxLen) :
    Calls Try.prog 3 #[.string s, .slice A n c] w (Yes w) := by
  have HL := Lib.hid hl
  have hcap := hl.cap
  have hlen : l.length = n := by have := hl.len; rw [cellsE_length] at this; omega
  have HN := Lib.hid hlen
  unfold maxLen at hc
  clear hl hlen
  by_cases h400 : 400 < s.size
  · go_enter Try.func3, Try.ntmps3
    go_wp2_with (first | (go_at_call 9; ((with_reducible refine (known_any _).mono ?_); rintro e w1 ⟨rfl, hb1⟩)))
    go_ret
    exact ⟨rfl, hb1⟩
  · by_cases hfew : fewB l = true
    · have hf := few_of hfew
      have h4 : (s.size : Int) ≤ 400 := by omega
      have HF := Lib.hid hfew
      go_enter Try.func3, Try.ntmps3
      go_wp2_with (first | (go_at_call 9; ((with_reducible refine (known_any _).mono ?_); rintro e w1 ⟨rfl, hb1⟩)) | (go_at_call 10; ((with_reducible refine (few_any _ _ _ _ l ?f1 ?f2).mono ?_); rotate_right; rintro e w2 ⟨rfl, rfl⟩)) | (go_at_call 11; ((with_reducible refine (near_any _ _ _ _ _ l ?n1 ?n2 ?n3).mono ?_); rotate_right; rintro e w3 ⟨v3, k3, rfl, hown3, hb3⟩; obtain ⟨A3, c3, rfl, hR3, hc3, -⟩ := own_rv hown3 (cellsE_one _); have HR3 := Lib.hid hR3; clear hR3 hown3)))
      case n1 => omega
      case n2 => exact HL.out.low hb1
      case n3 => omega
      case f1 => exact HL.out.low hb1
      case f2 => omega
      have hb03 : Below w.heap.size w w3 := bthen hb1 (Nat.le_refl _) hb3
      have hb0 : Below w.heap.size w (w3.alloc (.cells #[.slice A n c, .slice A3 k3 c3] 22)) := balloc hb03 (Nat.le_refl _) _
      have r1 := Lib.hid (HL.out.low hb0)
      have r2 := Lib.hid (HR3.out.below (balloc (Below.refl _ w3) (Nat.le_refl _) (.cells #[.slice A n c, .slice A3 k3 c3] 22)))
      have i1 : (w3.alloc (.cells #[.slice A n c, .slice A3 k3 c3] 22)).cell? ⟨w3.heap.size, 0, none⟩ = some (.slice A n c) := by simp
      have i2 : (w3.alloc (.cells #[.slice A n c, .slice A3 k3 c3] 22)).cell? ⟨w3.heap.size, 1, none⟩ = some (.slice A3 k3 c3) := by simp
      have hk3 : k3 ≤ 8 := by
        have := HR3.out.len
        rw [cellsE_length] at this
        have := near_len 8 s.size l
        omega
      clear HR3 hb03 hb3 hb1
      generalize w3.alloc (.cells #[.slice A n c, .slice A3 k3 c3] 22) = W0 at *
      generalize w3.heap.size = g at *
      have I1 := Lib.hid i1
      have I2 := Lib.hid i2
      clear i1 i2
      go_loopw [6] (fun i wr => ∃ k : Nat, k ≤ 2 ∧ i = .int .i64 k ∧ Below W0.heap.size W0 wr) (fun i _ => 2 - (intOf i).toNat)
      case atStart => exact ⟨0, by omega, rfl, Below.refl _ _⟩
      case round =>
        obtain ⟨k, hk, rfl, hb⟩ := hrel
        by_cases hk0 : k = 0
        · subst hk0
          have i1 : wr.cell? ⟨g, 0, none⟩ = some (.slice A n c) := (hb.cell (World.block_lt_of_cell? _ _ I1.out)).trans I1.out
          go_wp2_with (first | (go_at_call 12; ((with_reducible refine (apply_any _ _ _ _ _ l ?p1 ?p2 ?p3 ?p4).mono ?_); rotate_right; rintro e w4 ⟨rfl, hb4⟩; have i3 : w4.cell? ⟨g, 0, none⟩ = some (.slice A n c) := (hb4.cell (World.block_lt_of_cell? _ _ i1)).trans i1; clear i1)) | (go_at_call 13; ((with_reducible refine (rapply_any _ _ _ _ _ l ?q1 ?q2 ?q3 ?q4).mono ?_); rotate_right; rintro e w5 ⟨rfl, hb5⟩; clear i3)))
          case p1 => omega
          case p2 => exact r1.out.below hb
          case p3 => have := HN.out; omega
          case p4 => intro x hx; have := hf.2 x hx; omega
          case q1 => omega
          case q2 => exact (r1.out.below hb).below hb4
          case q3 => have := HN.out; omega
          case q4 => intro x hx; have := hf.2 x hx; omega
          exact ⟨⟨1, by omega, rfl, bthen (bthen hb (Nat.le_refl _) hb4) (Nat.le_refl _) hb5⟩, by simp [intOf]⟩
        · by_cases hk1 : k = 1
          · subst hk1
            have i1 : wr.cell? ⟨g, 1, none⟩ = some (.slice A3 k3 c3) := (hb.cell (World.block_lt_of_cell? _ _ I2.out)).trans I2.out
            have h0 := app0 s l (by omega)
            go_wp2_with (first | (go_at_call 12; ((with_reducible refine (apply_any _ _ _ _ _ (nearE 8 s.size l) ?p1 ?p2 ?p3 ?p4).mono ?_); rotate_right; rintro e w4 ⟨rfl, hb4⟩; have i3 : w4.cell? ⟨g, 1, none⟩ = some (.slice A3 k3 c3) := (hb4.cell (World.block_lt_of_cell? _ _ i1)).trans i1; clear i1)) | (go_at_call 13; ((with_reducible refine (rapply_any _ _ _ _ _ (nearE 8 s.size l) ?q1 ?q2 ?q3 ?q4).mono ?_); rotate_right; rintro e w5 ⟨rfl, hb5⟩; clear i3)))
            case p1 => omega
            case p2 => exact r2.out.below hb
            case p3 => omega
            case p4 => exact near_put _ _ _
            case q1 => omega
            case q2 => exact (r2.out.below hb).below hb4
            case q3 => omega
            case q4 => exact near_put _ _ _
            exact ⟨⟨2, by omega, rfl, bthen (bthen hb (Nat.le_refl _) hb4) (Nat.le_refl _) hb5⟩, by simp [intOf]⟩
          · obtain rfl : k = 2 := by omega
            go_wp2_with fail
            go_ret
            exact ⟨rfl, bthen hb0 (Nat.le_refl _) hb⟩
    · have hfew' : fewB l = false := by simpa using hfew
      have h4 : (s.size : Int) ≤ 400 := by omega
      clear hfew
      go_enter Try.func3, Try.ntmps3
      go_wp2_with (first | (go_at_call 9; ((with_reducible refine (known_any _).mono ?_); rintro e w1 ⟨rfl, hb1⟩)) | (go_at_call 10; ((with_reducible refine (few_any _ _ _ _ l ?f1 ?f2).mono ?_); rotate_right; rintro e w2 ⟨rfl, rfl⟩)))
      case f1 => exact HL.out.low hb1
      case f2 => omega
      go_ret
      exact ⟨rfl, hb1⟩

end Go.Proofs.Ytkiabjhbblmneaa
