import Derived.Test.YtkiabjhbblmneaaEdit9
import Derived.Deep.RegionWith
import Derived.Deep.DeepCutAuto
import Derived.Deep.RegionHeld3
open Go Go.RowKit Go.Kb Go.Ed
namespace Go.Proofs.Ytkiabjhbblmneaa

theorem bundrew {B : Nat} {w W : World} (h : Below B w.drew W) : Below B w W := ⟨h.os, h.tape, h.output, h.size, h.block⟩
theorem bcell {W w1 : World} (hb : Below W.heap.size W w1) : (∀ b o, b < W.heap.size → w1.cell? ⟨b, o, none⟩ = W.cell? ⟨b, o, none⟩) ∧ (∀ b o, b < W.heap.size → w1.frozen? ⟨b, o, none⟩ = W.frozen? ⟨b, o, none⟩) :=
  ⟨fun _ _ h => hb.cell h, fun _ _ h => hb.frozen h⟩

theorem run_neq_ed (x y : Ed) (w : World) : (binOp .neq 36 (.agg #[.int .i64 x.fr, .int .i64 x.to, .string x.put]) (.agg #[.int .i64 y.fr, .int .i64 y.to, .string y.put])).run Try.prog w = .ok (.bool (!edB x y)) w := by
  have h := run_eq_ed x y w
  rw [run_eql_struct] at h
  rw [run_neq_struct]
  cases hr : (Op.equalIn 10000 36 (.agg #[.int .i64 x.fr, .int .i64 x.to, .string x.put]) (.agg #[.int .i64 y.fr, .int .i64 y.to, .string y.put])).run Try.prog w with
  | ok b w1 =>
    rw [hr] at h
    simp only [Result.andThen] at h ⊢
    injection h with h1 h2
    injection h1 with h1
    rw [h1, h2]
  | halt h1 w1 =>
    rw [hr] at h
    simp only [Result.andThen] at h
    cases h

theorem between_self (w : World) (p : ByteArray) (hp : p.size ≤ 900) :
    Calls Try.prog 14 #[.string p, .string p] w (fun e w' => e = .returned (.agg #[.int .i64 p.size, .int .i64 p.size, .string ⟨#[]⟩]) ∧ Below w.heap.size w w') := by
  refine (between_any w p p (by omega) (by omega)).mono ?_
  rintro e w' ⟨he, hb⟩
  rw [bet_self] at he
  exact ⟨he, hb⟩

theorem rv3 {w : World} {g : Nat} {u0 u1 u2 : Value} (h0 : w.cell? ⟨g, 0, none⟩ = some u0) (h1 : w.cell? ⟨g, 1, none⟩ = some u1) (h2 : w.cell? ⟨g, 2, none⟩ = some u2) (o : ∀ u ∈ [u0, u1, u2], u.oneCell' = true) : RV w 3 (some ⟨g, 0, none⟩) 1 1 [u0, u1, u2] :=
  ⟨rfl, Nat.le_refl _, (fun e => by cases e), (fun ad e j u hu => by
    injection e with e
    subst e
    have ha : (⟨g, 0, none⟩ : Addr).add j = ⟨g, j, none⟩ := by unfold Addr.add; split <;> simp_all
    rw [ha]
    match j, hu with
    | 0, hu => simp at hu; rw [h0, hu]
    | 1, hu => simp at hu; rw [h1, hu]
    | 2, hu => simp at hu; rw [h2, hu]
    | j + 3, hu => simp at hu), o⟩

theorem apply_betw (w : World) (p q : ByteArray) (A : Option Addr) (c : Nat) (hp : p.size ≤ 900) (hq : q.size ≤ 900) (hl : RV w 3 A 1 c [.int .i64 (betw p q).fr, .int .i64 (betw p q).to, .string (betw p q).put]) :
    Calls Try.prog 12 #[.string p, .slice A 1 c] w (fun e w' => e = .returned (.tuple #[.string q, .int .i64 0]) ∧ Below w.heap.size w w') := by
  refine (apply_any w p A 1 c [betw p q] (by omega) hl (by omega) ?_).mono ?_
  · intro x hx
    simp only [List.mem_singleton] at hx
    subst hx
    have := bet_put_size p q
    omega
  · rintro e w' ⟨he, hb⟩
    rw [bet_apply p q [] (by omega)] at he
    exact ⟨he, hb⟩

set_option maxRecDepth 100000 in
set_option maxHeartbeats 3200000 in
theorem between_walk (a b both : ByteArray) (w : World) (h1 : a.size ≤ 140737488351232) (h2 : b.size ≤ 140737488351232) (h3 : both.size ≤ 140737488351232) :
    Calls Try.prog 4 #[.string a, .string b, .string both] w (Yes w) := by
  by_cases hbig : 300 < a.size ∨ 300 < b.size ∨ 300 < both.size
  · go_enter Try.func4, Try.ntmps4
    go_wp2_with (first | (go_at_call 9; ((with_reducible refine (known_any _).mono ?_); rintro e w1 ⟨rfl, hb1⟩)))
    all_goals first
      | (go_ret; exact ⟨rfl, hb1⟩)
      | (exfalso; omega)
  · have g1 : (a.size : Int) ≤ 300 := by omega
    have g2 : (b.size : Int) ≤ 300 := by omega
    have g3 : (both.size : Int) ≤ 300 := by omega
    clear hbig
    go_enter Try.func4, Try.ntmps4
    go_wp2_with (first | (go_at_call 9; ((with_reducible refine (known_any _).mono ?_); rintro e w1 ⟨rfl, hb1⟩)))
    have hb0 : Below w.heap.size w (w1.alloc (.cells #[.string a, .string b, .string (both ++ a ++ both), .string (both ++ b ++ both), .string (a ++ both), .string (b ++ both), .string both, .string both] 33)) := balloc hb1 (Nat.le_refl _) _
    have hps : ∀ k, k < 4 → ∃ p q : ByteArray, p.size ≤ 900 ∧ q.size ≤ 900 ∧ (w1.alloc (.cells #[.string a, .string b, .string (both ++ a ++ both), .string (both ++ b ++ both), .string (a ++ both), .string (b ++ both), .string both, .string both] 33)).cell? ⟨w1.heap.size, k * 2, none⟩ = some (.string p) ∧ (w1.alloc (.cells #[.string a, .string b, .string (both ++ a ++ both), .string (both ++ b ++ both), .string (a ++ both), .string (b ++ both), .string both, .string both] 33)).cell? ⟨w1.heap.size, k * 2 + 1, none⟩ = some (.string q) := by
      intro k hk
      have hk' : k = 0 ∨ k = 1 ∨ k = 2 ∨ k = 3 := by omega
      rcases hk' with rfl | rfl | rfl | rfl
      · exact ⟨a, b, by omega, by omega, by simp, by simp⟩
      · exact ⟨both ++ a ++ both, both ++ b ++ both, by simp; omega, by simp; omega, by simp, by simp⟩
      · exact ⟨a ++ both, b ++ both, by simp; omega, by simp; omega, by simp, by simp⟩
      · exact ⟨both, both, by omega, by omega, by simp, by simp⟩
    generalize w1.alloc (.cells #[.string a, .string b, .string (both ++ a ++ both), .string (both ++ b ++ both), .string (a ++ both), .string (b ++ both), .string both, .string both] 33) = W0 at *
    generalize w1.heap.size = g at *
    have HPS := Lib.hid hps
    clear hps hb1
    go_loopw [8] (fun i wr => ∃ k : Nat, k ≤ 4 ∧ i = .int .i64 k ∧ Below W0.heap.size W0 wr) (fun i _ => 4 - (intOf i).toNat)
    case atStart => exact ⟨0, by omega, rfl, Below.refl _ _⟩
    case round =>
      obtain ⟨k, hk, rfl, hb⟩ := hrel
      by_cases hk4 : k < 4
      · obtain ⟨p, q, hp, hq, i1, i2⟩ := HPS.out k hk4
        have j1 : wr.cell? ⟨g, k * 2, none⟩ = some (.string p) := (hb.cell (World.block_lt_of_cell? _ _ i1)).trans i1
        have j2 : wr.cell? ⟨g, k * 2 + 1, none⟩ = some (.string q) := (hb.cell (World.block_lt_of_cell? _ _ i2)).trans i2
        have hg : g < wr.heap.size := World.block_lt_of_cell? _ _ j1
        clear i1 i2
        go_upto_region 9 with fail
        go_cut [9] (fun s9 wx => ∃ h : Nat, s9 = .pointer (some ⟨h, 0, none⟩) ∧ wx.cell? ⟨h, 0, none⟩ = some (.int .i64 (betw p q).fr) ∧ wx.cell? ⟨h, 1, none⟩ = some (.int .i64 (betw p q).to) ∧ wx.cell? ⟨h, 2, none⟩ = some (.string (betw p q).put) ∧ Below wr.heap.size wr wx)
        case first =>
          go_region_with (go_at_call 14; ((with_reducible refine (between_any _ _ _ (by omega) (by omega)).mono ?_); rintro e w4 ⟨rfl, hb4⟩; obtain ⟨hc4, hf4⟩ := bcell hb4))
          all_goals (go_wp2_with fail; go_meet)
          all_goals first
            | exact ⟨w4.heap.size, rfl, (by simp), (by simp), (by simp), balloc (bundrew hb4) (Nat.le_refl _) _⟩
            | (refine ⟨wr.heap.size, rfl, ?_, ?_, ?_, ?_⟩
               · go_simp
               · go_simp
               · go_simp
               · exact (((bthen (bdrew (balloc (Below.refl _ wr) (Nat.le_refl _) _)) (Nat.le_refl _) hb4).setCell (Nat.le_refl _) _).setCell (Nat.le_refl _) _).setCell (Nat.le_refl _) _)
        case rest =>
          obtain ⟨wx, rfl⟩ : ∃ wx : World, wx = wc := ⟨_, rfl⟩
          obtain ⟨h, rfl, x0, x1, x2, hbx⟩ := hcut
          have k1 : wx.cell? ⟨g, k * 2, none⟩ = some (.string p) := (hbx.cell hg).trans j1
          have k2 : wx.cell? ⟨g, k * 2 + 1, none⟩ = some (.string q) := (hbx.cell hg).trans j2
          have hg' : g < wx.heap.size := World.block_lt_of_cell? _ _ k1
          have hh : h < wx.heap.size := World.block_lt_of_cell? _ _ x0
          clear j1 j2
          go_upto_region 10 with fail
          go_cut [10, 11] (fun s10 s11 wy => s10 = .string q ∧ s11 = .int .i64 0 ∧ Below wx.heap.size wx wy)
          case first =>
            go_region_with (go_at_call 12; ((with_reducible refine (apply_betw _ _ q _ _ (by omega) (by omega) (rv3 (by go_simp) (by go_simp) (by go_simp) (by simp [Value.oneCell']))).mono ?_); rintro e w5 ⟨rfl, hb5⟩))
            all_goals (go_wp2_with fail; go_meet)
            all_goals exact ⟨rfl, rfl, (by first | exact bundrew (bthen (bdrew (balloc (Below.refl _ _) (Nat.le_refl _) _)) (Nat.le_refl _) hb5) | exact bthen (bdrew (balloc (Below.refl _ _) (Nat.le_refl _) _)) (Nat.le_refl _) hb5 | exact bthen (balloc (bdrew (Below.refl _ _)) (Nat.le_refl _) _) (Nat.le_refl _) hb5)⟩
          case rest =>
            obtain ⟨wy, rfl⟩ : ∃ wy : World, wy = wc := ⟨_, rfl⟩
            obtain ⟨rfl, rfl, hby⟩ := hcut
            have m1 : wy.cell? ⟨g, k * 2, none⟩ = some (.string p) := (hby.cell hg').trans k1
            have m2 : wy.cell? ⟨g, k * 2 + 1, none⟩ = some (.string q) := (hby.cell hg').trans k2
            have y0 : wy.cell? ⟨h, 0, none⟩ = some (.int .i64 (betw p q).fr) := (hby.cell hh).trans x0
            have y1 : wy.cell? ⟨h, 1, none⟩ = some (.int .i64 (betw p q).to) := (hby.cell hh).trans x1
            have y2 : wy.cell? ⟨h, 2, none⟩ = some (.string (betw p q).put) := (hby.cell hh).trans x2
            have hgy : g < wy.heap.size := World.block_lt_of_cell? _ _ m1
            have hhy : h < wy.heap.size := World.block_lt_of_cell? _ _ y0
            clear k1 k2 x0 x1 x2 hg hg' hh
            have hbw := fun w' => run_neq_ed (betw p q) (betw p q) w'
            rw [edB_refl] at hbw
            go_upto_region 11 with fail
            go_cut [104] (fun s104 wz => s104 = .bool false ∧ Below wy.heap.size wy wz)
            case first =>
              go_region_held3 (fun w' => w'.cell? ⟨g, k * 2, none⟩ = some (.string p) ∧ w'.cell? ⟨g, k * 2 + 1, none⟩ = some (.string q) ∧ w'.cell? ⟨h, 0, none⟩ = some (.int .i64 (betw p q).fr) ∧ w'.cell? ⟨h, 1, none⟩ = some (.int .i64 (betw p q).to) ∧ w'.cell? ⟨h, 2, none⟩ = some (.string (betw p q).put) ∧ Below wy.heap.size wy w')
                (first | exact ⟨m1, m2, y0, y1, y2, bdrew (Below.refl _ _)⟩ | (go_split_ands; refine ⟨?_, ?_, ?_, ?_, ?_, bthen (by assumption) (Nat.le_refl _) hb6⟩ <;> (exact (hb6.cell (World.block_lt_of_cell? _ _ (by assumption))).trans (by assumption))) | go_keep)
                (first | (go_at_call 15; ((with_reducible refine (rbetween_any _ _ _ (by omega) (by omega)).mono ?_); rintro e w6 ⟨rfl, hb6⟩)))
              go_wp2_with fail
              go_meet
              exact ⟨rfl, bundrew hb6⟩
            case rest =>
              obtain ⟨wz, rfl⟩ : ∃ wz : World, wz = wc := ⟨_, rfl⟩
              obtain ⟨rfl, hbz⟩ := hcut
              clear m1 m2 y0 y1 y2 hbw
              go_wp2_with fail
              exact ⟨⟨k + 1, by omega, by go_num, bthen (bthen (bthen hb (Nat.le_refl _) hbx) (Nat.le_refl _) hby) (Nat.le_refl _) hbz⟩, by simp [intOf]; omega⟩
      · obtain rfl : k = 4 := by omega
        go_wp2_with (first | (go_at_call 14; ((with_reducible refine (between_self _ _ (by omega)).mono ?_); rintro e w7 ⟨rfl, hb7⟩)))
        go_ret
        exact ⟨rfl, balloc (bthen (bthen hb0 (Nat.le_refl _) hb) (Nat.le_refl _) hb7) (by have := hb0.size; have := hb.size; have := hb7.size; omega) _⟩

end Go.Proofs.Ytkiabjhbblmneaa
