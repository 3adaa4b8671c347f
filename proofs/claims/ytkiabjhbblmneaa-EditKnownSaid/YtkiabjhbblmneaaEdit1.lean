import Derived.Test.YtkiabjhbblmneaaProg
import Derived.Test.YtkiabjhbblmneaaBase
open Go Go.RowKit Go.Kb
namespace Go.Proofs.Ytkiabjhbblmneaa

theorem info_u8 : (Try.prog.info? 5).map (fun i => (i.zero, i.size, i.bytes)) = some (some (.int .u8 0), 1, 1) := by kernel_rfl

set_option maxHeartbeats 400000 in
theorem replaced_any (w : World) (A B : Option Addr) (n c m d : Nat) (L M : List Value) (i j : Int) (hL : RV w 1 A n c L) (hM : RV w 1 B m d M) (h1 : 0 ≤ i) (h2 : i ≤ j) (h3 : j ≤ n) (h5 : n ≤ 1000000) (h6 : m ≤ 1000000) :
    Calls Try.prog 17 #[.slice A n c, .int .i64 i, .int .i64 j, .slice B m d] w (fun e w' => ∃ v k, e = .returned v ∧ w'.ownsRow w.heap.size 5 1 v k (L.take i.toNat ++ M ++ L.drop j.toNat) ∧ Below w.heap.size w w') := by
  obtain ⟨i0, hi, hz0, hz1, hz2⟩ := info_parts info_u8
  have h4 := hL.cap
  have HL := Lib.hid hL
  have HM := Lib.hid hM
  clear hL hM
  have tok1 : True := trivial
  have tok2 : True := trivial
  have tok3 : True := trivial
  go_enter Try.func17, Try.ntmps17
  go_wp2_with (first | (at_make; refine wpList_make_own _ rfl _ _ 41 rfl w.heap.size 5 i0 _ 1 Try.underlying41 hi hz0 hz1 .i64 .i64 _ (n - (j.toNat - i.toNat) + m) rfl rfl ?c1 ?c2 ?c3 ?c4 ?_; rotate_right; intro w1 hown1 hg1; have hb1 := below_of_grown hg1; clear hg1) | (at_builtin; have _t := tok1; refine wpList_ap rfl _ _ 41 rfl w.heap.size 5 i0 _ 1 1 Try.underlying41 hi hz0 hz1 hz2 rfl (by decide) _ rfl _ _ _ rfl 0 [] hown1 (L.take (i.toNat * 1)) ?d1 ?d2 ?d3 ?d4 ?_; rotate_right; intro A2 c2 w2 hown2 hg2; have hb2 := hb1.grown hg2 hb1.size (fun k hk => (hown1.lt k hk).1); clear hg2; simp only [Nat.zero_add, List.nil_append] at hown2; clear tok1) | (at_builtin; have _t := tok2; refine wpList_ap rfl _ _ 41 rfl w.heap.size 5 i0 _ 1 1 Try.underlying41 hi hz0 hz1 hz2 rfl (by decide) _ rfl _ _ _ rfl i.toNat _ hown2 M ?e1 ?e2 ?e3 ?e4 ?_; rotate_right; intro A3 c3 w3 hown3 hg3; have hb3 := hb2.grown hg3 hb2.size (fun k hk => (hown2.lt k hk).1); clear hg3; clear tok2) | (at_builtin; have _t := tok3; refine wpList_ap rfl _ _ 41 rfl w.heap.size 5 i0 _ 1 1 Try.underlying41 hi hz0 hz1 hz2 rfl (by decide) _ rfl _ _ _ rfl (i.toNat + m) _ hown3 (L.drop (j.toNat * 1)) ?f1 ?f2 ?f3 ?f4 ?_; rotate_right; intro A4 c4 w4 hown4 hg4; have hb4 := hb3.grown hg4 hb3.size (fun k hk => (hown3.lt k hk).1); clear hg4; clear tok3))
  case f1.inl => exact (by simpa using (HL.out.low hb3).drop j.toNat 0 (by omega) A (fun ad _ => .inl (by omega)) (fun _ => ⟨by omega, rfl⟩))
  case f1.inr =>
    have hh := HL.out.low hb3
    exact (by simpa using hh.drop j.toNat (c - j.toNat) (by omega) (Option.map (fun x => x.add j.toNat) A) (fun ad e => .inr (by simp [e])) (fun e => by
      have e' : A = none := by simpa using e
      have := hh.nil e'
      omega))
  case e1 => exact HM.out.low hb2
  case d1 => exact (HL.out.low hb1).take i.toNat i.toNat (by omega) (Nat.le_refl _) (fun e => by have := (HL.out.nil e).1; omega)
  case c2 => rw [hz2]; omega
  case inl => go_ret; exact ⟨_, rfl, ⟨_, by simpa using hown4⟩, hb4⟩
  case inr => go_ret; exact ⟨_, rfl, ⟨_, by simpa using hown4⟩, hb4⟩
  all_goals first | (simp only [maxLen]; omega) | omega | exact hb1.size | exact hb2.size | exact hb3.size

end Go.Proofs.Ytkiabjhbblmneaa
