import Derived.Test.YtkiabjhbblmneaaEdit6
import Derived.BigRegion
import Derived.RegionTactic
open Go Go.RowKit Go.Kb Go.Ed
namespace Go.Proofs.Ytkiabjhbblmneaa

theorem info_ed : (Try.prog.info? 36).map (fun i => (i.zero, i.size, i.bytes)) = some (some (.agg #[.int .i64 0, .int .i64 0, .string ⟨#[]⟩]), 3, 32) := by kernel_rfl

theorem near1_eq {q u v : Int} {x : Ed} {z : Nat} (h1 : wit x.fr (q + 1) = u) (h2 : wit x.to (q + 1) = v) (hz : z = min x.put.size 50) : near1 q x = ⟨min u v, max u v, x.put.extract 0 z⟩ := by
  unfold near1
  rw [h1, h2, hz]
theorem near2_eq {q u v : Int} {x : Ed} {z : Nat} (h1 : wit x.fr (q + 1) = u) (h2 : wit x.to (q + 1) = v) (hz : z = min x.put.size 50) : near2 q x = q - (max u v - min u v) + z := by
  unfold near2
  rw [near1_eq h1 h2 hz]
  simp only
  have : (x.put.extract 0 z).size = z := by
    rw [← bl_len, bl_extract, List.length_drop, List.length_take, bl_len]
    omega
  rw [this]

set_option maxHeartbeats 1600000 in
theorem near_any (w : World) (s : ByteArray) (A : Option Addr) (n c : Nat) (l : List Ed) (hs : s.size ≤ 20000) (hl : RV w 3 A n c (cellsE l)) (_h63 : n ≤ 9223372036854775807) :
    Calls Try.prog 11 #[.string s, .slice A n c] w (fun e w' => ∃ v k, e = .returned v ∧ w'.ownsRow w.heap.size 36 3 v k (cellsE (nearE 8 s.size l)) ∧ Below w.heap.size w w') := by
  obtain ⟨i0, hi, hz0, hz1, hz2⟩ := info_parts info_ed
  have HL := Lib.hid hl
  have hlen : l.length = n := by have := hl.len; rw [cellsE_length] at this; omega
  have HN := Lib.hid hlen
  clear hl hlen
  go_enter Try.func11, Try.ntmps11
  go_wp2_with fail
  go_loopw [5, 6, 7] (fun v m i wr => ∃ (k : Nat) (q : Int) (acc : List Ed), k ≤ n ∧ k ≤ 8 ∧ i = .int .i64 k ∧ m = .int .i64 q ∧ 0 ≤ q ∧ q ≤ 20000 + 50 * k ∧ acc.length = k ∧ Hid (nearE 8 s.size l = acc ++ nearE (8 - k) q (l.drop k)) ∧ wr.ownsRow w.heap.size 36 3 v k (cellsE acc) ∧ Below w.heap.size w wr) (fun _ _ i _ => n - (intOf i).toNat)
  case atStart => exact ⟨0, s.size, [], Nat.zero_le _, by omega, rfl, rfl, by omega, by omega, rfl, rfl, World.ownsRow_nil _ _ _ _, Below.refl _ _⟩
  case round =>
    obtain ⟨k, q, acc, hk, hk8, rfl, rfl, hq0, hq1, hacc, HA, hown, hb⟩ := hrel
    have HO := Lib.hid hown
    clear hown
    by_cases hlt : k < n
    · by_cases h8 : k < 8
      · obtain ⟨ad, x, rfl, hx, g0, g1, g2⟩ := read3 (HL.out.low hb) k hlt
        have HX := Lib.hid hx
        clear hx
        have e1 : IntKind.i64.wrap (q + 1) = q + 1 := IntWalk.i64_in _ (by omega)
        go_wp2_with fail
        go_quiet ((go_at_call 16; exact Calls.quiet_of_same (within_q _ _ _ (by omega) (by omega))))
        go_wp2_with fail
        clear e1
        generalize hq1 : wit x.fr (q + 1) = u
        generalize hq2 : wit x.to (q + 1) = v
        have hu := wit_range x.fr (q + 1) (by omega)
        have hv := wit_range x.to (q + 1) (by omega)
        rw [hq1] at hu
        rw [hq2] at hv
        have HQ1 := Lib.hid hq1
        have HQ2 := Lib.hid hq2
        clear hq1 hq2
        obtain ⟨z, hz⟩ : ∃ z : Nat, z = min x.put.size 50 := ⟨_, rfl⟩
        have hmn : min (x.put.size : Int) 50 = (z : Int) := by omega
        have zz1 : z ≤ x.put.size := by omega
        have zz50 : z ≤ 50 := by omega
        have HZ := Lib.hid hz
        clear hz
        have g2' : (wr.drewN nq).cell? ⟨(ad.add (k * 3)).block, (ad.add (k * 3)).off + 2, none⟩ = some (.string x.put) := g2
        have hb' : Below w.heap.size w (wr.drewN nq) := bdrewN hb nq
        have HO' : Hid ((wr.drewN nq).ownsRow w.heap.size 36 3 u5 k (cellsE acc)) := HO.out
        clear g0 g1 g2 hb HO
        generalize wr.drewN nq = wq at *
        have g3 := fun o => cell_alloc' g2' o
        go_region
        clear g2' g3
        go_wp2_with (first | (at_builtin; go_must (refine wpList_ap rfl _ _ 22 rfl w.heap.size 36 i0 _ 3 32 Try.underlying22 hi hz0 hz1 hz2 rfl (by decide) _ rfl _ _ _ rfl k (cellsE acc) ?d0 [.int .i64 (min u v), .int .i64 (max u v), .string (x.put.extract 0 z)] ?d1 ?d2 ?d3 ?d4 ?_); rotate_right; intro A2 c2 w2 hown2 hg2))
        case d0 => exact (HO'.out.alloc _).alloc _
        case d1 => exact rv_at (cs := [.int .i64 (min u v), .int .i64 (max u v), .string (x.put.extract 0 z)]) (t := 36) (fr := (0, 0)) (by have := heap_alloc_new (wq.alloc (.cells #[.int .i64 (min u v), .int .i64 (max u v), .string (x.put.extract 0 z)] 36)) (.cells #[.int .i64 (min u v), .int .i64 (max u v), .string (x.put.extract 0 z)] 36); rw [World.size_alloc] at this; exact this) (by simp [Value.oneCell']) 3 1 rfl 1 (Nat.le_refl _)
        case d2 => simp only [maxLen]; omega
        case d3 => omega
        case d4 => have := hb'.size; simp; omega
        case roundEnd =>
          have e1 := near1_eq HQ1.out HQ2.out HZ.out
          have e2 := near2_eq HQ1.out HQ2.out HZ.out
          refine ⟨⟨k + 1, _, acc ++ [near1 q x], by omega, by omega, by go_num, rfl, by omega, by omega, by simp [hacc], ?_, ?_, ?_⟩, by simp [intOf]; omega⟩
          · show _ = _
            rw [HA.out, show 8 - k = (8 - (k + 1)) + 1 by omega, near_next _ _ _ _ _ HX.out, e2, List.append_assoc]
            rfl
          · rw [cellsE_append, e1]
            exact hown2
          · exact (bdrew ((hb'.alloc hb'.size _).alloc (by have := hb'.size; simp; omega) _)).grown hg2 (by have := hb'.size; simp; omega) (fun j hj => (HO'.out.lt j hj).1)
      · go_wp2_with fail
        go_ret
        exact ⟨_, k, rfl, (by have := HA.out; rw [near_end _ _ _ _ (.inl (by omega)), List.append_nil] at this; rw [this]; exact HO.out), hb⟩
    · go_wp2_with fail
      go_ret
      exact ⟨_, k, rfl, (by have := HA.out; rw [near_end _ _ _ _ (.inr (by have := HN.out; omega)), List.append_nil] at this; rw [this]; exact HO.out), hb⟩

end Go.Proofs.Ytkiabjhbblmneaa
