import Derived.Test.YtkiabjhbblmneaaEdit2
import Derived.Deep.QuietTactic
import Derived.BigQuiet
open Go Go.RowKit Go.Kb Go.Ed
namespace Go.Proofs.Ytkiabjhbblmneaa

set_option maxHeartbeats 800000 in
theorem rapply_any (w : World) (s : ByteArray) (A : Option Addr) (n c : Nat) (l : List Ed) (hs : s.size ≤ 20000) (hl : RV w 3 A n c (cellsE l)) (hn : n ≤ 1000) (hp : ∀ x ∈ l, x.put.size ≤ 20000) :
    Calls Try.prog 13 #[.string s, .slice A n c] w (AppPost w (appE s.data.toList l)) := by
  have HL := Lib.hid hl
  have hlen : l.length = n := by have := hl.len; rw [cellsE_length] at this; omega
  have HN := Lib.hid hlen
  have HP := Lib.hid hp
  clear hl hlen hp
  go_enter Try.func13, Try.ntmps13
  go_wp2_with fail
  go_loopw [0, 6] (fun v i wr => ∃ (k : Nat) (t : ByteArray), k ≤ n ∧ i = .int .i64 k ∧ v = .string t ∧ Below w.heap.size w wr ∧ t.size ≤ 20000 ∧ Hid (appE s.data.toList l = appE t.data.toList (l.drop k))) (fun _ i _ => n - (intOf i).toNat)
  case atStart => exact ⟨0, s, Nat.zero_le _, rfl, rfl, Below.refl _ _, hs, rfl⟩
  case round =>
    obtain ⟨k, t, hk, rfl, rfl, hb, hm, HA⟩ := hrel
    by_cases hlt : k < n
    · obtain ⟨ad, x, rfl, hx, g0, g1, g2⟩ := read3 (HL.out.low hb) k hlt
      have HX := Lib.hid hx
      clear hx
      have hxp : x.put.size ≤ 20000 := HP.out x (List.mem_of_getElem? HX.out)
      by_cases hbad : x.fr < 0 ∨ x.to < x.fr ∨ x.to > t.size
      · go_wp2_with fail
        all_goals first
          | (go_ret2; exact ⟨(by rw [HA.out, app_bad HX.out _ hbad]; rfl), balloc hb (Nat.le_refl _) _⟩)
          | (exfalso; omega)
      · have b1 : 0 ≤ x.fr := by omega
        have b2 : x.fr ≤ x.to := by omega
        have b3 : x.to ≤ t.size := by omega
        have HB := Lib.hid hbad
        clear hbad
        go_wp2_with fail
        go_quiet (fail)
        go_wp2_with fail
        all_goals have hsz := stepS_size t x
        all_goals have hw := bdrewN (balloc hb (Nat.le_refl _) (.cells #[.int .i64 x.fr, .int .i64 x.to, .string x.put] 36)) nq
        case roundEnd =>
          have hshort : ¬ (stepE t.data.toList x).length > 8000 := by rw [stepE_len]; omega
          exact ⟨⟨k + 1, stepS t x, by omega, by go_num, rfl, hw, by omega, (show _ = _ from by rw [HA.out, app_next HX.out _ HB.out hshort, stepS_list])⟩, by simp [intOf]; omega⟩
        · go_ret2
          have hlong : (stepE t.data.toList x).length > 8000 := by rw [stepE_len]; omega
          exact ⟨(by rw [HA.out, app_long HX.out _ HB.out hlong]; rfl), hw⟩
    · go_wp2_with fail
      go_ret2
      exact ⟨(by rw [HA.out, app_end (by have := HN.out; omega)]; rfl), hb⟩

end Go.Proofs.Ytkiabjhbblmneaa
