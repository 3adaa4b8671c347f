import Derived.Test.YtkiabjhbblmneaaEdit1
import Derived.Test.YtkiabjhbblmneaaEditSpec
import Derived.LoopTactic
open Go Go.RowKit Go.Kb Go.Ed
namespace Go.Proofs.Ytkiabjhbblmneaa

def AppPost (w : World) (r : List UInt8 × Int) (e : Ending) (w' : World) : Prop := e = .returned (.tuple #[.string ⟨r.1.toArray⟩, .int .i64 r.2]) ∧ Below w.heap.size w w'

set_option maxHeartbeats 800000 in
theorem apply_any (w : World) (s : ByteArray) (A : Option Addr) (n c : Nat) (l : List Ed) (hs : s.size ≤ 20000) (hl : RV w 3 A n c (cellsE l)) (hn : n ≤ 1000) (hp : ∀ x ∈ l, x.put.size ≤ 20000) :
    Calls Try.prog 12 #[.string s, .slice A n c] w (AppPost w (appE s.data.toList l)) := by
  have HL := Lib.hid hl
  have hlen : l.length = n := by have := hl.len; rw [cellsE_length] at this; omega
  have HN := Lib.hid hlen
  have HP := Lib.hid hp
  clear hl hlen hp
  have hs' : s.data.toList.length ≤ 20000 := hs
  go_enter Try.func12, Try.ntmps12
  go_wp2_with (first | (refine wpList_strbytes rfl 9 41 _ rfl 5 Try.underlying9 Try.underlying41 Try.underlying5 _ rfl ?_; intro c1 w1 hR1 hb1 hsz1; have HR1 := Lib.hid hR1; clear hR1 hsz1))
  go_loopw [6, 13] (fun v i wr => ∃ (k : Nat) (bs : List UInt8) (B : Option Addr) (m d : Nat), k ≤ n ∧ i = .int .i64 k ∧ v = .slice B m d ∧ RV wr 1 B m d (bs.map eB) ∧ Below w.heap.size w wr ∧ m ≤ 20000 ∧ Hid (appE s.data.toList l = appE bs (l.drop k))) (fun _ i _ => n - (intOf i).toNat)
  case atStart => exact ⟨0, s.data.toList, _, _, _, Nat.zero_le _, rfl, rfl, HR1.out, hb1, hs, rfl⟩
  case round =>
    obtain ⟨k, bs, B, m, d, hk, rfl, rfl, hR, hb, hm, HA⟩ := hrel
    have HR := Lib.hid hR
    have hmc := hR.cap
    clear hR hb1 HR1
    by_cases hlt : k < n
    · obtain ⟨ad, x, rfl, hx, g0, g1, g2⟩ := read3 (HL.out.low hb) k hlt
      have HX := Lib.hid hx
      clear hx
      have hxp : x.put.size ≤ 20000 := HP.out x (List.mem_of_getElem? HX.out)
      go_wp2_with (first | (refine wpList_strbytes rfl 9 41 _ rfl 5 Try.underlying9 Try.underlying41 Try.underlying5 _ rfl ?_; intro c2 w2 hR2 hb2 hsz2; have HR2 := Lib.hid hR2; clear hR2 hsz2) | (go_at_call 17; ((with_reducible refine (replaced_any _ _ _ _ _ _ _ (bs.map eB) (x.put.data.toList.map eB) _ _ ?r1 ?r2 ?a1 ?a2 ?a3 ?a4 ?a5).mono ?_); rotate_right; rintro e w3 ⟨v3, k3, rfl, hown3, hb3⟩; rw [← step_cells] at hown3; obtain ⟨A3, c3, rfl, hR3, -⟩ := own_rv hown3 (eB_one _); have HR3 := Lib.hid hR3; clear hR3 hown3)))
      all_goals have hml : bs.length = m := by simpa using HR.out.len
      case r1 => exact (HR.out.low (balloc (Below.refl _ _) (Nat.le_refl _) _)).low hb2
      case r2 => exact (by simpa using HR2.out)
      case roundEnd =>
        have hlong : ¬ (stepE bs x).length > 8000 := by have := HR3.out.len; simp at this; omega
        refine ⟨⟨k + 1, stepE bs x, _, _, _, by omega, by go_num, rfl, HR3.out, bthen (bthen (balloc hb (Nat.le_refl _) _) (Nat.le_refl _) hb2) (Nat.le_refl _) hb3, by omega, ?_⟩, by simp [intOf]; omega⟩
        show _ = _
        rw [HA.out, app_next HX.out bs (by omega) hlong]
      all_goals first | omega | skip
      all_goals go_ret2
      all_goals first
        | exact ⟨(by rw [HA.out, app_bad HX.out bs (by omega)]; rfl), balloc hb (Nat.le_refl _) _⟩
        | exact ⟨(by rw [HA.out, app_long HX.out bs (by omega) (by have := HR3.out.len; simp at this; omega)]; rfl), bthen (bthen (balloc hb (Nat.le_refl _) _) (Nat.le_refl _) hb2) (Nat.le_refl _) hb3⟩
    · have hend : appE bs (l.drop k) = (bs, 0) := app_end (by have := HN.out; omega) bs
      have hst := run_bytes_str (P := Try.prog) (w := wr) 41 9 5 Try.underlying41 Try.underlying5 Try.underlying9 HR.out
      have HE := Lib.hid hend
      clear hend
      go_wp2_with fail
      go_ret2
      exact ⟨(by rw [HA.out, HE.out]; rfl), hb⟩

end Go.Proofs.Ytkiabjhbblmneaa
