import Derived.Test.YtkiabjhbblmneaaEdit5
open Go Go.RowKit Go.Kb Go.Ed
namespace Go.Proofs.Ytkiabjhbblmneaa

def fewB (l : List Ed) : Bool := decide (l.length ≤ 20) && l.all fun x => decide (x.put.size ≤ 9000)
theorem few_of {l : List Ed} (h : fewB l = true) : l.length ≤ 20 ∧ ∀ x ∈ l, x.put.size ≤ 9000 := by
  unfold fewB at h
  simpa using h

set_option maxHeartbeats 400000 in
theorem few_any (w : World) (A : Option Addr) (n c : Nat) (l : List Ed) (hl : RV w 3 A n c (cellsE l)) (h63 : n ≤ 9223372036854775807) :
    Calls Try.prog 10 #[.slice A n c] w (fun e w' => e = .returned (.bool (fewB l)) ∧ w = w') := by
  have HL := Lib.hid hl
  have hlen : l.length = n := by have := hl.len; rw [cellsE_length] at this; omega
  have HN := Lib.hid hlen
  clear hl hlen
  go_enter Try.func10, Try.ntmps10
  go_wp2_with fail
  go_loop [3] (fun i => ∃ k : Nat, k ≤ n ∧ i = .int .i64 k ∧ Hid (∀ j x, j < k → l[j]? = some x → x.put.size ≤ 9000)) (fun i => n - (intOf i).toNat)
  case atStart => exact ⟨0, Nat.zero_le _, rfl, fun j x h => absurd h (by omega)⟩
  case round =>
    obtain ⟨k, hk, rfl, HA⟩ := hrel
    by_cases hlt : k < n
    · obtain ⟨ad, x, rfl, hx, g0, g1, g2⟩ := read3 HL.out k hlt
      have HX := Lib.hid hx
      clear hx g0 g1
      by_cases hbig : 9000 < x.put.size
      · go_wp2_with fail
        go_ret
        have : fewB l = false := by
          cases hf : fewB l with
          | false => rfl
          | true => have := (few_of hf).2 x (List.mem_of_getElem? HX.out); omega
        rw [this]
        exact ⟨rfl, rfl⟩
      · go_wp2_with fail
        refine ⟨⟨k + 1, by omega, by go_num, ?_⟩, by simp [intOf]; omega⟩
        intro j y hj hy
        by_cases hjk : j < k
        · exact HA.out j y hjk hy
        · obtain rfl : j = k := by omega
          have := HX.out.symm.trans hy
          injection this with this
          subst this
          omega
    · go_wp2_with fail
      go_ret
      have : fewB l = decide ((n : Int) ≤ 20) := by
        have ha : (l.all fun x => decide (x.put.size ≤ 9000)) = true := by
          rw [List.all_eq_true]
          intro x hx
          obtain ⟨j, hj, rfl⟩ := List.mem_iff_getElem.1 hx
          have := HN.out
          exact decide_eq_true (HA.out j _ (by omega) (List.getElem?_eq_getElem hj))
        unfold fewB
        rw [ha, Bool.and_true, HN.out]
        exact decide_eq_decide.2 (by omega)
      rw [this]
      exact ⟨rfl, rfl⟩

set_option maxHeartbeats 400000 in
theorem within_any (w : World) (a n : Int) (h0 : 1 ≤ n) (h1 : n ≤ 4000000000) :
    Calls Try.prog 16 #[.int .i64 a, .int .i64 n] w (fun e w' => e = .returned (.int .i64 (wit a n)) ∧ w = w') := by
  have hr := wit_range a n (by omega)
  unfold wit at hr ⊢
  have ha : -n ≤ a.tmod n ∧ a.tmod n < n := by split at hr <;> omega
  clear hr
  obtain ⟨q, hq⟩ : ∃ q, q = a.tmod n := ⟨_, rfl⟩
  rw [← hq] at ha ⊢
  obtain ⟨ha1, ha2⟩ := ha
  go_enter Try.func16, Try.ntmps16
  go_wp2_with fail
  all_goals go_ret; exact ⟨rfl, rfl⟩
theorem within_q (w : World) (a n : Int) (h0 : 1 ≤ n) (h1 : n ≤ 4000000000) :
    Calls Try.prog 16 #[.int .i64 a, .int .i64 n] w (fun e w' => e = .returned (.int .i64 (wit a n)) ∧ w' = w) :=
  (within_any w a n h0 h1).mono fun _ _ ⟨h1, h2⟩ => ⟨h1, h2.symm⟩

end Go.Proofs.Ytkiabjhbblmneaa
