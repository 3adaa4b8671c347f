import Derived.Test.YtkiabjhbblmneaaEdit4
open Go Go.RowKit Go.Kb Go.Ed
namespace Go.Proofs.Ytkiabjhbblmneaa

set_option maxHeartbeats 3200000 in
theorem rbetween_any (w : World) (a b : ByteArray) (ha : a.size ≤ 20000) (hb : b.size ≤ 20000) :
    Calls Try.prog 15 #[.string a, .string b] w (EdPost w (betw a b)) := by
  have hbn := betN_le a b
  go_enter Try.func15, Try.ntmps15
  go_wp2_with fail
  go_loopw [5] (fun v wr => ∃ i : Nat, i ≤ a.size ∧ i ≤ b.size ∧ v = .int .i64 i ∧ Hid (CP a.data.toList b.data.toList i) ∧ ∃ q, wr = (w.alloc (.cells #[.int .i64 0, .int .i64 0, .string ⟨#[]⟩] 36)).drewN q) (fun i _ => a.size - (intOf i).toNat)
  case atStart => exact ⟨0, Nat.zero_le _, Nat.zero_le _, rfl, CP_zero _ _, 0, rfl⟩
  case round =>
    obtain ⟨i, hia, hib, rfl, HC, q, rfl⟩ := hrel
    by_cases hgo : ∃ h1 : i < a.size, ∃ h2 : i < b.size, a[i] = b[i]
    · obtain ⟨h1, h2, he⟩ := hgo
      have HE := Lib.hid he
      have heq : ((a[i].toNat : Int) == (b[i].toNat : Int)) = true := by simp [he]
      clear he
      have hm1 : decide (i < a.size) = true := decide_eq_true h1
      have hm2 : decide (i < b.size) = true := decide_eq_true h2
      go_wp2_with fail
      go_quiet (fail)
      go_wp2_with fail
      exact ⟨⟨i + 1, by omega, by omega, by go_num, CP_next HC.out a[i] (bl_get a i h1) (by rw [HE.out]; exact bl_get b i h2), _, rfl⟩, by simp [intOf]; omega⟩
    · have hn : betN a b = i := by
        by_cases h1 : i < a.size
        · by_cases h2 : i < b.size
          · exact CP_ne HC.out a[i] b[i] (bl_get a i h1) (bl_get b i h2) (fun h => hgo ⟨h1, h2, h⟩)
          · exact CP_end HC.out (.inr (by rw [bl_len]; omega))
        · exact CP_end HC.out (.inl (by rw [bl_len]; omega))
      have HN := Lib.hid hn
      clear hn
      have hcase : (∃ h1 : i < a.size, ∃ h2 : i < b.size, decide (i < a.size) = true ∧ decide (i < b.size) = true ∧ ((a[i].toNat : Int) == (b[i].toNat : Int)) = false) ∨ (decide (i < a.size) = true ∧ decide (i < b.size) = false) ∨ decide (i < a.size) = false := by
        by_cases h1 : i < a.size
        · by_cases h2 : i < b.size
          · refine .inl ⟨h1, h2, decide_eq_true h1, decide_eq_true h2, ?_⟩
            rw [beq_eq_false_iff_ne]
            intro hh
            exact hgo ⟨h1, h2, UInt8.toNat_inj.1 (by omega)⟩
          · exact .inr (.inl ⟨decide_eq_true h1, decide_eq_false h2⟩)
        · exact .inr (.inr (decide_eq_false h1))
      clear hgo
      rcases hcase with ⟨h1, h2, hm1, hm2, hne⟩ | ⟨hm1, hm2⟩ | hm1
      all_goals
        go_wp2_with fail
        go_quiet (fail)
        go_wp2_with fail
      all_goals try clear hne h1 h2
      all_goals try clear hm2
      all_goals clear hm1
      all_goals
        go_loopw [6, 7] (fun v u wr => ∃ k : Nat, k + i ≤ a.size ∧ k + i ≤ b.size ∧ v = .int .i64 ((a.size - k : Nat) : Int) ∧ u = .int .i64 ((b.size - k : Nat) : Int) ∧ Hid (CP a.data.toList.reverse b.data.toList.reverse k) ∧ ∃ q, wr = (w.alloc (.cells #[.int .i64 0, .int .i64 0, .string ⟨#[]⟩] 36)).drewN q) (fun k _ _ => (intOf k).toNat)
        case atStart => exact ⟨0, by omega, by omega, rfl, rfl, CP_zero _ _, _, rfl⟩
        case round =>
          obtain ⟨k, hka, hkb, rfl, rfl, HC2, q2, rfl⟩ := hrel
          by_cases hgo : ∃ h1 : k + i < a.size, ∃ h2 : k + i < b.size, a[a.size - 1 - k] = b[b.size - 1 - k]
          · obtain ⟨h1, h2, he⟩ := hgo
            have HE := Lib.hid he
            have heq : ((a[a.size - 1 - k].toNat : Int) == (b[b.size - 1 - k].toNat : Int)) = true := by simp [he]
            clear he
            have hm1 : decide (i < a.size - k) = true := decide_eq_true (by omega)
            have hm2 : decide (i < b.size - k) = true := decide_eq_true (by omega)
            have e3 : IntKind.i64.wrap (((a.size - k : Nat) : Int) - 1) = ((a.size - 1 - k : Nat) : Int) := by rw [IntWalk.i64_in _ (by omega)]; omega
            have e5 : IntKind.i64.wrap (((b.size - k : Nat) : Int) - 1) = ((b.size - 1 - k : Nat) : Int) := by rw [IntWalk.i64_in _ (by omega)]; omega
            have i1 : a.size - 1 - k < a.size := by omega
            have i2 : b.size - 1 - k < b.size := by omega
            go_wp2_with fail
            go_quiet (fail)
            clear e3 e5
            go_wp2_with fail
            exact ⟨⟨k + 1, by omega, by omega, (by congr 1; omega), (by congr 1; omega), CP_next HC2.out a[a.size - 1 - k] (bl_rget a k (by omega) _ rfl i1) (by rw [HE.out]; exact bl_rget b k (by omega) _ rfl i2), _, rfl⟩, by simp [intOf]; omega⟩
          · have hk : betK a b = k := by
              have hle := CP_le HC2.out
              have hl2 := cpre_le a.data.toList.reverse b.data.toList.reverse
              rw [List.length_reverse, List.length_reverse, bl_len, bl_len] at hl2
              have hn := HN.out
              by_cases h1 : k + i < a.size
              · by_cases h2 : k + i < b.size
                · have := CP_ne HC2.out _ _ (bl_rget a k (by omega) _ rfl (by omega)) (bl_rget b k (by omega) _ rfl (by omega)) (fun h => hgo ⟨h1, h2, h⟩)
                  unfold betK
                  omega
                · unfold betK; omega
              · unfold betK; omega
            have HK := Lib.hid hk
            clear hk
            have hcase : (∃ h1 : a.size - 1 - k < a.size, ∃ h2 : b.size - 1 - k < b.size, decide (i < a.size - k) = true ∧ decide (i < b.size - k) = true ∧ k + i < a.size ∧ k + i < b.size ∧ ((a[a.size - 1 - k].toNat : Int) == (b[b.size - 1 - k].toNat : Int)) = false) ∨ (decide (i < a.size - k) = true ∧ decide (i < b.size - k) = false) ∨ decide (i < a.size - k) = false := by
              by_cases h1 : k + i < a.size
              · by_cases h2 : k + i < b.size
                · refine .inl ⟨by omega, by omega, decide_eq_true (by omega), decide_eq_true (by omega), h1, h2, ?_⟩
                  rw [beq_eq_false_iff_ne]
                  intro hh
                  exact hgo ⟨h1, h2, UInt8.toNat_inj.1 (by omega)⟩
                · exact .inr (.inl ⟨decide_eq_true (by omega), decide_eq_false (by omega)⟩)
              · exact .inr (.inr (decide_eq_false (by omega)))
            clear hgo
            have hfin : EdPost w (betw a b) (.returned (.agg #[.int .i64 (i : Int), .int .i64 ((a.size - k : Nat) : Int), .string (b.extract i (b.size - k))])) ((w.alloc (.cells #[.int .i64 (i : Int), .int .i64 ((a.size : Int) - (k : Int)), .string (b.extract i (b.size - k))] 36)).drewN 0) := by
              refine ⟨?_, bdrewN (balloc (Below.refl _ _) (Nat.le_refl _) _) _⟩
              unfold betw
              rw [HK.out, HN.out]
            have HF := Lib.hid hfin
            clear hfin
            have e3 : ∀ _ : i < a.size - k, IntKind.i64.wrap (((a.size - k : Nat) : Int) - 1) = ((a.size - 1 - k : Nat) : Int) := fun _ => by rw [IntWalk.i64_in _ (by omega)]; omega
            have e5 : ∀ _ : i < b.size - k, IntKind.i64.wrap (((b.size - k : Nat) : Int) - 1) = ((b.size - 1 - k : Nat) : Int) := fun _ => by rw [IntWalk.i64_in _ (by omega)]; omega
            rcases hcase with ⟨h1, h2, hm1, hm2, h3, h4, hne⟩ | ⟨hm1, hm2⟩ | hm1
            · replace e3 := e3 (by omega)
              replace e5 := e5 (by omega)
              go_wp2_with fail
              go_quiet (fail)
              clear e3 e5 hm1 hm2 hne
              go_wp2_with fail
              exact bodyPost_ret (v := .agg #[.int .i64 (i : Int), .int .i64 ((a.size - k : Nat) : Int), .string (b.extract i (b.size - k))]) (by simp [results, Try.results15, go_sem]) rfl ⟨HF.out.1, (((bdrewN (balloc (Below.refl _ _) (Nat.le_refl _) _) _).setCell (Nat.le_refl _) _).setCell (Nat.le_refl _) _).setCell (Nat.le_refl _) _⟩
            · clear e3 e5
              go_wp2_with fail
              go_quiet (fail)
              clear hm1 hm2
              go_wp2_with fail
              exact bodyPost_ret (v := .agg #[.int .i64 (i : Int), .int .i64 ((a.size - k : Nat) : Int), .string (b.extract i (b.size - k))]) (by simp [results, Try.results15, go_sem]) rfl ⟨HF.out.1, (((bdrewN (balloc (Below.refl _ _) (Nat.le_refl _) _) _).setCell (Nat.le_refl _) _).setCell (Nat.le_refl _) _).setCell (Nat.le_refl _) _⟩
            · clear e3 e5
              go_wp2_with fail
              go_quiet (fail)
              clear hm1
              go_wp2_with fail
              exact bodyPost_ret (v := .agg #[.int .i64 (i : Int), .int .i64 ((a.size - k : Nat) : Int), .string (b.extract i (b.size - k))]) (by simp [results, Try.results15, go_sem]) rfl ⟨HF.out.1, (((bdrewN (balloc (Below.refl _ _) (Nat.le_refl _) _) _).setCell (Nat.le_refl _) _).setCell (Nat.le_refl _) _).setCell (Nat.le_refl _) _⟩

end Go.Proofs.Ytkiabjhbblmneaa
