import Derived.Test.YtkiabjhbblmneaaEdit3
open Go Go.RowKit Go.Kb Go.Ed
namespace Go.Proofs.Ytkiabjhbblmneaa

def EdPost (w : World) (x : Ed) (e : Ending) (w' : World) : Prop := e = .returned (.agg #[.int .i64 x.fr, .int .i64 x.to, .string x.put]) ∧ Below w.heap.size w w'

set_option maxHeartbeats 1600000 in
theorem between_any (w : World) (a b : ByteArray) (ha : a.size ≤ 20000) (hb : b.size ≤ 20000) :
    Calls Try.prog 14 #[.string a, .string b] w (EdPost w (betw a b)) := by
  have hbn := betN_le a b
  go_enter Try.func14, Try.ntmps14
  go_wp2_with fail
  go_loopw [5] (fun v wr => ∃ i : Nat, i ≤ a.size ∧ i ≤ b.size ∧ v = .int .i64 i ∧ Hid (CP a.data.toList b.data.toList i) ∧ ∃ q, wr = (w.alloc (.cells #[.int .i64 0, .int .i64 0, .string ⟨#[]⟩] 36)).drewN q) (fun i _ => a.size - (intOf i).toNat)
  case atStart => exact ⟨0, Nat.zero_le _, Nat.zero_le _, rfl, CP_zero _ _, 0, rfl⟩
  case round =>
    obtain ⟨i, hia, hib, rfl, HC, q, rfl⟩ := hrel
    by_cases hgo : ∃ h1 : i < a.size, ∃ h2 : i < b.size, a[i] = b[i]
    · obtain ⟨h1, h2, he⟩ := hgo
      have HE := Lib.hid he
      have heq : ((a[i].toNat : Int) == (b[i].toNat : Int)) = true := by simp [he]
      clear he
      have hmin : decide ((i : Int) < min (a.size : Int) (b.size : Int)) = true := by simp; omega
      go_wp2_with fail
      go_quiet (fail)
      go_wp2_with fail
      exact ⟨⟨i + 1, by omega, by omega, by go_num, CP_next HC.out a[i] (bl_get a i h1) (by rw [HE.out]; exact bl_get b i h2), _, rfl⟩, by simp [intOf]; omega⟩
    · have hn : betN a b = i := by
        by_cases h1 : i < a.size
        · by_cases h2 : i < b.size
          · exact CP_ne HC.out a[i] b[i] (bl_get a i h1) (bl_get b i h2) (fun h => hgo ⟨h1, h2, h⟩)
          · exact CP_end HC.out (.inr (by rw [bl_len]; omega))
        · exact CP_end HC.out (.inl (by rw [bl_len]; omega))
      have HN := Lib.hid hn
      clear hn
      have hcase : (∃ h1 : i < a.size, ∃ h2 : i < b.size, ((a[i].toNat : Int) == (b[i].toNat : Int)) = false) ∨ decide ((i : Int) < min (a.size : Int) (b.size : Int)) = false := by
        by_cases h1 : i < a.size
        · by_cases h2 : i < b.size
          · refine .inl ⟨h1, h2, ?_⟩
            rw [beq_eq_false_iff_ne]
            intro hh
            exact hgo ⟨h1, h2, UInt8.toNat_inj.1 (by omega)⟩
          · exact .inr (by simp; omega)
        · exact .inr (by simp; omega)
      clear hgo
      rcases hcase with ⟨h1, h2, hne⟩ | hmin
      case' inl => have hmin : decide ((i : Int) < min (a.size : Int) (b.size : Int)) = true := by simp; omega
      all_goals
        go_wp2_with fail
        go_quiet (fail)
        go_wp2_with fail
        clear hmin
      all_goals try clear hne h1 h2
      all_goals
        go_loopw [6] (fun v wr => ∃ k : Nat, k + i ≤ a.size ∧ k + i ≤ b.size ∧ v = .int .i64 k ∧ Hid (CP a.data.toList.reverse b.data.toList.reverse k) ∧ ∃ q, wr = (w.alloc (.cells #[.int .i64 0, .int .i64 0, .string ⟨#[]⟩] 36)).drewN q) (fun k _ => a.size - (intOf k).toNat)
        case atStart => exact ⟨0, by omega, by omega, rfl, CP_zero _ _, _, World.drewN_drewN _ _ _⟩
        case round =>
          obtain ⟨k, hka, hkb, rfl, HC2, q2, rfl⟩ := hrel
          by_cases hgo : ∃ h1 : k + i < a.size, ∃ h2 : k + i < b.size, a[a.size - 1 - k] = b[b.size - 1 - k]
          · obtain ⟨h1, h2, he⟩ := hgo
            have HE := Lib.hid he
            have heq : ((a[a.size - 1 - k].toNat : Int) == (b[b.size - 1 - k].toNat : Int)) = true := by simp [he]
            clear he
            have hmin : decide ((k : Int) < min (a.size : Int) (b.size : Int) - (i : Int)) = true := by simp; omega
            have e1 : IntKind.i64.wrap (min (a.size : Int) (b.size : Int) - (i : Int)) = min (a.size : Int) (b.size : Int) - (i : Int) := IntWalk.i64_in _ (by omega)
            have e2 : IntKind.i64.wrap ((a.size : Int) - 1) = (a.size : Int) - 1 := IntWalk.i64_in _ (by omega)
            have e3 : IntKind.i64.wrap ((a.size : Int) - 1 - (k : Int)) = ((a.size - 1 - k : Nat) : Int) := by rw [IntWalk.i64_in _ (by omega)]; omega
            have e4 : IntKind.i64.wrap ((b.size : Int) - 1) = (b.size : Int) - 1 := IntWalk.i64_in _ (by omega)
            have e5 : IntKind.i64.wrap ((b.size : Int) - 1 - (k : Int)) = ((b.size - 1 - k : Nat) : Int) := by rw [IntWalk.i64_in _ (by omega)]; omega
            have i1 : a.size - 1 - k < a.size := by omega
            have i2 : b.size - 1 - k < b.size := by omega
            go_wp2_with fail
            go_quiet (fail)
            go_wp2_with fail
            exact ⟨⟨k + 1, by omega, by omega, by go_num, CP_next HC2.out a[a.size - 1 - k] (bl_rget a k (by omega) _ rfl i1) (by rw [HE.out]; exact bl_rget b k (by omega) _ rfl i2), _, rfl⟩, by simp [intOf]; omega⟩
          · have hk : betK a b = k := by
              have hle := CP_le HC2.out
              have hl2 := cpre_le a.data.toList.reverse b.data.toList.reverse
              rw [List.length_reverse, List.length_reverse, bl_len, bl_len] at hl2
              have hn := HN.out
              by_cases h1 : k + i < a.size
              · by_cases h2 : k + i < b.size
                · have := CP_ne HC2.out _ _ (bl_rget a k (by omega) _ rfl (by omega)) (bl_rget b k (by omega) _ rfl (by omega)) (fun h => hgo ⟨h1, h2, h⟩)
                  unfold betK
                  omega
                · unfold betK; omega
              · unfold betK; omega
            have HK := Lib.hid hk
            clear hk
            have hcase : (∃ h1 : a.size - 1 - k < a.size, ∃ h2 : b.size - 1 - k < b.size, k + i < a.size ∧ k + i < b.size ∧ ((a[a.size - 1 - k].toNat : Int) == (b[b.size - 1 - k].toNat : Int)) = false) ∨ decide ((k : Int) < min (a.size : Int) (b.size : Int) - (i : Int)) = false := by
              by_cases h1 : k + i < a.size
              · by_cases h2 : k + i < b.size
                · refine .inl ⟨by omega, by omega, h1, h2, ?_⟩
                  rw [beq_eq_false_iff_ne]
                  intro hh
                  exact hgo ⟨h1, h2, UInt8.toNat_inj.1 (by omega)⟩
                · exact .inr (by simp; omega)
              · exact .inr (by simp; omega)
            clear hgo
            have e1 : IntKind.i64.wrap (min (a.size : Int) (b.size : Int) - (i : Int)) = min (a.size : Int) (b.size : Int) - (i : Int) := IntWalk.i64_in _ (by omega)
            have hfin : EdPost w (betw a b) (.returned (.agg #[.int .i64 (i : Int), .int .i64 ((a.size : Int) - (k : Int)), .string (b.extract i (b.size - k))])) ((w.alloc (.cells #[.int .i64 (i : Int), .int .i64 ((a.size : Int) - (k : Int)), .string (b.extract i (b.size - k))] 36)).drewN 0) := by
              refine ⟨?_, bdrewN (balloc (Below.refl _ _) (Nat.le_refl _) _) _⟩
              unfold betw
              rw [HK.out, HN.out, Int.ofNat_sub (by omega)]
            have HF := Lib.hid hfin
            clear hfin
            rcases hcase with ⟨h1, h2, h3, h4, hne⟩ | hmin
            · have hmin : decide ((k : Int) < min (a.size : Int) (b.size : Int) - (i : Int)) = true := by simp; omega
              have e2 : IntKind.i64.wrap ((a.size : Int) - 1) = (a.size : Int) - 1 := IntWalk.i64_in _ (by omega)
              have e3 : IntKind.i64.wrap ((a.size : Int) - 1 - (k : Int)) = ((a.size - 1 - k : Nat) : Int) := by rw [IntWalk.i64_in _ (by omega)]; omega
              have e4 : IntKind.i64.wrap ((b.size : Int) - 1) = (b.size : Int) - 1 := IntWalk.i64_in _ (by omega)
              have e5 : IntKind.i64.wrap ((b.size : Int) - 1 - (k : Int)) = ((b.size - 1 - k : Nat) : Int) := by rw [IntWalk.i64_in _ (by omega)]; omega
              go_wp2_with fail
              go_quiet (fail)
              clear e1 e2 e3 e4 e5 hmin hne
              go_wp2_with fail
              exact bodyPost_ret (v := .agg #[.int .i64 (i : Int), .int .i64 ((a.size : Int) - (k : Int)), .string (b.extract i (b.size - k))]) (by simp [results, Try.results14, go_sem]) rfl ⟨HF.out.1, (((bdrewN (balloc (Below.refl _ _) (Nat.le_refl _) _) _).setCell (Nat.le_refl _) _).setCell (Nat.le_refl _) _).setCell (Nat.le_refl _) _⟩
            · go_wp2_with fail
              go_quiet (fail)
              clear e1 hmin
              go_wp2_with fail
              exact bodyPost_ret (v := .agg #[.int .i64 (i : Int), .int .i64 ((a.size : Int) - (k : Int)), .string (b.extract i (b.size - k))]) (by simp [results, Try.results14, go_sem]) rfl ⟨HF.out.1, (((bdrewN (balloc (Below.refl _ _) (Nat.le_refl _) _) _).setCell (Nat.le_refl _) _).setCell (Nat.le_refl _) _).setCell (Nat.le_refl _) _⟩

end Go.Proofs.Ytkiabjhbblmneaa
