import Derived.Test.YtkiabjhbblmneaaEdit10
import Derived.Test.YtkiabjhbblmneaaEditPure3
open Go Go.RowKit Go.Kb Go.Ed
namespace Go.Proofs.Ytkiabjhbblmneaa

theorem own_rv' {w : World} {base n c : Nat} {A : Option Addr} {e : TypeId} {size : Nat} {xs : List Value} (h : w.ownsRow base e size (.slice A n c) n xs) (h1 : ∀ u ∈ xs, u.oneCell' = true) : RV w size A n c xs := by
  obtain ⟨A', c', he, hR, _⟩ := own_rv h h1
  injection he with h1 h2 h3
  subst h1
  subst h3
  exact hR
theorem heap_new'' (W : World) (o : Obj) (g : Nat) (hg : g = W.heap.size) : (W.alloc o).heap[g]? = some o := by subst hg; exact heap_alloc_new W o
theorem rv_take {w : World} {A : Option Addr} {m c : Nat} {l : List Ed} (h : RV w 3 A m c (cellsE l)) (K : Nat) (hK : K ≤ m) : RV w 3 A K c (cellsE (l.take K)) := by
  rw [cellsE_take]
  exact h.take K c hK (Nat.le_trans hK h.cap) (fun e => (h.nil e).2)
theorem rv_drop0 {w : World} {A : Option Addr} {m c : Nat} {l : List Ed} (h : RV w 3 A m c (cellsE l)) (K : Nat) (hK : c = K) : RV w 3 A (m - K) 0 (cellsE (l.drop K)) := by
  have hc := h.cap
  rw [cellsE_drop]
  exact h.drop K 0 (by omega) A (fun _ _ => .inl (by omega)) (fun _ => ⟨by omega, rfl⟩)
theorem rv_drop1 {w : World} {A : Option Addr} {m c : Nat} {l : List Ed} (h : RV w 3 A m c (cellsE l)) (K : Nat) : RV w 3 (Option.map (fun x => x.add (K * 3)) A) (m - K) (c - K) (cellsE (l.drop K)) := by
  have hc := h.cap
  rw [cellsE_drop]
  exact h.drop K (c - K) (by omega) _ (fun ad e => .inr (by simp [e])) (fun e => by
    have e' : A = none := by simpa using e
    have := h.nil e'
    omega)

set_option maxRecDepth 100000 in
set_option maxHeartbeats 3200000 in
theorem parts_walk (s : ByteArray) (A : Option Addr) (n c : Nat) (l : List Ed) (at_ : Int) (w : World) (hs : s.size ≤ 140737488351232) (hl : RV w 3 A n c (cellsE l)) (hc : c ≤ maxLen) (_hat : (Lit.int .i64 at_).wf = true) :
    Calls Try.prog 5 #[.string s, .slice A n c, .int .i64 at_] w (Yes w) := by
  have HL := Lib.hid hl
  have hcap := hl.cap
  have hlen : l.length = n := by have := hl.len; rw [cellsE_length] at this; omega
  have HN := Lib.hid hlen
  unfold maxLen at hc
  clear hl hlen _hat
  by_cases h300 : 300 < s.size
  · go_enter Try.func5, Try.ntmps5
    go_wp2_with (first | (go_at_call 9; ((with_reducible refine (known_any _).mono ?_); rintro e w1 ⟨rfl, hb1⟩)))
    go_ret
    exact ⟨rfl, hb1⟩
  · have h4 : (s.size : Int) ≤ 300 := by omega
    by_cases hfew : fewB l = true
    · have hf := few_of hfew
      have hput := near_put 8 s.size l
      have hlen8 := near_len 8 s.size l
      have happ := app0 s l (by omega)
      have hsz := (near_app 8 s.data.toList l (by rw [bl_len]; omega)).2
      rw [bl_len] at hsz
      have cn : ∀ w', RV w' 3 A n c (cellsE l) → Calls Try.prog 11 #[.string s, .slice A n c] w' (fun e w2 => ∃ A3 c3, e = .returned (.slice A3 (nearE 8 s.size l).length c3) ∧ RV w2 3 A3 (nearE 8 s.size l).length c3 (cellsE (nearE 8 s.size l)) ∧ c3 ≤ maxLen ∧ Below w'.heap.size w' w2) := fun w' hR => by
        refine (near_any w' s A n c l (by omega) hR (by omega)).mono ?_
        rintro e w2 ⟨v, k, rfl, ho, hb⟩
        obtain ⟨A3, c3, rfl, hR3, hc3, -⟩ := own_rv ho (cellsE_one _)
        have hk : k = (nearE 8 s.size l).length := by have := hR3.len; rw [cellsE_length] at this; omega
        subst hk
        exact ⟨A3, c3, rfl, hR3, hc3, hb⟩
      generalize nearE 8 s.size l = NE at *
      obtain ⟨m, hm⟩ : ∃ m, m = NE.length := ⟨_, rfl⟩
      rw [← hm] at cn hlen8
      have hwr := wit_range at_ ((m : Int) + 1) (by omega)
      obtain ⟨K, hK⟩ : ∃ K : Nat, wit at_ ((m : Int) + 1) = (K : Int) := ⟨(wit at_ ((m : Int) + 1)).toNat, by omega⟩
      have hKm : K ≤ m := by omega
      have ck : ∀ w', Calls Try.prog 16 #[.int .i64 at_, .int .i64 ((m : Int) + 1)] w' (fun e w2 => e = .returned (.int .i64 (K : Int)) ∧ w' = w2) := fun w' => by
        have := within_any w' at_ ((m : Int) + 1) (by omega) (by omega)
        rwa [hK] at this
      obtain ⟨hp1, hp2⟩ := parts s.data.toList NE K happ
      have hyl : (appE s.data.toList (NE.take K)).1.length ≤ 8000 := appE_len _ _ (by rw [bl_len]; omega)
      have hbad := parts_bad s.data.toList NE K hp1
      have cx : ∀ w' A' c', RV w' 3 A' m c' (cellsE NE) → Calls Try.prog 12 #[.string s, .slice A' m c'] w' (fun e w2 => e = .returned (.tuple #[.string ⟨(appE s.data.toList NE).1.toArray⟩, .int .i64 0]) ∧ Below w'.heap.size w' w2) := fun w' A' c' hR => by
        refine (apply_any w' s A' m c' NE (by omega) hR (by omega) hput).mono ?_
        rintro e w2 ⟨he, hb⟩
        rw [happ] at he
        exact ⟨he, hb⟩
      have cy : ∀ w' A' c', RV w' 3 A' K c' (cellsE (NE.take K)) → Calls Try.prog 12 #[.string s, .slice A' K c'] w' (fun e w2 => e = .returned (.tuple #[.string ⟨(appE s.data.toList (NE.take K)).1.toArray⟩, .int .i64 0]) ∧ Below w'.heap.size w' w2) := fun w' A' c' hR => by
        refine (apply_any w' s A' K c' (NE.take K) (by omega) hR (by omega) (fun x hx => hput x (List.mem_of_mem_take hx))).mono ?_
        rintro e w2 ⟨he, hb⟩
        rw [hp1] at he
        exact ⟨he, hb⟩
      have cz : ∀ w' A' c', RV w' 3 A' (m - K) c' (cellsE (NE.drop K)) → Calls Try.prog 12 #[.string ⟨(appE s.data.toList (NE.take K)).1.toArray⟩, .slice A' (m - K) c'] w' (fun e w2 => e = .returned (.tuple #[.string ⟨(appE s.data.toList NE).1.toArray⟩, .int .i64 0]) ∧ Below w'.heap.size w' w2) := fun w' A' c' hR => by
        refine (apply_any w' ⟨(appE s.data.toList (NE.take K)).1.toArray⟩ A' (m - K) c' (NE.drop K) (by rw [← bl_len]; simp only; omega) hR (by omega) (fun x hx => hput x (List.mem_of_mem_drop hx))).mono ?_
        rintro e w2 ⟨he, hb⟩
        simp only [hp2, happ] at he
        exact ⟨he, hb⟩
      have cw : ∀ w' A' c' (q : Int), q > (appE s.data.toList (NE.take K)).1.length → RV w' 3 A' (K + 1 + (m - K)) c' (cellsE (NE.take K) ++ [.int .i64 q, .int .i64 q, .string ⟨#[]⟩] ++ cellsE (NE.drop K)) → Calls Try.prog 12 #[.string s, .slice A' (K + 1 + (m - K)) c'] w' (fun e w2 => e = .returned (.tuple #[.string ⟨#[]⟩, .int .i64 1]) ∧ Below w'.heap.size w' w2) := fun w' A' c' q hq hR => by
        refine (apply_any w' s A' (K + 1 + (m - K)) c' (NE.take K ++ ⟨q, q, ⟨#[]⟩⟩ :: NE.drop K) (by omega) ?_ (by omega) ?_).mono ?_
        · have e : cellsE (NE.take K ++ ⟨q, q, ⟨#[]⟩⟩ :: NE.drop K) = cellsE (NE.take K) ++ [.int .i64 q, .int .i64 q, .string ⟨#[]⟩] ++ cellsE (NE.drop K) := by
            rw [cellsE_append, List.append_assoc]
            rfl
          rw [e]
          exact hR
        · intro x hx
          simp only [List.mem_append, List.mem_cons] at hx
          rcases hx with hx | rfl | hx
          · exact hput x (List.mem_of_mem_take hx)
          · exact Nat.zero_le _
          · exact hput x (List.mem_of_mem_drop hx)
        · rintro e w2 ⟨he, hb⟩
          rw [hbad _ hq] at he
          exact ⟨he, hb⟩
      have hys : (⟨(appE s.data.toList (NE.take K)).1.toArray⟩ : ByteArray).size = (appE s.data.toList (NE.take K)).1.length := by rw [← bl_len]
      generalize (⟨(appE s.data.toList NE).1.toArray⟩ : ByteArray) = xs at *
      generalize (⟨(appE s.data.toList (NE.take K)).1.toArray⟩ : ByteArray) = ys at *
      rw [← hys] at cw hyl
      have CN := Lib.hid cn
      have CK := Lib.hid ck
      have CX := Lib.hid cx
      have CY := Lib.hid cy
      have CZ := Lib.hid cz
      have CW := Lib.hid cw
      clear cn ck cx cy cz cw hp1 hp2 hbad hys happ hsz hK hwr hput hm
      obtain ⟨i0, hi, hz0, hz1, hz2⟩ := info_parts info_ed
      have tok1 : True := trivial
      have tok2 : True := trivial
      have tok3 : True := trivial
      go_enter Try.func5, Try.ntmps5
      go_wp2_with (first | (go_at_call 9; ((with_reducible refine (known_any _).mono ?_); rintro e w1 ⟨rfl, hb1⟩)) | (go_at_call 10; ((with_reducible refine (few_any _ _ _ _ l ?f1 ?f2).mono ?_); rotate_right; rintro e w2 ⟨rfl, rfl⟩)) | (go_at_call 11; ((with_reducible refine (CN.out _ ?n1).mono ?_); rotate_right; rintro e w3 ⟨A3, c3, rfl, hR3, hc3, hb3⟩; have hcc3 := hR3.cap; have HR3 := Lib.hid hR3; clear hR3)) | (go_at_call 16; ((with_reducible refine (CK.out _).mono ?_); rintro e w4 ⟨rfl, rfl⟩)) | (go_at_call 12; ((with_reducible refine (CX.out _ _ _ ?x1).mono ?_); rotate_right; rintro e w5 ⟨rfl, hb5⟩)) | (go_at_call 12; ((with_reducible refine (CY.out _ _ _ ?y1).mono ?_); rotate_right; rintro e w6 ⟨rfl, hb6⟩)) | (go_at_call 12; ((with_reducible refine (CZ.out _ _ _ ?z1).mono ?_); rotate_right; rintro e w7 ⟨rfl, hb7⟩)) | (at_builtin; have _t := tok1; refine wpList_ap rfl _ _ 22 rfl w7.heap.size 36 i0 _ 3 32 Try.underlying22 hi hz0 hz1 hz2 rfl (by decide) _ rfl _ _ _ rfl 0 [] ?a0 (cellsE (NE.take K)) ?a1 ?a2 ?a3 ?a4 ?_; rotate_right; intro A8 c8 w8 hown8 hg8; simp only [Nat.zero_add, List.nil_append] at hown8; clear tok1) | (at_builtin; have _t := tok2; refine wpList_ap rfl _ _ 22 rfl w7.heap.size 36 i0 _ 3 32 Try.underlying22 hi hz0 hz1 hz2 rfl (by decide) _ rfl _ _ _ rfl K (cellsE (NE.take K)) ?b0 [.int .i64 ((ys.size : Int) + 1), .int .i64 ((ys.size : Int) + 1), .string ⟨#[]⟩] ?b1 ?b2 ?b3 ?b4 ?_; rotate_right; intro A9 c9 w9 hown9 hg9; clear tok2) | (at_builtin; have _t := tok3; refine wpList_ap rfl _ _ 22 rfl w7.heap.size 36 i0 _ 3 32 Try.underlying22 hi hz0 hz1 hz2 rfl (by decide) _ rfl _ _ _ rfl (K + 1) _ hown9 (cellsE (NE.drop K)) ?e1 ?e2 ?e3 ?e4 ?_; rotate_right; intro A10 c10 w10 hown10 hg10; clear tok3) | (go_at_call 12; ((with_reducible refine (CW.out _ _ _ ((ys.size : Int) + 1) ?g0 ?g1).mono ?_); rotate_right; rintro e w11 ⟨rfl, hb11⟩)))
      case n1 => exact HL.out.low hb1
      case f1 => exact HL.out.low hb1
      case x1 => exact HR3.out
      case y1 => exact rv_take (HR3.out.below hb5) K hKm
      case z1.inl => exact rv_drop0 ((HR3.out.below hb5).below hb6) K (by omega)
      case z1.inr => exact rv_drop1 ((HR3.out.below hb5).below hb6) K
      case a0.inl => exact World.ownsRow_lit w7 #[] 0 (Nat.le_refl _) (by simp [maxLen]) rfl
      case a0.inr => exact World.ownsRow_lit w7 #[] 0 (Nat.le_refl _) (by simp [maxLen]) rfl
      case a1 => exact rv_take ((((HR3.out.below hb5).below hb6).below hb7).below (balloc (Below.refl _ _) (Nat.le_refl _) _)) K hKm
      case b0.inl => exact hown8.alloc _
      case b0.inr => exact hown8.alloc _
      case b1 => exact rv_at (cs := [.int .i64 ((ys.size : Int) + 1), .int .i64 ((ys.size : Int) + 1), .string ⟨#[]⟩]) (heap_new'' _ _ _ rfl) (by simp [Value.oneCell']) 3 1 rfl 1 (Nat.le_refl _)
      case g0 => omega
      case g1 => exact own_rv' hown10 (by
        intro u hu
        simp only [List.mem_append] at hu
        rcases hu with (hu | hu) | hu
        · exact cellsE_one _ u hu
        · simp at hu
          rcases hu with rfl | rfl <;> rfl
        · exact cellsE_one _ u hu)
      case e1.inl =>
        have bb8 : Below w7.heap.size w7 w8 := (balloc (Below.refl _ w7) (Nat.le_refl _) _).grown hg8 (by simp) (fun k hk => by have hk' : some w7.heap.size = some k := hk; injection hk' with hk'; omega)
        have bb9 : Below w7.heap.size w7 w9 := (bb8.alloc bb8.size _).grown hg9 (by have := bb8.size; simp; omega) (fun k hk => (hown8.lt k hk).1)
        exact rv_drop0 ((((HR3.out.below hb5).below hb6).below hb7).below bb9) K (by omega)
      case e1.inr =>
        have bb8 : Below w7.heap.size w7 w8 := (balloc (Below.refl _ w7) (Nat.le_refl _) _).grown hg8 (by simp) (fun k hk => by have hk' : some w7.heap.size = some k := hk; injection hk' with hk'; omega)
        have bb9 : Below w7.heap.size w7 w9 := (bb8.alloc bb8.size _).grown hg9 (by have := bb8.size; simp; omega) (fun k hk => (hown8.lt k hk).1)
        exact rv_drop1 ((((HR3.out.below hb5).below hb6).below hb7).below bb9) K
      case inl =>
        have bb8 : Below w7.heap.size w7 w8 := (balloc (Below.refl _ w7) (Nat.le_refl _) _).grown hg8 (by simp) (fun k hk => by have hk' : some w7.heap.size = some k := hk; injection hk' with hk'; omega)
        have bb9 : Below w7.heap.size w7 w9 := (bb8.alloc bb8.size _).grown hg9 (by have := bb8.size; simp; omega) (fun k hk => (hown8.lt k hk).1)
        have bb10 : Below w7.heap.size w7 w10 := bb9.grown hg10 bb9.size (fun k hk => (hown9.lt k hk).1)
        go_ret
        exact ⟨rfl, bthen (bthen (bthen (bthen (bthen (bthen hb1 (Nat.le_refl _) hb3) (Nat.le_refl _) hb5) (Nat.le_refl _) hb6) (Nat.le_refl _) hb7) (Nat.le_refl _) bb10) (Nat.le_refl _) hb11⟩
      case inr =>
        have bb8 : Below w7.heap.size w7 w8 := (balloc (Below.refl _ w7) (Nat.le_refl _) _).grown hg8 (by simp) (fun k hk => by have hk' : some w7.heap.size = some k := hk; injection hk' with hk'; omega)
        have bb9 : Below w7.heap.size w7 w9 := (bb8.alloc bb8.size _).grown hg9 (by have := bb8.size; simp; omega) (fun k hk => (hown8.lt k hk).1)
        have bb10 : Below w7.heap.size w7 w10 := bb9.grown hg10 bb9.size (fun k hk => (hown9.lt k hk).1)
        go_ret
        exact ⟨rfl, bthen (bthen (bthen (bthen (bthen (bthen hb1 (Nat.le_refl _) hb3) (Nat.le_refl _) hb5) (Nat.le_refl _) hb6) (Nat.le_refl _) hb7) (Nat.le_refl _) bb10) (Nat.le_refl _) hb11⟩
      case e4 =>
        have bb8 : Below w7.heap.size w7 w8 := (balloc (Below.refl _ w7) (Nat.le_refl _) _).grown hg8 (by simp) (fun k hk => by have hk' : some w7.heap.size = some k := hk; injection hk' with hk'; omega)
        have bb9 : Below w7.heap.size w7 w9 := (bb8.alloc bb8.size _).grown hg9 (by have := bb8.size; simp; omega) (fun k hk => (hown8.lt k hk).1)
        exact bb9.size
      case b4 =>
        have bb8 : Below w7.heap.size w7 w8 := (balloc (Below.refl _ w7) (Nat.le_refl _) _).grown hg8 (by simp) (fun k hk => by have hk' : some w7.heap.size = some k := hk; injection hk' with hk'; omega)
        have := bb8.size
        simp
        omega
      case a4 => simp
      all_goals first | (simp only [maxLen]; omega) | omega
    · have hfew' : fewB l = false := by simpa using hfew
      clear hfew
      have h44 : n ≤ 9223372036854775807 := by omega
      go_enter Try.func5, Try.ntmps5
      go_wp2_with (first | (go_at_call 9; ((with_reducible refine (known_any _).mono ?_); rintro e w1 ⟨rfl, hb1⟩)) | (go_at_call 10; ((with_reducible refine (few_any _ _ _ _ l (HL.out.low hb1) (by omega)).mono ?_); rintro e w2 ⟨rfl, rfl⟩)))
      all_goals first | exact HL.out.low hb1 | omega | (go_ret; exact ⟨rfl, hb1⟩)

end Go.Proofs.Ytkiabjhbblmneaa
