import Derived.Test.YtbbfhlglljjpmaaGreatDoorEvZA
namespace Go.Ev
open Go
set_option linter.unusedVariables false
set_option linter.unusedSectionVars false
set_option linter.unusedSimpArgs false
/-- Plug-ins that turn the heap: they get the call of a function. -/
abbrev YT := Nat → CallT → CallT
noncomputable def callG (Y : YT) (n0 : Nat) (X : Nat → AVs → Option AV) (F : Nat → Option AF) (more : AC → Tr AV → St → RR) (f : Nat) (l : AVs) (s : St) : Option (AV × St) := match Y n0 (callF X F more) f l s with
  | some r => some r
  | none => callF X F more f l s
noncomputable def evNY (Y : YT) (X : Nat → AVs → Option AV) (F : Nat → Option AF) (n0 : Nat) (n : Nat) : AC → Tr AV → St → RR :=
  Nat.rec (motive := fun _ => AC → Tr AV → St → RR) (fun _ _ _ => .no) (fun _ ih c T s => evC (callG Y n0 X F ih) n0 ih c T s) n
noncomputable def evCallY (Y : YT) (X : Nat → AVs → Option AV) (F : Nat → Option AF) (n0 n : Nat) : CallT := callF X F (evNY Y X F n0 n)
section
variable {P : Program} [Theta] {n0 : Nat} {more : AC → Tr AV → St → RR} {X : Nat → AVs → Option AV} {F : Nat → Option AF} {Y : YT}
def YOK (P : Program) (Y : YT) : Prop := ∀ n0 call, CallOK P n0 call → CallOK P n0 (Y n0 call)
theorem callG_ok (hF : FOK P F) (hX : XOK P X) (hY : YOK P Y) (hm : MoreOK P n0 more) : CallOK P n0 (callG Y n0 X F more) := by
  intro f l s v s' h
  unfold callG at h
  have hc := callF_ok hF hX hm
  split at h
  · rename_i r hr
    obtain rfl := Option.some.inj h
    exact hY n0 _ hc f l s v s' hr
  · exact hc f l s v s' h
theorem evNY_ok (hmix : P.follows .mixedOrders = true) (hF : FOK P F) (hX : XOK P X) (hY : YOK P Y) : ∀ n, MoreOK P n0 (evNY Y X F n0 n) := by
  intro n
  induction n with
  | zero => exact ⟨(fun _ _ _ _ _ _ _ _ _ h => nomatch h), (fun _ _ _ _ _ _ _ _ _ h => nomatch h), (fun _ _ _ _ _ _ _ _ _ _ _ _ h => nomatch h)⟩
  | succ n ih =>
    have hc := callG_ok hF hX hY ih
    refine ⟨fun nt code c h T s e T' s' he => evC_sound hmix hc ih code c h T s e T' s' he, fun nt code c h T s e T' s' he => ?_, fun nt code c rc r h hr T s e T' s' he => ?_⟩
    · exact evC_loop ih h (fun T s e T' s' he => evC_sound hmix hc ih code c h T s e T' s' he) he
    · exact evC_scope ih h (fun T s e T' s' he => evC_sound hmix hc ih rc r hr T s e T' s' he) he
theorem ev_topY (hmix : P.follows .mixedOrders = true) (hF : FOK P F) (hX : XOK P X) (hY : YOK P Y) {n f : Nat} {l : AVs} {H0 : Tr Blk} (hXf : X f l = none) {b : Bool} (h : saysB b (evCallY Y X F P.globals.size n f l ⟨H0, P.globals.size, 0⟩) = true)
    {W : World} (hsz : P.globals.size ≤ W.heap.size) (hH : ∀ b k, H0.get b = some k → b < P.globals.size ∧ ∃ o, W.heap[b]? = some o ∧ BR (envAt P) 0 k o) {vs : List Value} (hvs : VRs (envAt P) l vs) :
    Calls P f vs.toArray W fun e W' => e = .returned (.bool b) ∧ RowKit.Below W.heap.size W W' := by
  unfold saysB at h
  split at h
  · rename_i x s' hev
    have hxb : x = b := by simpa using h
    subst hxb
    obtain ⟨h1, _, h2⟩ := callF_calls hF (evNY_ok (n0 := P.globals.size) hmix hF hX hY n) hXf hev
    have hHR := start_HR hsz hH s'.nxt
    refine (h2 (pxAt P W s'.nxt) rfl rfl (Nat.le_refl _) _ vs W hvs hHR).mono ?_
    rintro e w' ⟨v, rfl, σ', hv, hg⟩
    simp only [VR] at hv
    subst hv
    refine ⟨rfl, hg.keep.os, hg.keep.tape, hg.keep.output, hg.keep.size, fun k hk => ?_⟩
    refine hg.keep.same k hk (fun b' x' κ hb' hw _ => ?_)
    have h3 := hg.hr.wlow b' hw
    have h4 := (hH b' x' hb').1
    have h3 : P.globals.size ≤ b' := h3
    omega
  · cases h
end
end Go.Ev
