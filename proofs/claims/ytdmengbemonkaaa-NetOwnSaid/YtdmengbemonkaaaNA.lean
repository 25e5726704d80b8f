import Derived.Test.YtdmengbemonkaaaFlowF
import Derived.Test.YtdmengbemonkaaaTab
set_option linter.unusedVariables false
namespace Go.Proofs.Ytdmengbemonkaaa
open Go Go.Flow

theorem clone_c (w : World) (F : Nat → Prop) (A : Option Addr) (n c : Nat) (xs : List UInt8) (h : SliceR kU8 w F A n xs) :
    Calls Try.prog 21 #[.slice A n c] w fun e w' => ∃ v, e = .returned v ∧ Ext no w w' ∧ Own kU8 5 w' (new w.heap.size) no v xs := by
  refine calls_of_vc T.C 21 Try.f21 _ [.slice A n c] w no _ Try.func21 rfl rfl ?_
  refine if_split (fun hA => ?_) (fun hA => ?_)
  · refine JoinP.mk fun w1 h1 => ⟨_, rfl, h1.ext0, ?_⟩
    have hx : xs = [] := by
      cases A with
      | none => exact List.eq_nil_of_length_eq_zero (by have := h.len; have := h.some_; simp at this; omega)
      | some a => simp at hA
    subst hx
    exact Own.nil _ _ _ _ _
  · intro b hb
    refine append_ev kU8 [0] (T := 27) (e := 5) rfl rfl rfl rfl (by decide) (by decide) rfl rfl rfl ?_
    intro w1 h1
    have hs := h.ext0 h1.ext0
    refine ⟨fun k => k = b, no, no, [], xs, Own.lit0 (h1.bx 0 rfl) (fun h => h), h.len, h.some_, hs.row, fun _ _ h => h, ?_, fun k _ hk => .inr (by subst hk; exact hb), trivial, fun v w2 hx hown hn => ?_⟩
    · have := h.le; simp [T.i5]; omega
    · refine JoinP.mk fun w3 h3 => ⟨_, rfl, h3.ext0, ?_⟩
      refine (hown.ext0 (h3.extNo trivial)).mono (fun k hk _ => ?_) (fun k hk _ => hk.1.elim (fun h => h) (fun h => h)) (fun k _ hk _ => hk.elim)
      rcases hk with rfl | hk
      · exact hb
      · exact Nat.le_trans h1.ext0.size hk
end Go.Proofs.Ytdmengbemonkaaa
