import Derived.Test.YtdmengbemonkaaaNK
import Derived.Test.YtdmengbemonkaaaFlowH
import Derived.ChangeSame
set_option linter.all false
namespace Go.Proofs.Ytdmengbemonkaaa
open Go Go.Flow

theorem reads_mail : Reads Try.prog kMail 29 := by
  intro H enc w base spare held fuel cs x h hw
  obtain ⟨y0, y1, n, rfl, hl, h0, h1⟩ := Go.ChangeShapes.trod_struct2 Try.underlying29 h
  have hl2 : cs.length = 2 := hl.trans (by kernel_rfl)
  match cs, hl2 with
  | [c0, c1], _ =>
    have e3 : Try.prog.cellsOf 3 = 1 := by kernel_rfl
    have e27 : Try.prog.cellsOf 27 = 1 := by kernel_rfl
    have h0 : DataW.trod enc Try.prog w base spare held n 3 (([c0, c1].drop 0).take (Try.prog.cellsOf 3)) = some y0 := h0
    have h1 : DataW.trod enc Try.prog w base spare held n 27 (([c0, c1].drop 1).take (Try.prog.cellsOf 27)) = some y1 := h1
    rw [e3] at h0
    rw [e27] at h1
    obtain ⟨v, ev, hv1, hv2⟩ := DataW.trod_int Try.underlying3 h0
    have hw1 : ∀ k ∈ y1.1.weights Try.prog 27, k ≤ reachBytes := fun k hk => hw k (by
      simp only [DataW.weights, Try.underlying29]
      show k ∈ DataW.weightsEach Try.prog [3, 27] [y0.1, y1.1]
      simp only [DataW.weightsEach, List.append_nil, List.mem_append]
      exact .inr hk)
    obtain ⟨A, n', c, xs, e1, _, hs⟩ := reads_slice (d := kU8) Try.underlying27 (by kernel_rfl) (of_decide_eq_true (by kernel_rfl)) (reads_u8 Try.underlying5) h1 hw1
    obtain rfl : c0 = .int .i64 v := by simpa using ev
    obtain rfl : c1 = .slice A n' c := by simpa using e1
    exact ⟨⟨v, xs⟩, A, n', c, rfl, hs⟩

theorem tells_w (w : World) (F : Nat → Prop) (A : Option Addr) (n c : Nat) (xs : List Mail) (hle : n ≤ c) (h : SliceR kMail w F A n xs) (to : Int) (hto : (Lit.int .i64 to).wf = true)
    (F2 : Nat → Prop) (A2 : Option Addr) (n2 c2 : Nat) (ds : List (List UInt8)) (hle2 : n2 ≤ c2) (h2 : SliceR kBytes w F2 A2 n2 ds) (at_ : Int) (hat : (Lit.int .i64 at_).wf = true) :
    Calls Try.prog 6 #[.slice A n c, .int .i64 to, .slice A2 n2 c2, .int .i64 at_] w fun e w' => e = .returned (.bool true) ∧ Ext no w w' := tells_c w F F2 A A2 n c n2 c2 xs to at_ ds hle h h2
end Go.Proofs.Ytdmengbemonkaaa
