import Derived.Test.YtdmengbemonkaaaNE
set_option linter.all false
namespace Go.Proofs.Ytdmengbemonkaaa
open Go Go.Flow

def twinL (xs : List Mail) (a : Int) : List Mail :=
  match xs[placeN a xs.length]? with
  | some m => putL xs m
  | none => xs
theorem twin_c (w : World) (F : Nat → Prop) (A : Option Addr) (n c : Nat) (xs : List Mail) (a : Int) (h : SliceR kMail w F A n xs) (hb : n ≤ 1099511627776) :
    Calls Try.prog 10 #[.slice A n c, .int .i64 a] w fun e w' => ∃ v F', e = .returned v ∧ Ext no w w' ∧ Own kMail 29 w' (new w.heap.size) F' v (twinL xs a) ∧ ∀ b, F' b → w.heap.size ≤ b := by
  obtain ⟨G, hG⟩ : ∃ G : Nat → Prop, G = fun k => F k ∧ k < w.heap.size := ⟨_, rfl⟩
  replace h : SliceR kMail w G A n xs := hG ▸ h.here (by decide)
  have hG' : ∀ k, G k → k < w.heap.size := by rw [hG]; exact fun k h => h.2
  apply calls_of_vc T.C 10 Try.f10 _ [.slice A n c, .int .i64 a] w no _ Try.func10 rfl rfl
  refine call_ev fun w1 h1 => (all_c w1 G A n c xs (h.ext0 h1.ext0) hb).mono ?_
  rintro e w2 ⟨v, F', rfl, hx2, hown, hF'⟩
  refine ⟨v, rfl, hx2, ?_⟩
  have hs1 := h1.size
  clear h1
  refine if_split (fun h0 => ?_) (fun h0 => ?_)
  · have hn0 : n = 0 := by have := eq_of_beq h0; omega
    have hx : xs = [] := List.eq_nil_of_length_eq_zero (h.len.trans hn0)
    subst hx
    refine JoinP.mk fun w3 h3 => ⟨v, F', rfl, h3.ext0, (hown.ext0 (h3.extNo trivial)).mono (fun k hk _ => Nat.le_trans hs1 hk) (fun _ h _ => h) (fun _ _ h _ => h), fun k hk => Nat.le_trans hs1 (hF' k hk)⟩
  · have hn0 : 0 < n := by have := ne_of_beq_false h0; omega
    refine call_ev fun w3 h3 => (place_c w3 a n hn0 hb).mono ?_
    rintro e w4 ⟨rfl, hpl, hx4⟩
    refine ⟨_, rfl, hx4, ?_⟩
    have hx3 := h3.extNo trivial
    clear h3
    obtain ⟨m, hm⟩ : ∃ m, xs[placeN a n]? = some m := ⟨_, List.getElem?_eq_getElem (by rw [h.len]; exact hpl)⟩
    have htw : twinL xs a = putL xs m := by unfold twinL; rw [h.len, hm]
    obtain ⟨_, _, ⟨A1, n1, c1, rfl, hsd⟩, hc1⟩ := h.get hm
    refine ⟨⟨h.some_ hn0, by omega, by omega⟩, [.int .i64 m.to, .slice A1 n1 c1], ⟨rfl, fun w5 h5 => hc1.ext h5.ext0 (fun h => h)⟩, ?_⟩
    refine call_evS [] fun w5 h5 => ?_
    have hx5 := h5.extNo trivial
    have hx05 := h5.ext0
    have hs5 := h5.size
    clear h5
    have ho5 : Own kMail 29 w5 (fun k => new w1.heap.size k ∧ k < w2.heap.size) (fun k => F' k ∧ k < w2.heap.size) v xs := (((hown.here).ext0 hx3).ext0 hx4).ext0 hx5
    refine ⟨fun k => new w1.heap.size k ∧ k < w2.heap.size, fun k _ hk => .inr (Nat.le_trans hs1 hk.1), trivial, ?_⟩
    refine (put_c w5 _ _ G v xs _ m ho5 ⟨A1, n1, c1, rfl, hsd.ext0 hx05⟩ (fun b hb _ hg => absurd (show w1.heap.size ≤ b from hb.1) (by have := hG' b hg; have : w.heap.size ≤ w1.heap.size := hs1; omega)) (by rw [h.len]; omega)).mono ?_
    rintro e w6 ⟨v', B', F1, rfl, hx6, hown6, hB', hF1⟩
    refine ⟨v', rfl, hx6, ?_⟩
    rw [htw]
    have hs1' : w.heap.size ≤ w1.heap.size := hs1
    have hs5' : w.heap.size ≤ w5.heap.size := hs5
    refine JoinP.mk fun w7 h7 => ⟨v', fun k => F1 k ∧ k < w6.heap.size, rfl, h7.ext0, ?_, ?_⟩
    · refine (hown6.here.ext0 (h7.extNo trivial)).mono ?_ (fun _ h _ => h) (fun _ _ h _ => h)
      rintro k ⟨hk, hk2⟩ _
      rcases hB' k hk hk2 with h | h
      · exact Nat.le_trans hs1' h.1
      · exact Nat.le_trans hs5' h
    · rintro k ⟨hk, hk2⟩
      rcases hF1 k hk hk2 with h | h
      · exact Nat.le_trans hs1' (hF' _ h.1)
      · exact Nat.le_trans hs5' h
end Go.Proofs.Ytdmengbemonkaaa
