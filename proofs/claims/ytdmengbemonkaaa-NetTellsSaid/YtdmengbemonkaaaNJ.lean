import Derived.Test.YtdmengbemonkaaaNI
set_option linter.all false
namespace Go.Proofs.Ytdmengbemonkaaa
open Go Go.Flow

def eqM (x y : Mail) : Bool := x.to == y.to && x.data == y.data
theorem eqM_iff (x y : Mail) : eqM x y = true ↔ x = y := by
  obtain ⟨a, b⟩ := x
  obtain ⟨c, d⟩ := y
  simp [eqM]
theorem one_c (w : World) (F G : Nat → Prop) (cs ds : List Value) (x y : Mail) (h : kMail.rep w F cs x) (h2 : kMail.rep w G ds y) :
    Calls Try.prog 13 #[.agg cs.toArray, .agg ds.toArray] w fun e w' => e = .returned (.bool (eqM x y)) ∧ Ext no w w' := by
  obtain ⟨A, n, c, rfl, hs⟩ := h
  obtain ⟨A2, n2, c2, rfl, hs2⟩ := h2
  apply calls_of_vc T.C 13 Try.f13 _ [.agg [.int .i64 x.to, .slice A n c].toArray, .agg [.int .i64 y.to, .slice A2 n2 c2].toArray] w no _ Try.func13 rfl rfl
  intro b hb b2 hb2
  refine ⟨x.data, fun _ => ⟨hs.len, hs.some_, fun w1 h1 => (hs.ext0 h1.ext0).bytes⟩, ?_⟩
  refine ⟨y.data, fun _ => ⟨hs2.len, hs2.some_, fun w1 h1 => (hs2.ext0 h1.ext0).bytes⟩, ?_⟩
  refine JoinP.mk fun w1 h1 => ⟨?_, h1.ext0⟩
  clear h1
  refine congrArg Ending.returned ?_
  conv => lhs; whnf
  conv => lhs; arg 1; whnf
  simp only [ba_mk]
  unfold eqM
  cases x.to == y.to <;> rfl

def sameB : List Mail → List Mail → Bool
  | [], [] => true
  | x :: r, y :: q => eqM x y && sameB r q
  | _, _ => false
theorem sameB_iff : ∀ (xs ys : List Mail), sameB xs ys = true ↔ xs = ys
  | [], [] => by simp [sameB]
  | [], _ :: _ => by simp [sameB]
  | _ :: _, [] => by simp [sameB]
  | x :: r, y :: q => by simp [sameB, eqM_iff, sameB_iff r q]
theorem same_c (w : World) (F G : Nat → Prop) (A A2 : Option Addr) (n c n2 c2 : Nat) (xs ys : List Mail) (h : SliceR kMail w F A n xs) (h2 : SliceR kMail w G A2 n2 ys) :
    Calls Try.prog 12 #[.slice A n c, .slice A2 n2 c2] w fun e w' => e = .returned (.bool (sameB xs ys)) ∧ Ext no w w' := by
  have hne : xs ≠ ys → sameB xs ys = false := fun hn => by
    cases hsb : sameB xs ys
    · rfl
    · exact absurd ((sameB_iff xs ys).1 hsb) hn
  apply calls_of_vc T.C 12 Try.f12 _ [.slice A n c, .slice A2 n2 c2] w no _ Try.func12 rfl rfl
  refine if_split (fun hd => ?_) (fun hd => ?_)
  · refine JoinP.mk fun w1 h1 => ⟨?_, h1.ext0⟩
    have : n ≠ n2 := by
      have h0 : ((n : Int) != (n2 : Int)) = true := hd
      intro e; subst e; simp at h0
    rw [hne (fun e => this (by rw [← h.len, ← h2.len, e]))]
    rfl
  · have hn : n = n2 := by
      have h0 : ((n : Int) != (n2 : Int)) = false := hd
      have : (n : Int) = n2 := by simpa using h0
      omega
    refine loop_ev (γ := Nat) (fun y => [(5, .v (.int .i64 y)), (0, .v (.slice A n c)), (1, .v (.slice A2 n2 c2))]) (fun _ => [])
      (fun y u => y ≤ n ∧ Ext no w u ∧ xs.take y = ys.take y) (fun y => n - y) (fun _ => rfl) ?_ ?_
    · intro w1 h1
      exact ⟨0, ⟨rfl, rfl, rfl⟩, List.nil_prefix, Nat.zero_le _, h1.ext0, rfl⟩
    · rintro i g u ⟨hi, hu, htk⟩
      refine if_split (fun hlt => ?_) (fun hge => ?_)
      · have hlt : i < n := dlt hlt
        obtain ⟨m, hm⟩ : ∃ m, xs[i]? = some m := ⟨_, List.getElem?_eq_getElem (by rw [h.len]; exact hlt)⟩
        obtain ⟨m2, hm2⟩ : ∃ m, ys[i]? = some m := ⟨_, List.getElem?_eq_getElem (by rw [h2.len]; omega)⟩
        obtain ⟨_, _, ⟨A1, n1, c1, rfl, hs1⟩, hc1⟩ := h.get hm
        obtain ⟨_, _, ⟨A3, n3, c3, rfl, hs3⟩, hc3⟩ := h2.get hm2
        refine draw_ev 8 ([[], [], [0, 1], [0, 1, 2], [], [], [4, 5], [4, 5, 6], [0, 1, 2, 3, 4, 5, 6, 7], [0, 1, 2, 3, 4, 5, 6, 7, 8]]) [0, 1, 2, 3, 4, 5, 6, 7, 8, 9] (by kernel_rfl) (by kernel_rfl) (by kernel_rfl) ?_
        refine ⟨⟨h.some_ (by omega), by omega, by omega⟩, [.int .i64 m.to, .slice A1 n1 c1], ⟨rfl, fun w1 h1 => hc1.ext h1.ext0 (fun h => h)⟩, ?_⟩
        refine ⟨⟨h2.some_ (by omega), by omega, by omega⟩, [.int .i64 m2.to, .slice A3 n3 c3], ⟨rfl, fun w1 h1 => hc3.ext h1.ext0 (fun h => h)⟩, ?_⟩
        refine call_ev fun w1 h1 => (one_c w1 F G _ _ m m2 ⟨A1, n1, c1, rfl, hs1.ext0 h1.ext0⟩ ⟨A3, n3, c3, rfl, hs3.ext0 h1.ext0⟩).mono ?_
        rintro e w2 ⟨rfl, hx2⟩
        refine ⟨_, rfl, hx2, ?_⟩
        clear h1
        refine if_split (fun hy => ?_) (fun hy => ?_)
        · refine JoinP.mk fun w3 h3 => ⟨?_, h3.ext0⟩
          have h0 : (!(eqM m m2)) = true := hy
          rw [hne (fun e => by
            subst e
            rw [hm] at hm2
            injection hm2 with hm2
            subst hm2
            rw [(eqM_iff m m).2 rfl] at h0
            cases h0)]
          rfl
        · have h0 : (!(eqM m m2)) = false := hy
          have hmm : m = m2 := (eqM_iff m m2).1 (by simpa using h0)
          intro w3 h3
          refine ⟨i + 1, ⟨next_i (i := i) (by have := h.le; omega), rfl, rfl⟩, List.nil_prefix, ⟨hlt, h3.ext0, ?_⟩, by omega⟩
          rw [take_snoc hm, take_snoc hm2, htk, hmm]
      · have hin : i = n := by have : n ≤ i := dge hge; omega
        subst hin
        refine JoinP.mk fun w3 h3 => ⟨?_, h3.ext0⟩
        rw [List.take_of_length_le (by rw [h.len]; exact Nat.le_refl _), List.take_of_length_le (by rw [h2.len]; omega)] at htk
        rw [(sameB_iff xs ys).2 htk]
        rfl
end Go.Proofs.Ytdmengbemonkaaa
