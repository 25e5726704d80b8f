import Derived.Test.YtdmengbemonkaaaND
set_option linter.all false
namespace Go.Proofs.Ytdmengbemonkaaa
open Go Go.Flow

theorem alive_c (w : World) : Calls Try.prog 7 #[] w fun e w' => e = .returned (.bool true) ∧ Ext no w w' := by
  apply calls_of_vc T.C 7 Try.f7 _ [] w no _ Try.func7 rfl rfl
  intro b hb
  refine gen_ev [0] fun w1 h1 => ?_
  obtain ⟨w1', r1, r2, r3⟩ := run_const (C := T.C) (T := 27) (e := 5) (n := 1) (c := 1) rfl rfl rfl rfl (h1.bx 0 rfl)
  have hbs := h1.size
  refine ⟨fun k => k = b, _, w1', fun k _ hk => .inr (hk ▸ hb), trivial, convert_run rfl rfl r1, r2, ?_⟩
  have hbl : b < w1'.heap.size := Nat.lt_of_lt_of_le (h1.lt 0 rfl) r2.size
  clear h1
  intro b2 hb2
  have hrow : ∀ w2 F, Ext no w1' w2 → F b → SliceR kU8 w2 F (some ⟨b, 0, none⟩) 1 [120] := fun w2 F hx hF => (SliceR.u8 (bs := [120]) r3 rfl hF (by decide)).ext0 hx
  refine call_evD [1] fun w2 h2 => (post_c w2 no (fun k => k = b ∨ k = b2) none (some ⟨b2, 0, none⟩) 0 0 1 1 [] 3 [[120]] (SliceR.nil _ _ _ _) (by omega)
    (row_list (h2.bx 1 rfl) ⟨_, _, _, rfl, hrow w2 _ (h2.extF ⟨hb2, trivial⟩) (.inl rfl)⟩ (.inr rfl))).mono ?_
  rintro e w3 ⟨v, F', rfl, hx3, hown, hF'⟩
  obtain ⟨A, c, rfl, hc, hs⟩ := hown.slice
  refine ⟨_, rfl, hx3, ?_⟩
  clear h2
  refine call_ev fun w4 h4 => (take_c w4 no none 0 0 [] 3 (SliceR.nil _ _ _ _) (by omega)).mono ?_
  rintro e w5 ⟨_, v2, F2, rfl, hx5, ⟨A2, n2, c2, rfl, hs2⟩, hown2, hF2⟩
  refine ⟨_, rfl, hx5, ?_⟩
  have hx4 := h4.extNo trivial
  clear h4
  intro b3 hb3
  have hsl : SliceR kMail w5 (fun b => new w2.heap.size b ∨ F' b) A 1 [⟨3, [120]⟩] := (hs.ext0 hx4).ext0 hx5
  obtain ⟨cs, _, ⟨A1, n1, c1, rfl, hd⟩, hcc⟩ := hsl.get (j := 0) rfl
  have hA := hsl.some_ (by omega)
  have hn1 := hd.len
  simp at hn1
  subst hn1
  refine ⟨fun _ => ⟨hA, by decide, by decide⟩, ?_⟩
  refine ⟨.int .i64 3, fun _ w6 h6 => (h6.extF ⟨hb3, trivial⟩).cell (hcc 0 _ rfl) (fun h => h), ?_⟩
  refine ⟨fun _ => ⟨hA, by decide, by decide⟩, ?_⟩
  refine ⟨.slice A1 1 c1, fun _ w6 h6 => (h6.extF ⟨hb3, trivial⟩).cell (hcc 1 _ rfl) (fun h => h), ?_⟩
  refine ⟨[120], fun _ => ⟨rfl, hd.some_, fun w6 h6 => (hd.ext0 (h6.extF ⟨hb3, trivial⟩)).bytes⟩, ?_⟩
  refine JoinP.mk fun w6 h6 => ⟨?_, h6.ext0⟩
  clear h6
  refine congrArg Ending.returned ?_
  conv => lhs; whnf
  conv => lhs; arg 1; whnf
  simp only [ba_mk]
  rfl
end Go.Proofs.Ytdmengbemonkaaa
