import Derived.Test.YtdmengbemonkaaaNG
set_option linter.all false
namespace Go.Proofs.Ytdmengbemonkaaa
open Go Go.Flow

theorem putL_len (xs : List Mail) (x : Mail) (h : xs.length ≤ 512) : (putL xs x).length = min (xs.length + 1) 512 := by
  unfold putL; split
  · simp; omega
  · omega
theorem placeN_lt (a : Int) (n : Nat) (hn : 0 < n) : placeN a n < n := by
  have h4 : 0 ≤ (a.tmod n + n).tmod n := Int.tmod_nonneg _ (by have := Int.lt_tmod_of_pos a (show (0 : Int) < n by omega); omega)
  have h5 : (a.tmod n + n).tmod n < n := Int.tmod_lt_of_pos _ (by omega)
  unfold placeN; omega
theorem twinL_len (xs : List Mail) (a : Int) (h0 : 0 < xs.length) (h : xs.length ≤ 512) : (twinL xs a).length = min (xs.length + 1) 512 := by
  unfold twinL
  rw [List.getElem?_eq_getElem (placeN_lt a xs.length h0)]
  exact putL_len _ _ h
theorem full_c (w : World) (F : Nat → Prop) (A : Option Addr) (n c : Nat) (bs : List UInt8) (m : Int) (h : SliceR kU8 w F A n bs) (hm0 : 0 ≤ m) (hm : m ≤ 255) :
    Calls Try.prog 4 #[.slice A n c, .int .u8 m] w fun e w' => e = .returned (.bool true) ∧ Ext no w w' := by
  apply calls_of_vc T.C 4 Try.f4 _ [.slice A n c, .int .u8 m] w no _ Try.func4 rfl rfl
  refine call_ev fun w1 h1 => (alive_c w1).mono ?_
  rintro e w2 ⟨rfl, hx2⟩
  refine ⟨_, rfl, hx2, ?_⟩
  clear h1
  refine if_no rfl ?_
  refine make_ev kMail ⟨0, []⟩ (T := 25) (e := 29) rfl rfl rfl rfl (by decide) (fun w => ⟨none, 0, 0, rfl, SliceR.nil _ _ _ _⟩) rfl rfl 508 rfl rfl (by decide) (by decide) ?_
  intro w3 h3 b w4 hb hx4 hown
  have hb0 : w.heap.size ≤ b := by rw [hb]; exact h3.size
  clear h3
  obtain ⟨k, hk, hk9⟩ : ∃ k : Nat, (m.tmod 9) = k ∧ k < 9 := by
    refine ⟨(m.tmod 9).toNat, (Int.toNat_of_nonneg (Int.tmod_nonneg _ hm0)).symm, ?_⟩
    have := Int.tmod_lt_of_pos m (show (0 : Int) < 9 by omega)
    have := Int.tmod_nonneg 9 hm0
    omega
  have hwr : IntKind.i64.wrap m = m := wrap_ok (by omega) (by omega)
  refine loop_ev (γ := Nat × Value) (fun y => [(7, .v (.int .i64 y.1)), (5, .v y.2), (6, .v (.int .i64 k)), (0, .v (.slice A n c))]) (fun _ => [])
    (fun y u => y.1 ≤ k ∧ Ext no w u ∧ ∃ F' xs, Own kMail 29 u (new w.heap.size) F' y.2 xs ∧ xs.length = min (508 + y.1) 512 ∧ ∀ b, F' b → w.heap.size ≤ b) (fun y => k - y.1) (fun _ => rfl) ?_ ?_
  · intro w5 h5
    refine ⟨(0, _), ⟨rfl, rfl, ?_, rfl⟩, List.nil_prefix, Nat.zero_le _, h5.ext0, no, List.replicate 508 ⟨0, []⟩, (hown.ext0 (h5.extNo trivial)).mono (fun j hj _ => ?_) (fun _ h _ => h) (fun _ _ h _ => h), by rw [List.length_replicate]; rfl, fun _ h => h.elim⟩
    · show Value.int .i64 ((IntKind.i64.wrap m).tmod 9) = _
      rw [hwr, hk]; rfl
    · subst hj; exact hb0
  · rintro ⟨i, v⟩ g u ⟨(hi : i ≤ k), hu, F', xs, (hown : Own kMail 29 u (new w.heap.size) F' v xs), hlx, hF'⟩
    have hlx : xs.length = min (508 + i) 512 := hlx
    obtain ⟨Al, cl, rfl, hcl, hsl⟩ := hown.slice
    refine if_split (fun hlt => ?_) (fun hge => ?_)
    · have hlt : i < k := dlt hlt
      intro b2 hb2
      refine call_evD [0] fun w5 h5 => (post_c w5 _ (fun k => F k ∨ k = b2) Al (some ⟨b2, 0, none⟩) _ cl 1 1 _ _ [bs] (hsl.ext0 (h5.extF ⟨hb2, trivial⟩)) (by omega)
          (row_list (h5.bx 0 rfl) ⟨A, n, c, rfl, (h.ext0 h5.ext0).mono (fun k hk _ => .inl hk) (by decide)⟩ (.inr rfl))).mono ?_
      rintro e w6 ⟨v, F3, rfl, hx6, hown3, hF3⟩
      refine ⟨_, rfl, hx6, ?_⟩
      have hs1 := h5.size
      clear h5
      intro w7 h7
      refine ⟨(i + 1, v), ⟨next_i (by omega), rfl, rfl, rfl⟩, List.nil_prefix, ⟨hlt, h7.ext0, F3, _, (hown3.ext0 (h7.extNo trivial)).mono (fun k hk _ => Nat.le_trans hs1 hk) (fun _ h _ => h) (fun _ _ h _ => h), ?_, fun k hk => Nat.le_trans hs1 (hF3 k hk)⟩, by simp; omega⟩
      show (putL xs _).length = min (508 + (i + 1)) 512
      rw [putL_len _ _ (by omega), hlx]; omega
    · have hik : i = k := by have := dge hge; omega
      subst hik
      have hw1 : IntKind.i64.wrap (508 + (i : Int)) = 508 + i := wrap_ok (by omega) (by omega)
      have hw2 : IntKind.i64.wrap ((if (512 : Int) < 508 + (i : Int) then 512 else 508 + (i : Int)) + 1) = (if (512 : Int) < 508 + (i : Int) then 512 else 508 + (i : Int)) + 1 := by
        split <;> exact wrap_ok (by omega) (by omega)
      refine g_yes ?_ ?_
      · show ((xs.length : Int) == (if (512 : Int) < IntKind.i64.wrap (508 + (i : Int)) then 512 else IntKind.i64.wrap (508 + (i : Int)))) = true
        rw [hw1, hlx, beq_iff_eq]
        split <;> omega
      · refine call_ev fun w5 h5 => (twin_c w5 _ Al _ cl _ 1 (hsl.ext0 (h5.extNo trivial)) (by omega)).mono ?_
        rintro e w6 ⟨v, F3, rfl, hx6, hown3, hF3⟩
        obtain ⟨A3, c3, rfl, hc3, hs3⟩ := hown3.slice
        refine ⟨_, rfl, hx6, ?_⟩
        refine JoinP.mk fun w7 h7 => ⟨?_, h7.ext0⟩
        clear h7
        refine congrArg Ending.returned ?_
        conv => lhs; whnf
        conv => lhs; arg 1; whnf
        show Value.bool (((twinL xs 1).length : Int) == (if (512 : Int) < IntKind.i64.wrap ((if (512 : Int) < IntKind.i64.wrap (508 + (i : Int)) then 512 else IntKind.i64.wrap (508 + (i : Int))) + 1) then 512
          else IntKind.i64.wrap ((if (512 : Int) < IntKind.i64.wrap (508 + (i : Int)) then 512 else IntKind.i64.wrap (508 + (i : Int))) + 1))) = _
        rw [hw1, hw2, twinL_len xs 1 (by omega) (by omega), hlx]
        refine congrArg Value.bool ?_
        rw [beq_iff_eq]
        split <;> split at * <;> omega

theorem full_w (w : World) (F : Nat → Prop) (A : Option Addr) (n c : Nat) (bs : List UInt8) (hl : n ≤ c) (h : SliceR kU8 w F A n bs) (m : Int) (wf : (Lit.int .u8 m).wf = true) :
    Calls Try.prog 4 #[.slice A n c, .int .u8 m] w fun e w' => e = .returned (.bool true) ∧ Ext no w w' := by
  have hx : 0 ≤ m ∧ m ≤ 255 := by simpa [Lit.wf, IntKind.min, IntKind.max, IntKind.signed, IntKind.bits] using wf
  exact full_c w F A n c bs m h hx.1 hx.2
end Go.Proofs.Ytdmengbemonkaaa
