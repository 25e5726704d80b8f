import Derived.Test.YtdmengbemonkaaaNJ
import Derived.Test.YtdmengbemonkaaaNH
set_option linter.all false
namespace Go.Proofs.Ytdmengbemonkaaa
open Go Go.Flow

theorem postL_small (to : Int) : ∀ (ds : List (List UInt8)) (xs : List Mail), xs.length + ds.length ≤ 512 → postL xs to ds = xs ++ ds.map (Mail.mk to)
  | [], xs, _ => by simp [postL]
  | d :: ds, xs, h => by
    have e : putL xs ⟨to, d⟩ = xs ++ [⟨to, d⟩] := by
      unfold putL; rw [if_pos (by simp at h; omega)]
    show postL (putL xs ⟨to, d⟩) to ds = _
    rw [e, postL_small to ds _ (by simp at h ⊢; omega)]
    simp

theorem takeL_ok (xs : List Mail) (a : Int) : (takeL xs a).2.2 = decide ((xs.length : Int) > 0) := by
  unfold takeL
  rcases Nat.eq_zero_or_pos xs.length with h0 | h0
  · have : xs = [] := List.eq_nil_of_length_eq_zero h0
    subst this; rfl
  · rw [List.getElem?_eq_getElem (placeN_lt a xs.length h0)]
    simp; omega

theorem take_c2 (w : World) (F : Nat → Prop) (A : Option Addr) (n c : Nat) (xs : List Mail) (a : Int) (h : SliceR kMail w F A n xs) (hb : n ≤ 1099511627776) (x0 : Mail) (rest : List Mail) (ok : Bool) (htk : takeL xs a = (x0, rest, ok)) :
    Calls Try.prog 9 #[.slice A n c, .int .i64 a] w fun e w' => ∃ cs v F', e = .returned (.tuple #[.agg cs.toArray, v, .bool ok]) ∧ Ext no w w' ∧ kMail.rep w' (new w.heap.size) cs x0 ∧
      Own kMail 29 w' (new w.heap.size) F' v rest ∧ ∀ b, F' b → w.heap.size ≤ b := by
  have := take_c w F A n c xs a h hb
  rw [htk] at this
  exact this
theorem twin_c2 (w : World) (F : Nat → Prop) (A : Option Addr) (n c : Nat) (xs : List Mail) (a : Int) (h : SliceR kMail w F A n xs) (hb : n ≤ 1099511627776) (ys : List Mail) (hys : twinL xs a = ys) :
    Calls Try.prog 10 #[.slice A n c, .int .i64 a] w fun e w' => ∃ v F', e = .returned v ∧ Ext no w w' ∧ Own kMail 29 w' (new w.heap.size) F' v ys ∧ ∀ b, F' b → w.heap.size ≤ b := by
  have := twin_c w F A n c xs a h hb
  rw [hys] at this
  exact this
theorem one_c2 (w : World) (F G : Nat → Prop) (cs ds : List Value) (x y : Mail) (h : kMail.rep w F cs x) (h2 : kMail.rep w G ds y) (b : Bool) (hb : eqM x y = b) :
    Calls Try.prog 13 #[.agg cs.toArray, .agg ds.toArray] w fun e w' => e = .returned (.bool b) ∧ Ext no w w' := by
  have := one_c w F G cs ds x y h h2
  rw [hb] at this
  exact this
theorem same_c2 (w : World) (F G : Nat → Prop) (A A2 : Option Addr) (n c n2 c2 : Nat) (xs ys : List Mail) (h : SliceR kMail w F A n xs) (h2 : SliceR kMail w G A2 n2 ys) (b : Bool) (hb : sameB xs ys = b) :
    Calls Try.prog 12 #[.slice A n c, .slice A2 n2 c2] w fun e w' => e = .returned (.bool b) ∧ Ext no w w' := by
  have := same_c w F G A A2 n c n2 c2 xs ys h h2
  rw [hb] at this
  exact this
theorem takeL_nil (a : Int) : takeL [] a = (⟨0, []⟩, [], false) := by unfold takeL; rw [List.getElem?_nil]
theorem twinL_nil (a : Int) : twinL [] a = [] := by unfold twinL; rw [List.getElem?_nil]
set_option maxHeartbeats 4000000 in
theorem tells_c (w : World) (F F2 : Nat → Prop) (A A2 : Option Addr) (n c n2 c2 : Nat) (xs : List Mail) (to at_ : Int) (ds : List (List UInt8)) (hcap : n ≤ c) (h : SliceR kMail w F A n xs) (h2 : SliceR kBytes w F2 A2 n2 ds) :
    Calls Try.prog 6 #[.slice A n c, .int .i64 to, .slice A2 n2 c2, .int .i64 at_] w fun e w' => e = .returned (.bool true) ∧ Ext no w w' := by
  obtain ⟨G, hG⟩ : ∃ G : Nat → Prop, G = fun k => F k ∧ k < w.heap.size := ⟨_, rfl⟩
  replace h : SliceR kMail w G A n xs := hG ▸ h.here (by decide)
  have hG' : ∀ k, G k → k < w.heap.size := by rw [hG]; exact fun k h => h.2
  obtain ⟨G2, hG2⟩ : ∃ G : Nat → Prop, G = fun k => F2 k ∧ k < w.heap.size := ⟨_, rfl⟩
  replace h2 : SliceR kBytes w G2 A2 n2 ds := hG2 ▸ h2.here (by decide)
  have hG2' : ∀ k, G2 k → k < w.heap.size := by rw [hG2]; exact fun k h => h.2
  apply calls_of_vc T.C 6 Try.f6 _ [.slice A n c, .int .i64 to, .slice A2 n2 c2, .int .i64 at_] w no _ Try.func6 rfl rfl
  refine call_ev fun w1 h1 => (alive_c w1).mono ?_
  rintro e w2 ⟨rfl, hx2⟩
  refine ⟨_, rfl, hx2, ?_⟩
  have hw2 : w.heap.size ≤ w2.heap.size := Nat.le_trans h1.size hx2.size
  clear h1
  obtain ⟨FF, hFF⟩ : ∃ F : Nat → Prop, F = fun k => G k ∨ G2 k := ⟨_, rfl⟩
  have hFo : ∀ k, FF k → k < w.heap.size := by rw [hFF]; exact fun k h => h.elim (hG' k) (hG2' k)
  have hGF : ∀ k, G k → FF k := by rw [hFF]; exact fun k h => .inl h
  have hG2F : ∀ k, G2 k → FF k := by rw [hFF]; exact fun k h => .inr h
  refine if_no rfl ?_
  refine if_split (fun _ => JoinP.mk fun w1 h1 => ⟨rfl, h1.ext0⟩) (fun hle => ?_)
  have hn : n ≤ 400 ∧ n2 ≤ 50 := by
    have h0 : (bif decide ((n : Int) > 400) then true else decide ((n2 : Int) > 50)) = false := hle
    cases h3 : decide ((n : Int) > 400) <;> rw [h3] at h0 <;> simp at h0 h3 <;> omega
  intro b hb
  refine append_ev kMail [0] (T := 25) (e := 29) rfl rfl rfl rfl (by decide) (by decide) rfl rfl rfl ?_
  intro w3 h3
  refine ⟨fun k => k = b, no, G, [], xs, Own.lit0 (h3.bx 0 rfl) (fun h => h), h.len, h.some_, (h.ext0 h3.ext0).row, ?_, ?_, fun k _ hk => .inr (hk ▸ Nat.le_trans hw2 hb), trivial, fun v w4 hx4 hown4 hn4 => ?_⟩
  · intro k hk hg
    have hbk : some b = some k := hk
    injection hbk with hbk
    exact absurd (hG' k hg) (by omega)
  · show (0 + n) * 32 ≤ _; omega
  have hw3 : w.heap.size ≤ w3.heap.size := h3.size
  clear h3
  have hown0 : Own kMail 29 w4 (new w.heap.size) FF v (xs ++ ([] : List (List UInt8)).map (Mail.mk to)) := by
    rw [List.map_nil, List.append_nil]
    refine hown4.mono (fun k hk _ => ?_) (fun k hk _ => ?_) (fun k hk hf _ => ?_)
    · rcases hk with rfl | hk
      · exact Nat.le_trans hw2 hb
      · exact Nat.le_trans hw3 hk
    · exact hk.1.elim (fun h => h.elim) (hGF k)
    · have hlt := hFo k hf
      rcases hk with hk | hk
      · exact absurd hlt (by rw [hk]; omega)
      · exact absurd hlt (Nat.not_lt.2 (Nat.le_trans hw3 hk))
  refine loop_ev (γ := Nat × Value) (fun y => [(10, .v (.int .i64 y.1)), (9, .v y.2), (0, .v (.slice A n c)), (1, .v (.int .i64 to)), (2, .v (.slice A2 n2 c2)), (3, .v (.int .i64 at_))]) (fun _ => [])
    (fun y u => y.1 ≤ n2 ∧ Ext no w u ∧ Own kMail 29 u (new w.heap.size) FF y.2 (xs ++ (ds.take y.1).map (Mail.mk to))) (fun y => n2 - y.1) (fun _ => rfl) ?_ ?_
  · intro w5 h5
    exact ⟨(0, v), ⟨rfl, rfl, rfl, rfl, rfl, rfl⟩, List.nil_prefix, Nat.zero_le _, h5.ext0, hown0.ext0 (h5.extNo trivial)⟩
  rintro ⟨i, v1⟩ g u ⟨(hi : i ≤ n2), hu, (hown : Own kMail 29 u (new w.heap.size) FF v1 (xs ++ (ds.take i).map (Mail.mk to)))⟩
  refine if_split (fun hlt => ?_) (fun hge => ?_)
  · have hlt : i < n2 := dlt hlt
    obtain ⟨d, hd⟩ : ∃ d, ds[i]? = some d := ⟨_, List.getElem?_eq_getElem (by rw [h2.len]; exact hlt)⟩
    obtain ⟨_, _, ⟨A1, n1, c1, rfl, hs1⟩, hc1⟩ := h2.get hd
    refine ⟨⟨h2.some_ (by omega), Int.natCast_nonneg _, Int.ofNat_lt.2 hlt⟩, .slice A1 n1 c1, fun w5 h5 => h5.ext0.cell hc1.head (fun h => h), ?_⟩
    intro b2 hb2
    refine append_ev kMail [0] (T := 25) (e := 29) rfl rfl rfl rfl (by decide) (by decide) rfl rfl rfl ?_
    intro w5 h5
    have hs5 : w.heap.size ≤ w5.heap.size := h5.size
    have hrow := row_one (d := kMail) (x := ⟨to, d⟩) (F := G2) (h5.bx 0 rfl) ⟨A1, n1, c1, rfl, hs1.ext0 h5.ext0⟩
    have hx5 : Ext no u w5 := h5.extF ⟨hb2, trivial⟩
    have hb25 : b2 < w5.heap.size := h5.lt 0 rfl
    clear h5
    have hlx : (xs ++ (ds.take i).map (Mail.mk to)).length = n + i := by have := h.len; have := h2.len; simp; omega
    refine ⟨fun k => new w.heap.size k ∧ k < u.heap.size, FF, G2, xs ++ (ds.take i).map (Mail.mk to), [⟨to, d⟩], ?_, rfl, fun _ => rfl, hrow, ?_, ?_, fun k _ hk => .inr hk.1, trivial, fun v' w6 hx6 hown6 hn6 => ?_⟩
    · exact (hown.mono (B' := fun k => new w.heap.size k ∧ k < u.heap.size) (fun k hk hl => ⟨hk, hl⟩) (fun _ h _ => h) (fun _ _ h _ => h)).ext0 hx5
    · exact fun k hk hg => absurd (hG2' k hg) (Nat.not_lt.2 (hown.blk k hk).2.1)
    · rw [hlx]; show (n + i + 1) * 32 ≤ _; omega
    intro w7 h7
    refine ⟨(i + 1, v'), ⟨next_i (i := i) (by omega), rfl, rfl, rfl, rfl, rfl⟩, List.nil_prefix, ⟨hlt, h7.ext0, ?_⟩, by simp; omega⟩
    rw [take_snoc hd, List.map_append, ← List.append_assoc]
    refine (hown6.ext0 (h7.extNo trivial)).mono (fun k hk _ => ?_) (fun k hk _ => ?_) (fun k hk hf _ => ?_)
    · exact hk.elim (fun h => h.1) (fun h => Nat.le_trans hs5 h)
    · exact hk.1.elim (fun h => h) (hG2F k)
    · exact ⟨.inl hf, Nat.lt_of_lt_of_le (hFo k hf) hs5⟩
  · have hin : i = n2 := by have : n2 ≤ i := dge hge; omega
    subst hin
    rw [List.take_of_length_le (by rw [h2.len]; exact Nat.le_refl _)] at hown
    obtain ⟨more, hmore⟩ : ∃ more, more = xs ++ ds.map (Mail.mk to) := ⟨_, rfl⟩
    rw [← hmore] at hown
    obtain ⟨MB, hMB⟩ : ∃ MB : Nat → Prop, MB = fun k => new w.heap.size k ∧ k < u.heap.size := ⟨_, rfl⟩
    have hMl : ∀ k, MB k → k < u.heap.size := by rw [hMB]; exact fun k h => h.2
    have hM0 : Own kMail 29 u MB FF v1 more := by rw [hMB]; exact hown.mono (fun k hk hl => ⟨hk, hl⟩) (fun _ h _ => h) (fun _ _ h _ => h)
    have hus := hu.size
    refine loop_ev (γ := Nat × Value) (fun y => [(12, .v (.int .i64 y.1)), (11, .v y.2), (9, .v v1), (0, .v (.slice A n c)), (1, .v (.int .i64 to)), (2, .v (.slice A2 i c2)), (3, .v (.int .i64 at_))]) (fun _ => [])
      (fun y u' => y.1 ≤ n ∧ Ext no w u' ∧ u.heap.size ≤ u'.heap.size ∧ Own kMail 29 u' (new u.heap.size) G y.2 (keepL (xs.take y.1) to) ∧ Own kMail 29 u' MB FF v1 more) (fun y => n - y.1) (fun _ => rfl) ?_ ?_
    · intro w5 h5
      exact ⟨(0, .slice none 0 0), ⟨rfl, rfl, rfl, rfl, rfl, rfl, rfl⟩, List.nil_prefix, Nat.zero_le _, h5.ext0, (h5.extNo trivial).size, Own.nil _ _ _ _ _, hM0.ext0 (h5.extNo trivial)⟩
    clear hown hM0
    rintro ⟨j, v2⟩ g2 u2 ⟨(hj : j ≤ n), hu2, hsu, (hmine : Own kMail 29 u2 (new u.heap.size) G v2 (keepL (xs.take j) to)), hM⟩
    refine if_split (fun hlt => ?_) (fun hge => ?_)
    · have hlt : j < n := dlt hlt
      obtain ⟨m, hm⟩ : ∃ m, xs[j]? = some m := ⟨_, List.getElem?_eq_getElem (by rw [h.len]; exact hlt)⟩
      obtain ⟨_, _, ⟨A1, n1, c1, rfl, hs1⟩, hc1⟩ := h.get hm
      have hkl : keepL (xs.take (j + 1)) to = keepL (xs.take j) to ++ keepL [m] to := by
        rw [take_snoc hm]; unfold keepL; rw [List.filter_append]
      refine ⟨⟨h.some_ (by omega), Int.natCast_nonneg _, Int.ofNat_lt.2 hlt⟩, .int .i64 m.to, fun w5 h5 => h5.ext0.cell (hc1 0 _ rfl) (fun h => h), ?_⟩
      refine if_split (fun hy => ?_) (fun hy => ?_)
      · have hk1 : keepL [m] to = [m] := by
          have h0 : (m.to == to) = true := hy
          unfold keepL; simp [h0]
        refine ⟨⟨h.some_ (by omega), Int.natCast_nonneg _, Int.ofNat_lt.2 hlt⟩, [.int .i64 m.to, .slice A1 n1 c1], ⟨rfl, fun w5 h5 => hc1.ext h5.ext0 (fun h => h)⟩, ?_⟩
        intro b2 hb2
        refine append_ev kMail [0] (T := 25) (e := 29) rfl rfl rfl rfl (by decide) (by decide) rfl rfl rfl ?_
        intro w5 h5
        have hs5 : w.heap.size ≤ w5.heap.size := h5.size
        have hrow := row_one (d := kMail) (x := m) (F := G) (h5.bx 0 rfl) ⟨A1, n1, c1, rfl, hs1.ext0 h5.ext0⟩
        have hx5 : Ext no u2 w5 := h5.extF ⟨hb2, trivial⟩
        clear h5
        have hkl2 : (keepL (xs.take j) to).length ≤ n := Nat.le_trans (List.length_filter_le _ _) (by rw [List.length_take, h.len]; omega)
        refine ⟨fun k => new u.heap.size k ∧ k < u2.heap.size, G, G, keepL (xs.take j) to, [m], ?_, rfl, fun _ => rfl, hrow, ?_, ?_, fun k _ hk => .inr (Nat.le_trans hus hk.1), trivial, fun v' w6 hx6 hown6 hn6 => ?_⟩
        · exact (hmine.mono (B' := fun k => new u.heap.size k ∧ k < u2.heap.size) (fun k hk hl => ⟨hk, hl⟩) (fun _ h _ => h) (fun _ _ h _ => h)).ext0 hx5
        · exact fun k hk hg => absurd (hG' k hg) (Nat.not_lt.2 (Nat.le_trans hus (hmine.blk k hk).2.1))
        · show ((keepL (xs.take j) to).length + 1) * 32 ≤ _; omega
        intro w7 h7
        have hx7 := h7.extNo trivial
        refine ⟨(j + 1, v'), ⟨next_i (i := j) (by omega), rfl, rfl, rfl, rfl, rfl, rfl⟩, List.nil_prefix, ⟨hlt, h7.ext0, Nat.le_trans hsu (Nat.le_trans hx5.size (Nat.le_trans hx6.size hx7.size)), ?_, ?_⟩, by simp; omega⟩
        · rw [hkl, hk1]
          refine (hown6.ext0 hx7).mono (fun k hk _ => ?_) (fun k hk _ => ?_) (fun k hk hf _ => ?_)
          · exact hk.elim (fun h => h.1) (fun h => Nat.le_trans hsu (Nat.le_trans hx5.size h))
          · exact hk.1.elim (fun h => h) (fun h => h)
          · exact ⟨.inl hf, Nat.lt_of_lt_of_le (hG' k hf) hs5⟩
        · refine ((hM.ext0 hx5).ext hx6 (fun k hk _ e => ?_)).ext0 hx7
          have hge := (hmine.blk k e).2.1
          rcases hk with hk | hk
          · exact absurd (hMl k hk) (Nat.not_lt.2 hge)
          · exact absurd (hFo k hk) (Nat.not_lt.2 (Nat.le_trans hus hge))
      · have hk1 : keepL [m] to = [] := by
          have h0 : (m.to == to) = false := hy
          unfold keepL; simp [h0]
        intro w7 h7
        have hx7 := h7.extNo trivial
        refine ⟨(j + 1, v2), ⟨next_i (i := j) (by omega), rfl, rfl, rfl, rfl, rfl, rfl⟩, List.nil_prefix, ⟨hlt, h7.ext0, Nat.le_trans hsu hx7.size, ?_, hM.ext0 hx7⟩, by simp; omega⟩
        rw [hkl, hk1, List.append_nil]
        exact hmine.ext0 hx7
    · have hjn : j = n := by have : n ≤ j := dge hge; omega
      subst hjn
      rw [List.take_of_length_le (by rw [h.len]; exact Nat.le_refl _)] at hmine
      have hx0 : ∀ w', Ext no w w' → SliceR kMail w' G A j xs := fun w' hx => h.ext0 hx
      obtain ⟨x0, rest, ok, htk⟩ : ∃ x0 rest ok, takeL xs at_ = (x0, rest, ok) := ⟨_, _, _, rfl⟩
      have hok : ok = decide ((j : Int) > 0) := by have := takeL_ok xs at_; rw [htk, h.len] at this; exact this
      refine call_ev fun w5 h5 => (take_c2 w5 G A j c xs at_ (h.ext0 h5.ext0) (by omega) x0 rest ok htk).mono ?_
      rintro e w6 ⟨_, vr, F6, rfl, hx6, ⟨A6, n6, c6, rfl, hs6⟩, hown6, hF6⟩
      refine ⟨_, rfl, hx6, ?_⟩
      have hx5 := h5.extNo trivial
      have hw5 : w.heap.size ≤ w5.heap.size := h5.size
      clear h5
      intro b hb6
      -- facts that live at w6
      have hM6 : Own kMail 29 w6 MB FF v1 more := (hM.ext0 hx5).ext0 hx6
      have hmine6 : Own kMail 29 w6 (new u.heap.size) G v2 (keepL xs to) := (hmine.ext0 hx5).ext0 hx6
      obtain ⟨Am, cm, rfl, hcm, hsm⟩ := hM6.slice
      obtain ⟨Ai, ci, rfl, hci, hsi⟩ := hmine6.slice
      obtain ⟨Ar, cr, rfl, hcr, hsr⟩ := hown6.slice
      have hpo : postL xs to ds = more := by rw [hmore]; exact postL_small to ds xs (by have := h.len; have := h2.len; omega)
      refine call_ev fun w7 h7 => (post_c w7 G G2 A A2 j c i c2 xs to ds (h.ext0 h7.ext0) (by omega) (h2.ext0 h7.ext0)).mono ?_
      rintro e w8 ⟨vp, F8, rfl, hx8, hown8, hF8⟩
      obtain ⟨Ap, cp, rfl, hcp, hsp⟩ := hown8.slice
      refine ⟨_, rfl, hx8, ?_⟩
      have hx67 : Ext no w6 w7 := h7.extF ⟨hb6, trivial⟩
      have hb7 : b < w7.heap.size := h7.lt 0 rfl
      clear h7
      have hx68 : Ext no w6 w8 := hx67.trans hx8
      refine call_ev fun w9 h9 => (same_c w9 _ _ Ap Am _ cp _ cm _ _ (hsp.ext (h9.extS (S := fun k => k = b) ⟨rfl, trivial⟩) (fun k hk _ e => by
        subst e
        rcases hk with hk | hk
        · exact absurd (show w7.heap.size ≤ k from hk) (by omega)
        · exact absurd (hF8 _ hk) (by omega))) (hsm.ext0 (h9.from hx68 ⟨hb6, trivial⟩))).mono ?_
      rw [hpo, (sameB_iff more more).2 rfl]
      rintro e w10 ⟨rfl, hx10⟩
      refine ⟨_, rfl, hx10, ?_⟩
      have hx610 : Ext no w6 w10 := (h9.from hx68 ⟨hb6, trivial⟩).trans hx10
      clear h9
      refine g_yes rfl ?_
      refine call_ev fun w11 h11 => (for_c w11 G A j c xs to (h.ext0 h11.ext0) (by omega)).mono ?_
      rintro e w12 ⟨vf, F12, rfl, hx12, hown12, hF12⟩
      obtain ⟨Af, cf, rfl, hcf, hsf⟩ := hown12.slice
      refine ⟨_, rfl, hx12, ?_⟩
      have hx611 : Ext no w6 w11 := h11.from hx610 ⟨hb6, trivial⟩
      have hb11 : b < w11.heap.size := h11.lt 0 rfl
      clear h11
      have hx612 : Ext no w6 w12 := hx611.trans hx12
      refine g_yes rfl ?_
      refine call_ev fun w13 h13 => (same_c w13 _ _ Af Ai _ cf _ ci _ _ (hsf.ext (h13.extS (S := fun k => k = b) ⟨rfl, trivial⟩) (fun k hk _ e => by
        subst e
        rcases hk with hk | hk
        · exact absurd (show w11.heap.size ≤ k from hk) (by omega)
        · exact absurd (hF12 _ hk) (by omega))) (hsi.ext0 (h13.from hx612 ⟨hb6, trivial⟩))).mono ?_
      rw [(sameB_iff (keepL xs to) (keepL xs to)).2 rfl]
      rintro e w14 ⟨rfl, hx14⟩
      refine ⟨_, rfl, hx14, ?_⟩
      have hx614 : Ext no w6 w14 := (h13.from hx612 ⟨hb6, trivial⟩).trans hx14
      have hx1213 : w12.heap.size ≤ w13.heap.size := (h13.extS (S := fun k => k = b) ⟨rfl, trivial⟩).size
      clear h13
      refine if_no ?_ ?_
      · conv => lhs; whnf
        rw [hok]
        cases decide ((j : Int) > 0) <;> rfl
      refine if_split (fun hno => ?_) (fun hyes => ?_)
      · have hxe : xs = [] := by
          have h0 : (!ok) = true := hno
          rw [hok] at h0
          have h1 : ¬ (j : Int) > 0 := by simpa using h0
          exact List.eq_nil_of_length_eq_zero (by rw [h.len]; omega)
        have hx0 : x0 = ⟨0, []⟩ ∧ rest.length = 0 := by
          rw [hxe, takeL_nil] at htk
          injection htk with h1 h2; injection h2 with h2 h3; exact ⟨h1.symm, by rw [← h2]; rfl⟩
        obtain ⟨hx0, hrest⟩ := hx0
        refine call_ev fun w15 h15 => (one_c2 w15 _ no _ [.int .i64 0, .slice none 0 0] x0 ⟨0, []⟩ ⟨A6, n6, c6, rfl, hs6.ext0 (h15.from hx614 ⟨hb6, trivial⟩)⟩ ⟨none, 0, 0, rfl, SliceR.nil _ _ _ _⟩ true (by rw [hx0]; rfl)).mono ?_
        rintro e w16 ⟨rfl, hx16⟩
        refine ⟨_, rfl, hx16, ?_⟩
        clear h15
        refine g_yes rfl ?_
        refine call_ev fun w17 h17 => (twin_c2 w17 G A j c xs at_ (h.ext0 h17.ext0) (by omega) [] (by rw [hxe]; exact twinL_nil _)).mono ?_
        rintro e w18 ⟨vt, F18, rfl, hx18, hown18, hF18⟩
        obtain ⟨At_, ct, rfl, hct, hst⟩ := hown18.slice
        refine ⟨_, rfl, hx18, ?_⟩
        refine JoinP.mk fun w19 h19 => ⟨?_, h19.ext0⟩
        clear h17 h19
        refine congrArg Ending.returned ?_
        conv => lhs; whnf
        conv => lhs; arg 1; whnf
        rw [hrest]
        rfl
      · have hn0 : 0 < j := by
          have h0 : (!ok) = false := hyes
          rw [hok] at h0
          have h1 : (j : Int) > 0 := by simpa using h0
          omega
        have hj0 : (j : Int) ≠ 0 := by omega
        have hpl : (IntKind.i64.wrap (at_.tmod j + j)).tmod j = (placeN at_ j : Int) := by
          have h1 : (at_.tmod j) < j := Int.tmod_lt_of_pos _ (by omega)
          have h2 : -(j : Int) < at_.tmod j := by
            have := Int.lt_tmod_of_pos at_ (show (0 : Int) < j by omega); omega
          rw [wrap_ok (by omega) (by omega)]
          unfold placeN
          rw [Int.toNat_of_nonneg (Int.tmod_nonneg _ (by omega))]
        obtain ⟨P, hP⟩ : ∃ P : Int, P = (IntKind.i64.wrap (at_.tmod j + j)).tmod j := ⟨_, rfl⟩
        rw [← hP] at hpl
        obtain ⟨p, hp⟩ : ∃ p : Nat, p = placeN at_ j := ⟨_, rfl⟩
        rw [← hp] at hpl
        have hpj : p < j := by rw [hp]; exact placeN_lt at_ j hn0
        obtain ⟨m0, hm0⟩ : ∃ m, xs[p]? = some m := ⟨_, List.getElem?_eq_getElem (by rw [h.len]; exact hpj)⟩
        have hx0 : x0 = m0 ∧ rest = xs.eraseIdx p := by
          unfold takeL at htk
          rw [h.len, ← hp, hm0] at htk
          injection htk with h1 h2; injection h2 with h2 h3; exact ⟨h1.symm, h2.symm⟩
        have htw : twinL xs at_ = xs ++ [m0] := by
          unfold twinL
          rw [h.len, ← hp, hm0]
          show putL xs m0 = _
          unfold putL
          rw [if_pos (by rw [h.len]; omega)]
        refine ⟨⟨rfl, hj0⟩, ⟨rfl, hj0⟩, ?_⟩
        have hP0 : (0 : Int) ≤ (IntKind.i64.wrap (at_.tmod j + j)).tmod j := by rw [← hP, hpl]; omega
        have hPc : (IntKind.i64.wrap (at_.tmod j + j)).tmod j ≤ (c : Int) := by rw [← hP, hpl]; omega
        have hP1 : IntKind.i64.wrap ((IntKind.i64.wrap (at_.tmod j + j)).tmod j + 1) = ((p + 1 : Nat) : Int) := by rw [← hP, hpl, wrap_ok (by omega) (by omega)]; omega
        have hP2 : (0 : Int) ≤ IntKind.i64.wrap ((IntKind.i64.wrap (at_.tmod j + j)).tmod j + 1) := by rw [hP1]; omega
        have hP3 : IntKind.i64.wrap ((IntKind.i64.wrap (at_.tmod j + j)).tmod j + 1) ≤ (j : Int) := by rw [hP1]; omega
        have hjc : (j : Int) ≤ (c : Int) := by omega
        have hPn : ((IntKind.i64.wrap (at_.tmod j + j)).tmod j).toNat = p := by rw [← hP, hpl]; rfl
        have hPn1 : (IntKind.i64.wrap ((IntKind.i64.wrap (at_.tmod j + j)).tmod j + 1)).toNat = p + 1 := by rw [hP1]; rfl
        have hs614 := hx614.size
        have hw6 : w.heap.size ≤ w6.heap.size := by have := hx6.size; omega
        have hw14 : w.heap.size ≤ w14.heap.size := by omega
        refine draw_ev 9 [[], [], [], [1, 2], [0, 1, 2, 3], [], [], [6], [5, 6, 7], [0, 1, 2, 3, 4, 5, 6, 7, 8], [0, 1, 2, 3, 4, 5, 6, 7, 8, 9]] [1, 2, 3, 5, 6, 7, 8, 0, 4, 9, 10] (by kernel_rfl) (by kernel_rfl) (by kernel_rfl) ?_
        refine ⟨⟨Int.le_refl 0, hP0, hPc, Int.le_refl _⟩, ?_⟩
        refine ⟨⟨hP2, hP3, hjc, Int.le_refl _⟩, ?_⟩
        intro b15 hb15
        refine append_ev0 kMail [1] (T := 25) (e := 29) rfl rfl rfl rfl (by decide) (by decide) rfl rfl rfl ?_
        intro w15 h15
        have hx615 : Ext no w6 w15 := h15.from hx614 ⟨hb6, Nat.le_trans hs614 hb15, trivial⟩
        have hw15 : w.heap.size ≤ w15.heap.size := h15.size
        have hsub1 : SliceR kMail w15 G (subA A 0 c 2) (p - 0) ((xs.take p).drop 0) := (h.ext0 h15.ext0).sub 0 p c (Nat.zero_le _) (by omega) (by omega)
        refine ⟨h15.bx 1 rfl, G, (xs.take p).drop 0, ?_, ?_, ?_, fun hg => absurd (hG' _ hg) (by omega), ?_, fun v15 w16 hx16 hown16 => ?_⟩
        · rw [hPn]; exact hsub1.len
        · intro h0; rw [hPn] at h0; exact hsub1.some_ h0
        · show Row kMail w15 G (adr (subA A 0 c 2)) _
          exact hsub1.row
        · rw [hPn]; show (p - 0) * 32 ≤ _; omega
        have hb15l : b15 < w15.heap.size := h15.lt 1 rfl
        clear h15
        refine append_ev kMail [] (T := 25) (e := 29) rfl rfl rfl rfl (by decide) (by decide) rfl rfl rfl ?_
        intro w17 h17
        have hx1617 : Ext (fun k => k = b) w16 w17 := h17.extS ⟨rfl, trivial⟩
        have hw17 : w.heap.size ≤ w17.heap.size := h17.size
        have hsub2 : SliceR kMail w17 G (subA A (p + 1) c 2) (j - (p + 1)) ((xs.take j).drop (p + 1)) := (h.ext0 h17.ext0).sub (p + 1) j c (by omega) (by omega) (by omega)
        clear h17
        have hbl : b < w14.heap.size := Nat.lt_of_lt_of_le hb11 (Nat.le_trans hx12.size (Nat.le_trans hx1213 hx14.size))
        have hown17 : Own kMail 29 w17 (fun k => k = b15 ∨ w15.heap.size ≤ k) (fun k => G k ∧ k < w15.heap.size) v15 ((xs.take p).drop 0) := hown16.ext hx1617 (fun k hk _ e => by
          subst e
          rcases hk with (hk | hk) | hk
          · omega
          · omega
          · exact absurd (hG' _ hk.1) (by omega))
        refine ⟨fun k => k = b15 ∨ w15.heap.size ≤ k, fun k => G k ∧ k < w15.heap.size, G, (xs.take p).drop 0, (xs.take j).drop (p + 1), hown17, ?_, ?_, ?_, ?_, ?_, ?_, ⟨fun hk => by have hk' : b = b15 ∨ w15.heap.size ≤ b := hk; omega, trivial⟩, fun v18 w18 hx18 hown18 hn18 => ?_⟩
        · rw [hPn1]; exact hsub2.len
        · intro h0; rw [hPn1] at h0 ⊢; exact hsub2.some_ h0
        · rw [hPn1]; exact hsub2.row
        · intro k hk hg
          have := (hown17.blk k hk).2.1
          have := hG' k hg
          omega
        · rw [hPn1, hsub1.len]; show (p - 0 + (j - (p + 1))) * 32 ≤ _; omega
        · intro k _ hk
          have hk' : k = b15 ∨ w15.heap.size ≤ k := hk
          exact .inr (show w.heap.size ≤ k by omega)
        have hleft : (xs.take p).drop 0 ++ (xs.take j).drop (p + 1) = rest := by
          have e : xs.take j = xs := List.take_of_length_le (by rw [h.len]; exact Nat.le_refl _)
          rw [hx0.2, List.drop_zero, e, List.eraseIdx_eq_take_drop_succ]
        rw [hleft] at hown18
        obtain ⟨AL, cL, rfl, hcL, hsL⟩ := hown18.slice
        have hx617 : Ext no w6 w17 := (hx615.trans hx16).trans' hx1617 (fun _ h => h) (fun x hx e => by have e : x = b := e; omega)
        have hx618 : Ext no w6 w18 := hx617.trans' hx18 (fun _ h => h) (fun x hx hk => by have hk' : x = b15 ∨ w15.heap.size ≤ x := (hown17.blk x hk).2.1; omega)
        have hs1418 : w14.heap.size ≤ w18.heap.size := by have := hx1617.size; have := hx18.size; have := hx16.size; omega
        refine draw_evP 23 [[], [], [], [1, 2], [1, 2, 3], [0, 1, 2, 3, 4], [0, 1, 2, 3, 4, 5], [0, 1, 2, 3, 4, 5, 6], [0, 1, 2, 3, 4, 5, 6], [0, 1, 2, 3, 4, 5, 6, 7, 8], [0, 1, 2, 3, 4, 5, 6, 7, 8, 9], [0, 1, 2, 3, 4, 5, 6, 7, 8, 9, 10], [0, 1, 2, 3, 4, 5, 6, 7, 8, 9, 10, 11], [0, 1, 2, 3, 4, 5, 6, 7, 8, 9, 10, 11], [0, 1, 2, 3, 4, 5, 6, 7, 8, 9, 10, 11, 12, 13], [0, 1, 2, 3, 4, 5, 6, 7, 8, 9, 10, 11], [0, 1, 2, 3, 4, 5, 6, 7, 8, 9, 10, 11], [0, 1, 2, 3, 4, 5, 6, 7, 8, 9, 10, 11, 12, 13, 14, 15, 16], [0, 1, 2, 3, 4, 5, 6, 7, 8, 9, 10, 11], [0, 1, 2, 3, 4, 5, 6, 7, 8, 9, 10, 11], [0, 1, 2, 3, 4, 5, 6, 7, 8, 9, 10, 11, 18, 19], [0, 1, 2, 3, 4, 5, 6, 7, 8, 9, 10, 11, 18, 19, 20], [0, 1, 2, 3, 4, 5, 6, 7, 8, 9, 10, 11, 18, 19, 20, 21], [0, 1, 2, 3, 4, 5, 6, 7, 8, 9, 10, 11, 12, 13, 14, 15, 16, 17, 18, 19, 20, 21, 22], [0, 1, 2, 3, 4, 5, 6, 7, 8, 9, 10, 11, 12, 13, 14, 15, 16, 17, 18, 19, 20, 21, 22, 23], [0, 1, 2, 3, 4, 5, 6, 7, 8, 9, 10, 11, 12, 13, 14, 15, 16, 17, 18, 19, 20, 21, 22, 23, 24], [0, 1, 2, 3, 4, 5, 6, 7, 8, 9, 10, 11, 12, 13, 14, 15, 16, 17, 18, 19, 20, 21, 22, 23, 24, 25]] (.one 0 (.one 1 (.one 2 (.one 3 (.one 4 (.one 5 (.one 6 (.one 7 (.one 8 (.one 9 (.one 10 (.one 11 (.one 12 (.one 13 (.one 16 (.one 18 (.one 19 (.one 20 (.one 21 (.fork (.alt 14 (.fork (.alt 15 (.fork (.alt 17 (.one 22 (.one 23 (.one 24 (.one 25 (.one 26 .nil))))) (.alt 22 (.one 17 (.one 23 (.one 24 (.one 25 (.one 26 .nil))))) .stop))) (.alt 22 (.one 15 (.one 17 (.one 23 (.one 24 (.one 25 (.one 26 .nil)))))) .stop))) (.alt 15 (.fork (.alt 14 (.fork (.alt 17 (.one 22 (.one 23 (.one 24 (.one 25 (.one 26 .nil))))) (.alt 22 (.one 17 (.one 23 (.one 24 (.one 25 (.one 26 .nil))))) .stop))) (.alt 22 (.one 14 (.one 17 (.one 23 (.one 24 (.one 25 (.one 26 .nil)))))) .stop))) (.alt 22 (.fork (.alt 14 (.one 15 (.one 17 (.one 23 (.one 24 (.one 25 (.one 26 .nil)))))) (.alt 15 (.one 14 (.one 17 (.one 23 (.one 24 (.one 25 (.one 26 .nil)))))) .stop))) .stop))))))))))))))))))))))) (by kernel_rfl) (by kernel_rfl) (by kernel_rfl) ?_
        refine ⟨⟨h.some_ hn0, hP0, by rw [← hP, hpl]; omega⟩, ?_⟩
        obtain ⟨_, _, ⟨Aq, nq, cq, rfl, hsq⟩, hcq⟩ := h.get hm0
        refine ⟨[.int .i64 m0.to, .slice Aq nq cq], ⟨rfl, fun w19 h19 => ?_⟩, ?_⟩
        · rw [hPn]; exact hcq.ext h19.ext0 (fun h => h)
        refine call_ev fun w19 h19 => (one_c2 w19 _ G _ [.int .i64 m0.to, .slice Aq nq cq] x0 m0 ⟨A6, n6, c6, rfl, hs6.ext0 (h19.from hx618 ⟨hb6, trivial⟩)⟩ ⟨Aq, nq, cq, rfl, hsq.ext0 h19.ext0⟩ true (by rw [hx0.1]; exact (eqM_iff _ _).2 rfl)).mono ?_
        rintro e w20 ⟨rfl, hx20⟩
        refine ⟨_, rfl, hx20, ?_⟩
        have hx1819 : Ext (fun k => k = b) w18 w19 := h19.extS ⟨rfl, trivial⟩
        clear h19
        refine g_yes rfl ?_
        replace hsL : SliceR kMail w18 (fun k => k ≠ b) AL _ rest := hsL.mono (fun k hk _ e => by
          subst e
          have hk : ((k = b15 ∨ w15.heap.size ≤ k) ∨ w17.heap.size ≤ k) ∨ (((G k ∧ k < w15.heap.size) ∨ G k) ∧ k < w17.heap.size) := hk
          have s16 := hx16.size
          have s17 := hx1617.size
          rcases hk with hk | hk
          · omega
          · have := hk.1.elim (fun h => hG' k h.1) (hG' k); omega) (by decide)
        replace hsr := hsr.here (by decide)
        refine call_ev fun w21 h21 => (same_c2 w21 _ _ Ar AL _ cr _ cL rest rest (((hsr.ext0 hx618).ext (hx1819) (fun k hk _ e => by have e : k = b := e; have := hk.2; omega)).ext0 hx20 |>.ext (h21.extS (S := fun k => k = b) ⟨rfl, trivial⟩) (fun k hk _ e => by have e : k = b := e; have := hk.2; omega)) ((hsL.ext hx1819 (fun k hk _ e => hk e)).ext0 hx20 |>.ext (h21.extS (S := fun k => k = b) ⟨rfl, trivial⟩) (fun k hk _ e => hk e)) true ((sameB_iff _ _).2 rfl)).mono ?_
        rintro e w22 ⟨rfl, hx22⟩
        refine ⟨_, rfl, hx22, ?_⟩
        have hx2021 : Ext (fun k => k = b) w20 w21 := h21.extS ⟨rfl, trivial⟩
        clear h21
        have hbw : b < w22.heap.size := by have := hx1819.size; have := hx20.size; have := hx2021.size; have := hx22.size; omega
        have hw22 : w.heap.size ≤ w22.heap.size := by have := hx1819.size; have := hx20.size; have := hx2021.size; have := hx22.size; omega
        have hbw6 : w.heap.size ≤ b := by omega
        clear hx1819 hx20 hx2021 hx22 hsL hsr hx618 hx617 hx18 hx1617 hx16 hx615
        refine ⟨fun _ => ⟨h.some_ hn0, hP0, by rw [← hP, hpl]; omega⟩, ?_⟩
        refine ⟨[.int .i64 m0.to, .slice Aq nq cq], fun _ => ⟨rfl, fun w19 h19 => ?_⟩, ?_⟩
        · rw [hPn]; exact hcq.ext h19.ext0 (fun h => h)
        refine ⟨?_, ?_, ?_, trivial⟩
        · refine g_yes rfl ?_
          refine call_ev fun wT hT => (twin_c2 wT G A j c xs at_ (h.ext0 hT.ext0) (by omega) (xs ++ [m0]) htw).mono ?_
          rintro e wU ⟨vt, FT, rfl, hxT, hownT, hFT⟩
          obtain ⟨AT, cT, rfl, hcT, hsT0⟩ := hownT.slice
          refine ⟨_, rfl, hxT, ?_⟩
          have hxsT : Ext (fun k => k = b) w22 wT := hT.extS ⟨rfl, trivial⟩
          have hsTx := hxsT.size
          have hsTy := hxT.size
          clear hT
          have hsT : SliceR kMail wU (fun k => wT.heap.size ≤ k ∧ k < wU.heap.size) AT _ (xs ++ [m0]) := hsT0.mono (fun k hk hl => ⟨hk.elim (fun h => h) (hFT k), hl⟩) (by decide)
          refine ⟨?_, ?_, trivial⟩
          · refine g_yes rfl ?_
            intro c15 hc15
            refine ⟨?_, ?_, trivial⟩
            · refine g_yes rfl ?_
              refine append_ev0 kMail [2] (T := 25) (e := 29) rfl rfl rfl rfl (by decide) (by decide) rfl rfl rfl ?_
              intro wA hA
              have hlAc15 : c15 < wA.heap.size := hA.lt 2 rfl
              have hxsA : Ext (fun k => k = b ∨ k = c15) wU wA := hA.extS ⟨.inl rfl, .inr rfl, trivial⟩
              have hsAx := hxsA.size
              refine ⟨hA.bx 2 rfl, G, xs, h.len, h.some_, (h.ext0 hA.ext0).row, fun hg => absurd (hG' _ hg) (by omega), ?_, fun vA wB hxA hownA => ?_⟩
              · show j * 32 ≤ _; omega
              clear hA
              have hsAy := hxA.size
              replace hsT := (hsT.ext hxsA (fun k hk _ e => by have e : k = b ∨ k = c15 := e; have hk : wT.heap.size ≤ k ∧ k < wU.heap.size := hk; omega)).ext0 hxA
              refine g_yes rfl ?_
              intro c22 hc22
              refine g_yes rfl ?_
              refine append_ev kMail [3] (T := 25) (e := 29) rfl rfl rfl rfl (by decide) (by decide) rfl rfl rfl ?_
              intro wC hC
              have hlCc22 : c22 < wC.heap.size := hC.lt 3 rfl
              have hrow := row_one (d := kMail) (x := m0) (F := G) (hC.bx 3 rfl) ⟨Aq, nq, cq, rfl, hsq.ext0 hC.ext0⟩
              have hxsC : Ext (fun k => k = b ∨ k = c22) wB wC := hC.extS ⟨.inl rfl, .inr rfl, trivial⟩
              have hsCx := hxsC.size
              clear hC
              have hownC : Own kMail 29 wC (fun k => (k = c15 ∨ wA.heap.size ≤ k) ∧ k < wB.heap.size) (fun k => (G k ∧ k < wA.heap.size) ∧ k < wB.heap.size) vA xs := hownA.here.ext hxsC (fun k hk _ e => by
                have e : k = b ∨ k = c22 := e
                have hk : ((k = c15 ∨ wA.heap.size ≤ k) ∧ k < wB.heap.size) ∨ ((G k ∧ k < wA.heap.size) ∧ k < wB.heap.size) := hk
                rcases hk with hk | hk
                · omega
                · have := hG' k hk.1.1; omega)
              replace hsT := hsT.ext hxsC (fun k hk _ e => by have e : k = b ∨ k = c22 := e; have hk : wT.heap.size ≤ k ∧ k < wU.heap.size := hk; omega)
              refine ⟨_, _, G, xs, [m0], hownC, rfl, fun _ => rfl, hrow, ?_, ?_, ?_, ⟨fun hk => by have hk' : (b = c15 ∨ wA.heap.size ≤ b) ∧ b < wB.heap.size := hk; omega, trivial⟩, fun vD wD hxD hownD hnD => ?_⟩
              · intro k hk hg
                have := (hownC.blk k hk).2.1
                have := hG' k hg
                omega
              · rw [h.len]; show (j + 1) * 32 ≤ _; omega
              · intro k _ hk
                have hk' : (k = c15 ∨ wA.heap.size ≤ k) ∧ k < wB.heap.size := hk
                exact .inr (show w.heap.size ≤ k by omega)
              replace hsT := hsT.ext hxD (fun k hk _ e => by
                have e' : (k = c15 ∨ wA.heap.size ≤ k) ∧ k < wB.heap.size := (hownC.blk k e).2.1
                have hk : wT.heap.size ≤ k ∧ k < wU.heap.size := hk
                omega)
              obtain ⟨AD, cD, rfl, hcD, hsD⟩ := hownD.slice
              have hsDy := hxD.size
              refine g_yes rfl ?_
              refine call_ev fun wE hE => (same_c2 wE _ _ AT AD _ cT _ cD (xs ++ [m0]) (xs ++ [m0]) (hsT.ext (hE.extS (S := fun k => k = b) ⟨rfl, trivial⟩) (fun k hk _ e => by have e : k = b := e; have hk : wT.heap.size ≤ k ∧ k < wU.heap.size := hk; omega)) (hsD.ext (hE.extS (S := fun k => k = b) ⟨rfl, trivial⟩) (fun k hk _ e => ?_)) true ((sameB_iff _ _).2 rfl)).mono ?_
              · have e : k = b := e
                have hk : (((k = c15 ∨ wA.heap.size ≤ k) ∧ k < wB.heap.size) ∨ wC.heap.size ≤ k) ∨ ((((G k ∧ k < wA.heap.size) ∧ k < wB.heap.size) ∨ G k) ∧ k < wC.heap.size) := hk
                rcases hk with hk | hk
                · omega
                · have := hk.1.elim (fun h => hG' k h.1.1) (hG' k); omega
              rintro e wF ⟨rfl, hxF⟩
              refine ⟨_, rfl, hxF, ?_⟩
              exact JoinP.mk fun wG hG => ⟨rfl, hG.ext0⟩
            · refine g_yes rfl ?_
              intro c22 hc22
              refine g_yes rfl ?_
              refine append_ev0 kMail [2] (T := 25) (e := 29) rfl rfl rfl rfl (by decide) (by decide) rfl rfl rfl ?_
              intro wA hA
              have hlAc15 : c15 < wA.heap.size := hA.lt 2 rfl
              have hlAc22 : c22 < wA.heap.size := hA.lt 3 rfl
              have hne : c15 ≠ c22 := by
                intro e
                have h1 := hA.bx 2 rfl
                have h2 := hA.bx 3 rfl
                have h1 : wA.heap[c15]? = some (.cells #[] 29 (0, 0)) := h1
                have h2 : wA.heap[c22]? = some (.cells [Value.int .i64 m0.to, .slice Aq nq cq].toArray 29 (0, 0)) := h2
                rw [e, h2] at h1
                simp at h1
              have hxsA : Ext (fun k => k = b ∨ k = c15 ∨ k = c22) wU wA := hA.extS ⟨.inl rfl, .inr (.inl rfl), .inr (.inr rfl), trivial⟩
              have hsAx := hxsA.size
              refine ⟨hA.bx 2 rfl, G, xs, h.len, h.some_, (h.ext0 hA.ext0).row, fun hg => absurd (hG' _ hg) (by omega), ?_, fun vA wB hxA hownA => ?_⟩
              · show j * 32 ≤ _; omega
              clear hA
              have hsAy := hxA.size
              replace hsT := (hsT.ext hxsA (fun k hk _ e => by have e : k = b ∨ k = c15 ∨ k = c22 := e; have hk : wT.heap.size ≤ k ∧ k < wU.heap.size := hk; omega)).ext0 hxA
              refine g_yes rfl ?_
              refine append_ev kMail [3] (T := 25) (e := 29) rfl rfl rfl rfl (by decide) (by decide) rfl rfl rfl ?_
              intro wC hC
              have hlCc22 : c22 < wC.heap.size := hC.lt 3 rfl
              have hrow := row_one (d := kMail) (x := m0) (F := G) (hC.bx 3 rfl) ⟨Aq, nq, cq, rfl, hsq.ext0 hC.ext0⟩
              have hxsC : Ext (fun k => k = b ∨ k = c22) wB wC := hC.extS ⟨.inl rfl, .inr rfl, trivial⟩
              have hsCx := hxsC.size
              clear hC
              have hownC : Own kMail 29 wC (fun k => (k = c15 ∨ wA.heap.size ≤ k) ∧ k < wB.heap.size) (fun k => (G k ∧ k < wA.heap.size) ∧ k < wB.heap.size) vA xs := hownA.here.ext hxsC (fun k hk _ e => by
                have e : k = b ∨ k = c22 := e
                have hk : ((k = c15 ∨ wA.heap.size ≤ k) ∧ k < wB.heap.size) ∨ ((G k ∧ k < wA.heap.size) ∧ k < wB.heap.size) := hk
                rcases hk with hk | hk
                · omega
                · have := hG' k hk.1.1; omega)
              replace hsT := hsT.ext hxsC (fun k hk _ e => by have e : k = b ∨ k = c22 := e; have hk : wT.heap.size ≤ k ∧ k < wU.heap.size := hk; omega)
              refine ⟨_, _, G, xs, [m0], hownC, rfl, fun _ => rfl, hrow, ?_, ?_, ?_, ⟨fun hk => by have hk' : (b = c15 ∨ wA.heap.size ≤ b) ∧ b < wB.heap.size := hk; omega, trivial⟩, fun vD wD hxD hownD hnD => ?_⟩
              · intro k hk hg
                have := (hownC.blk k hk).2.1
                have := hG' k hg
                omega
              · rw [h.len]; show (j + 1) * 32 ≤ _; omega
              · intro k _ hk
                have hk' : (k = c15 ∨ wA.heap.size ≤ k) ∧ k < wB.heap.size := hk
                exact .inr (show w.heap.size ≤ k by omega)
              replace hsT := hsT.ext hxD (fun k hk _ e => by
                have e' : (k = c15 ∨ wA.heap.size ≤ k) ∧ k < wB.heap.size := (hownC.blk k e).2.1
                have hk : wT.heap.size ≤ k ∧ k < wU.heap.size := hk
                omega)
              obtain ⟨AD, cD, rfl, hcD, hsD⟩ := hownD.slice
              have hsDy := hxD.size
              refine g_yes rfl ?_
              refine call_ev fun wE hE => (same_c2 wE _ _ AT AD _ cT _ cD (xs ++ [m0]) (xs ++ [m0]) (hsT.ext (hE.extS (S := fun k => k = b) ⟨rfl, trivial⟩) (fun k hk _ e => by have e : k = b := e; have hk : wT.heap.size ≤ k ∧ k < wU.heap.size := hk; omega)) (hsD.ext (hE.extS (S := fun k => k = b) ⟨rfl, trivial⟩) (fun k hk _ e => ?_)) true ((sameB_iff _ _).2 rfl)).mono ?_
              · have e : k = b := e
                have hk : (((k = c15 ∨ wA.heap.size ≤ k) ∧ k < wB.heap.size) ∨ wC.heap.size ≤ k) ∨ ((((G k ∧ k < wA.heap.size) ∧ k < wB.heap.size) ∨ G k) ∧ k < wC.heap.size) := hk
                rcases hk with hk | hk
                · omega
                · have := hk.1.elim (fun h => hG' k h.1.1) (hG' k); omega
              rintro e wF ⟨rfl, hxF⟩
              refine ⟨_, rfl, hxF, ?_⟩
              exact JoinP.mk fun wG hG => ⟨rfl, hG.ext0⟩
          · refine g_yes rfl ?_
            intro c22 hc22
            refine g_yes rfl ?_
            intro c15 hc15
            refine g_yes rfl ?_
            refine append_ev0 kMail [3] (T := 25) (e := 29) rfl rfl rfl rfl (by decide) (by decide) rfl rfl rfl ?_
            intro wA hA
            have hlAc22 : c22 < wA.heap.size := hA.lt 2 rfl
            have hlAc15 : c15 < wA.heap.size := hA.lt 3 rfl
            have hne : c15 ≠ c22 := by
              intro e
              have h1 := hA.bx 3 rfl
              have h2 := hA.bx 2 rfl
              have h1 : wA.heap[c15]? = some (.cells #[] 29 (0, 0)) := h1
              have h2 : wA.heap[c22]? = some (.cells [Value.int .i64 m0.to, .slice Aq nq cq].toArray 29 (0, 0)) := h2
              rw [e, h2] at h1
              simp at h1
            have hxsA : Ext (fun k => k = b ∨ k = c22 ∨ k = c15) wU wA := hA.extS ⟨.inl rfl, .inr (.inl rfl), .inr (.inr rfl), trivial⟩
            have hsAx := hxsA.size
            refine ⟨hA.bx 3 rfl, G, xs, h.len, h.some_, (h.ext0 hA.ext0).row, fun hg => absurd (hG' _ hg) (by omega), ?_, fun vA wB hxA hownA => ?_⟩
            · show j * 32 ≤ _; omega
            clear hA
            have hsAy := hxA.size
            replace hsT := (hsT.ext hxsA (fun k hk _ e => by have e : k = b ∨ k = c22 ∨ k = c15 := e; have hk : wT.heap.size ≤ k ∧ k < wU.heap.size := hk; omega)).ext0 hxA
            refine g_yes rfl ?_
            refine append_ev kMail [2] (T := 25) (e := 29) rfl rfl rfl rfl (by decide) (by decide) rfl rfl rfl ?_
            intro wC hC
            have hlCc22 : c22 < wC.heap.size := hC.lt 2 rfl
            have hrow := row_one (d := kMail) (x := m0) (F := G) (hC.bx 2 rfl) ⟨Aq, nq, cq, rfl, hsq.ext0 hC.ext0⟩
            have hxsC : Ext (fun k => k = b ∨ k = c22) wB wC := hC.extS ⟨.inl rfl, .inr rfl, trivial⟩
            have hsCx := hxsC.size
            clear hC
            have hownC : Own kMail 29 wC (fun k => (k = c15 ∨ wA.heap.size ≤ k) ∧ k < wB.heap.size) (fun k => (G k ∧ k < wA.heap.size) ∧ k < wB.heap.size) vA xs := hownA.here.ext hxsC (fun k hk _ e => by
              have e : k = b ∨ k = c22 := e
              have hk : ((k = c15 ∨ wA.heap.size ≤ k) ∧ k < wB.heap.size) ∨ ((G k ∧ k < wA.heap.size) ∧ k < wB.heap.size) := hk
              rcases hk with hk | hk
              · omega
              · have := hG' k hk.1.1; omega)
            replace hsT := hsT.ext hxsC (fun k hk _ e => by have e : k = b ∨ k = c22 := e; have hk : wT.heap.size ≤ k ∧ k < wU.heap.size := hk; omega)
            refine ⟨_, _, G, xs, [m0], hownC, rfl, fun _ => rfl, hrow, ?_, ?_, ?_, ⟨fun hk => by have hk' : (b = c15 ∨ wA.heap.size ≤ b) ∧ b < wB.heap.size := hk; omega, trivial⟩, fun vD wD hxD hownD hnD => ?_⟩
            · intro k hk hg
              have := (hownC.blk k hk).2.1
              have := hG' k hg
              omega
            · rw [h.len]; show (j + 1) * 32 ≤ _; omega
            · intro k _ hk
              have hk' : (k = c15 ∨ wA.heap.size ≤ k) ∧ k < wB.heap.size := hk
              exact .inr (show w.heap.size ≤ k by omega)
            replace hsT := hsT.ext hxD (fun k hk _ e => by
              have e' : (k = c15 ∨ wA.heap.size ≤ k) ∧ k < wB.heap.size := (hownC.blk k e).2.1
              have hk : wT.heap.size ≤ k ∧ k < wU.heap.size := hk
              omega)
            obtain ⟨AD, cD, rfl, hcD, hsD⟩ := hownD.slice
            have hsDy := hxD.size
            refine g_yes rfl ?_
            refine call_ev fun wE hE => (same_c2 wE _ _ AT AD _ cT _ cD (xs ++ [m0]) (xs ++ [m0]) (hsT.ext (hE.extS (S := fun k => k = b) ⟨rfl, trivial⟩) (fun k hk _ e => by have e : k = b := e; have hk : wT.heap.size ≤ k ∧ k < wU.heap.size := hk; omega)) (hsD.ext (hE.extS (S := fun k => k = b) ⟨rfl, trivial⟩) (fun k hk _ e => ?_)) true ((sameB_iff _ _).2 rfl)).mono ?_
            · have e : k = b := e
              have hk : (((k = c15 ∨ wA.heap.size ≤ k) ∧ k < wB.heap.size) ∨ wC.heap.size ≤ k) ∨ ((((G k ∧ k < wA.heap.size) ∧ k < wB.heap.size) ∨ G k) ∧ k < wC.heap.size) := hk
              rcases hk with hk | hk
              · omega
              · have := hk.1.elim (fun h => hG' k h.1.1) (hG' k); omega
            rintro e wF ⟨rfl, hxF⟩
            refine ⟨_, rfl, hxF, ?_⟩
            exact JoinP.mk fun wG hG => ⟨rfl, hG.ext0⟩
        · refine g_yes rfl ?_
          intro c15 hc15
          refine ⟨?_, ?_, trivial⟩
          · refine g_yes rfl ?_
            refine call_ev fun wT hT => (twin_c2 wT G A j c xs at_ (h.ext0 hT.ext0) (by omega) (xs ++ [m0]) htw).mono ?_
            rintro e wU ⟨vt, FT, rfl, hxT, hownT, hFT⟩
            obtain ⟨AT, cT, rfl, hcT, hsT0⟩ := hownT.slice
            refine ⟨_, rfl, hxT, ?_⟩
            have hlTc15 : c15 < wT.heap.size := hT.lt 2 rfl
            have hxsT : Ext (fun k => k = b ∨ k = c15) w22 wT := hT.extS ⟨.inl rfl, .inr rfl, trivial⟩
            have hsTx := hxsT.size
            have hsTy := hxT.size
            clear hT
            have hsT : SliceR kMail wU (fun k => wT.heap.size ≤ k ∧ k < wU.heap.size) AT _ (xs ++ [m0]) := hsT0.mono (fun k hk hl => ⟨hk.elim (fun h => h) (hFT k), hl⟩) (by decide)
            refine ⟨?_, ?_, trivial⟩
            · refine g_yes rfl ?_
              refine append_ev0 kMail [2] (T := 25) (e := 29) rfl rfl rfl rfl (by decide) (by decide) rfl rfl rfl ?_
              intro wA hA
              have hlAc15 : c15 < wA.heap.size := hA.lt 2 rfl
              have hxsA : Ext (fun k => k = b ∨ k = c15) wU wA := hA.extS ⟨.inl rfl, .inr rfl, trivial⟩
              have hsAx := hxsA.size
              refine ⟨hA.bx 2 rfl, G, xs, h.len, h.some_, (h.ext0 hA.ext0).row, fun hg => absurd (hG' _ hg) (by omega), ?_, fun vA wB hxA hownA => ?_⟩
              · show j * 32 ≤ _; omega
              clear hA
              have hsAy := hxA.size
              replace hsT := (hsT.ext hxsA (fun k hk _ e => by have e : k = b ∨ k = c15 := e; have hk : wT.heap.size ≤ k ∧ k < wU.heap.size := hk; omega)).ext0 hxA
              refine g_yes rfl ?_
              intro c22 hc22
              refine g_yes rfl ?_
              refine append_ev kMail [3] (T := 25) (e := 29) rfl rfl rfl rfl (by decide) (by decide) rfl rfl rfl ?_
              intro wC hC
              have hlCc22 : c22 < wC.heap.size := hC.lt 3 rfl
              have hrow := row_one (d := kMail) (x := m0) (F := G) (hC.bx 3 rfl) ⟨Aq, nq, cq, rfl, hsq.ext0 hC.ext0⟩
              have hxsC : Ext (fun k => k = b ∨ k = c22) wB wC := hC.extS ⟨.inl rfl, .inr rfl, trivial⟩
              have hsCx := hxsC.size
              clear hC
              have hownC : Own kMail 29 wC (fun k => (k = c15 ∨ wA.heap.size ≤ k) ∧ k < wB.heap.size) (fun k => (G k ∧ k < wA.heap.size) ∧ k < wB.heap.size) vA xs := hownA.here.ext hxsC (fun k hk _ e => by
                have e : k = b ∨ k = c22 := e
                have hk : ((k = c15 ∨ wA.heap.size ≤ k) ∧ k < wB.heap.size) ∨ ((G k ∧ k < wA.heap.size) ∧ k < wB.heap.size) := hk
                rcases hk with hk | hk
                · omega
                · have := hG' k hk.1.1; omega)
              replace hsT := hsT.ext hxsC (fun k hk _ e => by have e : k = b ∨ k = c22 := e; have hk : wT.heap.size ≤ k ∧ k < wU.heap.size := hk; omega)
              refine ⟨_, _, G, xs, [m0], hownC, rfl, fun _ => rfl, hrow, ?_, ?_, ?_, ⟨fun hk => by have hk' : (b = c15 ∨ wA.heap.size ≤ b) ∧ b < wB.heap.size := hk; omega, trivial⟩, fun vD wD hxD hownD hnD => ?_⟩
              · intro k hk hg
                have := (hownC.blk k hk).2.1
                have := hG' k hg
                omega
              · rw [h.len]; show (j + 1) * 32 ≤ _; omega
              · intro k _ hk
                have hk' : (k = c15 ∨ wA.heap.size ≤ k) ∧ k < wB.heap.size := hk
                exact .inr (show w.heap.size ≤ k by omega)
              replace hsT := hsT.ext hxD (fun k hk _ e => by
                have e' : (k = c15 ∨ wA.heap.size ≤ k) ∧ k < wB.heap.size := (hownC.blk k e).2.1
                have hk : wT.heap.size ≤ k ∧ k < wU.heap.size := hk
                omega)
              obtain ⟨AD, cD, rfl, hcD, hsD⟩ := hownD.slice
              have hsDy := hxD.size
              refine g_yes rfl ?_
              refine call_ev fun wE hE => (same_c2 wE _ _ AT AD _ cT _ cD (xs ++ [m0]) (xs ++ [m0]) (hsT.ext (hE.extS (S := fun k => k = b) ⟨rfl, trivial⟩) (fun k hk _ e => by have e : k = b := e; have hk : wT.heap.size ≤ k ∧ k < wU.heap.size := hk; omega)) (hsD.ext (hE.extS (S := fun k => k = b) ⟨rfl, trivial⟩) (fun k hk _ e => ?_)) true ((sameB_iff _ _).2 rfl)).mono ?_
              · have e : k = b := e
                have hk : (((k = c15 ∨ wA.heap.size ≤ k) ∧ k < wB.heap.size) ∨ wC.heap.size ≤ k) ∨ ((((G k ∧ k < wA.heap.size) ∧ k < wB.heap.size) ∨ G k) ∧ k < wC.heap.size) := hk
                rcases hk with hk | hk
                · omega
                · have := hk.1.elim (fun h => hG' k h.1.1) (hG' k); omega
              rintro e wF ⟨rfl, hxF⟩
              refine ⟨_, rfl, hxF, ?_⟩
              exact JoinP.mk fun wG hG => ⟨rfl, hG.ext0⟩
            · refine g_yes rfl ?_
              intro c22 hc22
              refine g_yes rfl ?_
              refine append_ev0 kMail [2] (T := 25) (e := 29) rfl rfl rfl rfl (by decide) (by decide) rfl rfl rfl ?_
              intro wA hA
              have hlAc15 : c15 < wA.heap.size := hA.lt 2 rfl
              have hlAc22 : c22 < wA.heap.size := hA.lt 3 rfl
              have hne : c15 ≠ c22 := by
                intro e
                have h1 := hA.bx 2 rfl
                have h2 := hA.bx 3 rfl
                have h1 : wA.heap[c15]? = some (.cells #[] 29 (0, 0)) := h1
                have h2 : wA.heap[c22]? = some (.cells [Value.int .i64 m0.to, .slice Aq nq cq].toArray 29 (0, 0)) := h2
                rw [e, h2] at h1
                simp at h1
              have hxsA : Ext (fun k => k = b ∨ k = c15 ∨ k = c22) wU wA := hA.extS ⟨.inl rfl, .inr (.inl rfl), .inr (.inr rfl), trivial⟩
              have hsAx := hxsA.size
              refine ⟨hA.bx 2 rfl, G, xs, h.len, h.some_, (h.ext0 hA.ext0).row, fun hg => absurd (hG' _ hg) (by omega), ?_, fun vA wB hxA hownA => ?_⟩
              · show j * 32 ≤ _; omega
              clear hA
              have hsAy := hxA.size
              replace hsT := (hsT.ext hxsA (fun k hk _ e => by have e : k = b ∨ k = c15 ∨ k = c22 := e; have hk : wT.heap.size ≤ k ∧ k < wU.heap.size := hk; omega)).ext0 hxA
              refine g_yes rfl ?_
              refine append_ev kMail [3] (T := 25) (e := 29) rfl rfl rfl rfl (by decide) (by decide) rfl rfl rfl ?_
              intro wC hC
              have hlCc22 : c22 < wC.heap.size := hC.lt 3 rfl
              have hrow := row_one (d := kMail) (x := m0) (F := G) (hC.bx 3 rfl) ⟨Aq, nq, cq, rfl, hsq.ext0 hC.ext0⟩
              have hxsC : Ext (fun k => k = b ∨ k = c22) wB wC := hC.extS ⟨.inl rfl, .inr rfl, trivial⟩
              have hsCx := hxsC.size
              clear hC
              have hownC : Own kMail 29 wC (fun k => (k = c15 ∨ wA.heap.size ≤ k) ∧ k < wB.heap.size) (fun k => (G k ∧ k < wA.heap.size) ∧ k < wB.heap.size) vA xs := hownA.here.ext hxsC (fun k hk _ e => by
                have e : k = b ∨ k = c22 := e
                have hk : ((k = c15 ∨ wA.heap.size ≤ k) ∧ k < wB.heap.size) ∨ ((G k ∧ k < wA.heap.size) ∧ k < wB.heap.size) := hk
                rcases hk with hk | hk
                · omega
                · have := hG' k hk.1.1; omega)
              replace hsT := hsT.ext hxsC (fun k hk _ e => by have e : k = b ∨ k = c22 := e; have hk : wT.heap.size ≤ k ∧ k < wU.heap.size := hk; omega)
              refine ⟨_, _, G, xs, [m0], hownC, rfl, fun _ => rfl, hrow, ?_, ?_, ?_, ⟨fun hk => by have hk' : (b = c15 ∨ wA.heap.size ≤ b) ∧ b < wB.heap.size := hk; omega, trivial⟩, fun vD wD hxD hownD hnD => ?_⟩
              · intro k hk hg
                have := (hownC.blk k hk).2.1
                have := hG' k hg
                omega
              · rw [h.len]; show (j + 1) * 32 ≤ _; omega
              · intro k _ hk
                have hk' : (k = c15 ∨ wA.heap.size ≤ k) ∧ k < wB.heap.size := hk
                exact .inr (show w.heap.size ≤ k by omega)
              replace hsT := hsT.ext hxD (fun k hk _ e => by
                have e' : (k = c15 ∨ wA.heap.size ≤ k) ∧ k < wB.heap.size := (hownC.blk k e).2.1
                have hk : wT.heap.size ≤ k ∧ k < wU.heap.size := hk
                omega)
              obtain ⟨AD, cD, rfl, hcD, hsD⟩ := hownD.slice
              have hsDy := hxD.size
              refine g_yes rfl ?_
              refine call_ev fun wE hE => (same_c2 wE _ _ AT AD _ cT _ cD (xs ++ [m0]) (xs ++ [m0]) (hsT.ext (hE.extS (S := fun k => k = b) ⟨rfl, trivial⟩) (fun k hk _ e => by have e : k = b := e; have hk : wT.heap.size ≤ k ∧ k < wU.heap.size := hk; omega)) (hsD.ext (hE.extS (S := fun k => k = b) ⟨rfl, trivial⟩) (fun k hk _ e => ?_)) true ((sameB_iff _ _).2 rfl)).mono ?_
              · have e : k = b := e
                have hk : (((k = c15 ∨ wA.heap.size ≤ k) ∧ k < wB.heap.size) ∨ wC.heap.size ≤ k) ∨ ((((G k ∧ k < wA.heap.size) ∧ k < wB.heap.size) ∨ G k) ∧ k < wC.heap.size) := hk
                rcases hk with hk | hk
                · omega
                · have := hk.1.elim (fun h => hG' k h.1.1) (hG' k); omega
              rintro e wF ⟨rfl, hxF⟩
              refine ⟨_, rfl, hxF, ?_⟩
              exact JoinP.mk fun wG hG => ⟨rfl, hG.ext0⟩
          · refine g_yes rfl ?_
            intro c22 hc22
            refine g_yes rfl ?_
            refine call_ev fun wT hT => (twin_c2 wT G A j c xs at_ (h.ext0 hT.ext0) (by omega) (xs ++ [m0]) htw).mono ?_
            rintro e wU ⟨vt, FT, rfl, hxT, hownT, hFT⟩
            obtain ⟨AT, cT, rfl, hcT, hsT0⟩ := hownT.slice
            refine ⟨_, rfl, hxT, ?_⟩
            have hlTc15 : c15 < wT.heap.size := hT.lt 2 rfl
            have hlTc22 : c22 < wT.heap.size := hT.lt 3 rfl
            have hxsT : Ext (fun k => k = b ∨ k = c15 ∨ k = c22) w22 wT := hT.extS ⟨.inl rfl, .inr (.inl rfl), .inr (.inr rfl), trivial⟩
            have hsTx := hxsT.size
            have hsTy := hxT.size
            clear hT
            have hsT : SliceR kMail wU (fun k => wT.heap.size ≤ k ∧ k < wU.heap.size) AT _ (xs ++ [m0]) := hsT0.mono (fun k hk hl => ⟨hk.elim (fun h => h) (hFT k), hl⟩) (by decide)
            refine g_yes rfl ?_
            refine append_ev0 kMail [2] (T := 25) (e := 29) rfl rfl rfl rfl (by decide) (by decide) rfl rfl rfl ?_
            intro wA hA
            have hlAc15 : c15 < wA.heap.size := hA.lt 2 rfl
            have hlAc22 : c22 < wA.heap.size := hA.lt 3 rfl
            have hne : c15 ≠ c22 := by
              intro e
              have h1 := hA.bx 2 rfl
              have h2 := hA.bx 3 rfl
              have h1 : wA.heap[c15]? = some (.cells #[] 29 (0, 0)) := h1
              have h2 : wA.heap[c22]? = some (.cells [Value.int .i64 m0.to, .slice Aq nq cq].toArray 29 (0, 0)) := h2
              rw [e, h2] at h1
              simp at h1
            have hxsA : Ext (fun k => k = b ∨ k = c15 ∨ k = c22) wU wA := hA.extS ⟨.inl rfl, .inr (.inl rfl), .inr (.inr rfl), trivial⟩
            have hsAx := hxsA.size
            refine ⟨hA.bx 2 rfl, G, xs, h.len, h.some_, (h.ext0 hA.ext0).row, fun hg => absurd (hG' _ hg) (by omega), ?_, fun vA wB hxA hownA => ?_⟩
            · show j * 32 ≤ _; omega
            clear hA
            have hsAy := hxA.size
            replace hsT := (hsT.ext hxsA (fun k hk _ e => by have e : k = b ∨ k = c15 ∨ k = c22 := e; have hk : wT.heap.size ≤ k ∧ k < wU.heap.size := hk; omega)).ext0 hxA
            refine g_yes rfl ?_
            refine append_ev kMail [3] (T := 25) (e := 29) rfl rfl rfl rfl (by decide) (by decide) rfl rfl rfl ?_
            intro wC hC
            have hlCc22 : c22 < wC.heap.size := hC.lt 3 rfl
            have hrow := row_one (d := kMail) (x := m0) (F := G) (hC.bx 3 rfl) ⟨Aq, nq, cq, rfl, hsq.ext0 hC.ext0⟩
            have hxsC : Ext (fun k => k = b ∨ k = c22) wB wC := hC.extS ⟨.inl rfl, .inr rfl, trivial⟩
            have hsCx := hxsC.size
            clear hC
            have hownC : Own kMail 29 wC (fun k => (k = c15 ∨ wA.heap.size ≤ k) ∧ k < wB.heap.size) (fun k => (G k ∧ k < wA.heap.size) ∧ k < wB.heap.size) vA xs := hownA.here.ext hxsC (fun k hk _ e => by
              have e : k = b ∨ k = c22 := e
              have hk : ((k = c15 ∨ wA.heap.size ≤ k) ∧ k < wB.heap.size) ∨ ((G k ∧ k < wA.heap.size) ∧ k < wB.heap.size) := hk
              rcases hk with hk | hk
              · omega
              · have := hG' k hk.1.1; omega)
            replace hsT := hsT.ext hxsC (fun k hk _ e => by have e : k = b ∨ k = c22 := e; have hk : wT.heap.size ≤ k ∧ k < wU.heap.size := hk; omega)
            refine ⟨_, _, G, xs, [m0], hownC, rfl, fun _ => rfl, hrow, ?_, ?_, ?_, ⟨fun hk => by have hk' : (b = c15 ∨ wA.heap.size ≤ b) ∧ b < wB.heap.size := hk; omega, trivial⟩, fun vD wD hxD hownD hnD => ?_⟩
            · intro k hk hg
              have := (hownC.blk k hk).2.1
              have := hG' k hg
              omega
            · rw [h.len]; show (j + 1) * 32 ≤ _; omega
            · intro k _ hk
              have hk' : (k = c15 ∨ wA.heap.size ≤ k) ∧ k < wB.heap.size := hk
              exact .inr (show w.heap.size ≤ k by omega)
            replace hsT := hsT.ext hxD (fun k hk _ e => by
              have e' : (k = c15 ∨ wA.heap.size ≤ k) ∧ k < wB.heap.size := (hownC.blk k e).2.1
              have hk : wT.heap.size ≤ k ∧ k < wU.heap.size := hk
              omega)
            obtain ⟨AD, cD, rfl, hcD, hsD⟩ := hownD.slice
            have hsDy := hxD.size
            refine g_yes rfl ?_
            refine call_ev fun wE hE => (same_c2 wE _ _ AT AD _ cT _ cD (xs ++ [m0]) (xs ++ [m0]) (hsT.ext (hE.extS (S := fun k => k = b) ⟨rfl, trivial⟩) (fun k hk _ e => by have e : k = b := e; have hk : wT.heap.size ≤ k ∧ k < wU.heap.size := hk; omega)) (hsD.ext (hE.extS (S := fun k => k = b) ⟨rfl, trivial⟩) (fun k hk _ e => ?_)) true ((sameB_iff _ _).2 rfl)).mono ?_
            · have e : k = b := e
              have hk : (((k = c15 ∨ wA.heap.size ≤ k) ∧ k < wB.heap.size) ∨ wC.heap.size ≤ k) ∨ ((((G k ∧ k < wA.heap.size) ∧ k < wB.heap.size) ∨ G k) ∧ k < wC.heap.size) := hk
              rcases hk with hk | hk
              · omega
              · have := hk.1.elim (fun h => hG' k h.1.1) (hG' k); omega
            rintro e wF ⟨rfl, hxF⟩
            refine ⟨_, rfl, hxF, ?_⟩
            exact JoinP.mk fun wG hG => ⟨rfl, hG.ext0⟩
        · refine g_yes rfl ?_
          intro c22 hc22
          refine ⟨?_, ?_, trivial⟩
          · refine g_yes rfl ?_
            refine call_ev fun wT hT => (twin_c2 wT G A j c xs at_ (h.ext0 hT.ext0) (by omega) (xs ++ [m0]) htw).mono ?_
            rintro e wU ⟨vt, FT, rfl, hxT, hownT, hFT⟩
            obtain ⟨AT, cT, rfl, hcT, hsT0⟩ := hownT.slice
            refine ⟨_, rfl, hxT, ?_⟩
            have hlTc22 : c22 < wT.heap.size := hT.lt 2 rfl
            have hxsT : Ext (fun k => k = b ∨ k = c22) w22 wT := hT.extS ⟨.inl rfl, .inr rfl, trivial⟩
            have hsTx := hxsT.size
            have hsTy := hxT.size
            clear hT
            have hsT : SliceR kMail wU (fun k => wT.heap.size ≤ k ∧ k < wU.heap.size) AT _ (xs ++ [m0]) := hsT0.mono (fun k hk hl => ⟨hk.elim (fun h => h) (hFT k), hl⟩) (by decide)
            refine g_yes rfl ?_
            intro c15 hc15
            refine g_yes rfl ?_
            refine append_ev0 kMail [3] (T := 25) (e := 29) rfl rfl rfl rfl (by decide) (by decide) rfl rfl rfl ?_
            intro wA hA
            have hlAc22 : c22 < wA.heap.size := hA.lt 2 rfl
            have hlAc15 : c15 < wA.heap.size := hA.lt 3 rfl
            have hne : c15 ≠ c22 := by
              intro e
              have h1 := hA.bx 3 rfl
              have h2 := hA.bx 2 rfl
              have h1 : wA.heap[c15]? = some (.cells #[] 29 (0, 0)) := h1
              have h2 : wA.heap[c22]? = some (.cells [Value.int .i64 m0.to, .slice Aq nq cq].toArray 29 (0, 0)) := h2
              rw [e, h2] at h1
              simp at h1
            have hxsA : Ext (fun k => k = b ∨ k = c22 ∨ k = c15) wU wA := hA.extS ⟨.inl rfl, .inr (.inl rfl), .inr (.inr rfl), trivial⟩
            have hsAx := hxsA.size
            refine ⟨hA.bx 3 rfl, G, xs, h.len, h.some_, (h.ext0 hA.ext0).row, fun hg => absurd (hG' _ hg) (by omega), ?_, fun vA wB hxA hownA => ?_⟩
            · show j * 32 ≤ _; omega
            clear hA
            have hsAy := hxA.size
            replace hsT := (hsT.ext hxsA (fun k hk _ e => by have e : k = b ∨ k = c22 ∨ k = c15 := e; have hk : wT.heap.size ≤ k ∧ k < wU.heap.size := hk; omega)).ext0 hxA
            refine g_yes rfl ?_
            refine append_ev kMail [2] (T := 25) (e := 29) rfl rfl rfl rfl (by decide) (by decide) rfl rfl rfl ?_
            intro wC hC
            have hlCc22 : c22 < wC.heap.size := hC.lt 2 rfl
            have hrow := row_one (d := kMail) (x := m0) (F := G) (hC.bx 2 rfl) ⟨Aq, nq, cq, rfl, hsq.ext0 hC.ext0⟩
            have hxsC : Ext (fun k => k = b ∨ k = c22) wB wC := hC.extS ⟨.inl rfl, .inr rfl, trivial⟩
            have hsCx := hxsC.size
            clear hC
            have hownC : Own kMail 29 wC (fun k => (k = c15 ∨ wA.heap.size ≤ k) ∧ k < wB.heap.size) (fun k => (G k ∧ k < wA.heap.size) ∧ k < wB.heap.size) vA xs := hownA.here.ext hxsC (fun k hk _ e => by
              have e : k = b ∨ k = c22 := e
              have hk : ((k = c15 ∨ wA.heap.size ≤ k) ∧ k < wB.heap.size) ∨ ((G k ∧ k < wA.heap.size) ∧ k < wB.heap.size) := hk
              rcases hk with hk | hk
              · omega
              · have := hG' k hk.1.1; omega)
            replace hsT := hsT.ext hxsC (fun k hk _ e => by have e : k = b ∨ k = c22 := e; have hk : wT.heap.size ≤ k ∧ k < wU.heap.size := hk; omega)
            refine ⟨_, _, G, xs, [m0], hownC, rfl, fun _ => rfl, hrow, ?_, ?_, ?_, ⟨fun hk => by have hk' : (b = c15 ∨ wA.heap.size ≤ b) ∧ b < wB.heap.size := hk; omega, trivial⟩, fun vD wD hxD hownD hnD => ?_⟩
            · intro k hk hg
              have := (hownC.blk k hk).2.1
              have := hG' k hg
              omega
            · rw [h.len]; show (j + 1) * 32 ≤ _; omega
            · intro k _ hk
              have hk' : (k = c15 ∨ wA.heap.size ≤ k) ∧ k < wB.heap.size := hk
              exact .inr (show w.heap.size ≤ k by omega)
            replace hsT := hsT.ext hxD (fun k hk _ e => by
              have e' : (k = c15 ∨ wA.heap.size ≤ k) ∧ k < wB.heap.size := (hownC.blk k e).2.1
              have hk : wT.heap.size ≤ k ∧ k < wU.heap.size := hk
              omega)
            obtain ⟨AD, cD, rfl, hcD, hsD⟩ := hownD.slice
            have hsDy := hxD.size
            refine g_yes rfl ?_
            refine call_ev fun wE hE => (same_c2 wE _ _ AT AD _ cT _ cD (xs ++ [m0]) (xs ++ [m0]) (hsT.ext (hE.extS (S := fun k => k = b) ⟨rfl, trivial⟩) (fun k hk _ e => by have e : k = b := e; have hk : wT.heap.size ≤ k ∧ k < wU.heap.size := hk; omega)) (hsD.ext (hE.extS (S := fun k => k = b) ⟨rfl, trivial⟩) (fun k hk _ e => ?_)) true ((sameB_iff _ _).2 rfl)).mono ?_
            · have e : k = b := e
              have hk : (((k = c15 ∨ wA.heap.size ≤ k) ∧ k < wB.heap.size) ∨ wC.heap.size ≤ k) ∨ ((((G k ∧ k < wA.heap.size) ∧ k < wB.heap.size) ∨ G k) ∧ k < wC.heap.size) := hk
              rcases hk with hk | hk
              · omega
              · have := hk.1.elim (fun h => hG' k h.1.1) (hG' k); omega
            rintro e wF ⟨rfl, hxF⟩
            refine ⟨_, rfl, hxF, ?_⟩
            exact JoinP.mk fun wG hG => ⟨rfl, hG.ext0⟩
          · refine g_yes rfl ?_
            intro c15 hc15
            refine g_yes rfl ?_
            refine call_ev fun wT hT => (twin_c2 wT G A j c xs at_ (h.ext0 hT.ext0) (by omega) (xs ++ [m0]) htw).mono ?_
            rintro e wU ⟨vt, FT, rfl, hxT, hownT, hFT⟩
            obtain ⟨AT, cT, rfl, hcT, hsT0⟩ := hownT.slice
            refine ⟨_, rfl, hxT, ?_⟩
            have hlTc22 : c22 < wT.heap.size := hT.lt 2 rfl
            have hlTc15 : c15 < wT.heap.size := hT.lt 3 rfl
            have hxsT : Ext (fun k => k = b ∨ k = c22 ∨ k = c15) w22 wT := hT.extS ⟨.inl rfl, .inr (.inl rfl), .inr (.inr rfl), trivial⟩
            have hsTx := hxsT.size
            have hsTy := hxT.size
            clear hT
            have hsT : SliceR kMail wU (fun k => wT.heap.size ≤ k ∧ k < wU.heap.size) AT _ (xs ++ [m0]) := hsT0.mono (fun k hk hl => ⟨hk.elim (fun h => h) (hFT k), hl⟩) (by decide)
            refine g_yes rfl ?_
            refine append_ev0 kMail [3] (T := 25) (e := 29) rfl rfl rfl rfl (by decide) (by decide) rfl rfl rfl ?_
            intro wA hA
            have hlAc22 : c22 < wA.heap.size := hA.lt 2 rfl
            have hlAc15 : c15 < wA.heap.size := hA.lt 3 rfl
            have hne : c15 ≠ c22 := by
              intro e
              have h1 := hA.bx 3 rfl
              have h2 := hA.bx 2 rfl
              have h1 : wA.heap[c15]? = some (.cells #[] 29 (0, 0)) := h1
              have h2 : wA.heap[c22]? = some (.cells [Value.int .i64 m0.to, .slice Aq nq cq].toArray 29 (0, 0)) := h2
              rw [e, h2] at h1
              simp at h1
            have hxsA : Ext (fun k => k = b ∨ k = c22 ∨ k = c15) wU wA := hA.extS ⟨.inl rfl, .inr (.inl rfl), .inr (.inr rfl), trivial⟩
            have hsAx := hxsA.size
            refine ⟨hA.bx 3 rfl, G, xs, h.len, h.some_, (h.ext0 hA.ext0).row, fun hg => absurd (hG' _ hg) (by omega), ?_, fun vA wB hxA hownA => ?_⟩
            · show j * 32 ≤ _; omega
            clear hA
            have hsAy := hxA.size
            replace hsT := (hsT.ext hxsA (fun k hk _ e => by have e : k = b ∨ k = c22 ∨ k = c15 := e; have hk : wT.heap.size ≤ k ∧ k < wU.heap.size := hk; omega)).ext0 hxA
            refine g_yes rfl ?_
            refine append_ev kMail [2] (T := 25) (e := 29) rfl rfl rfl rfl (by decide) (by decide) rfl rfl rfl ?_
            intro wC hC
            have hlCc22 : c22 < wC.heap.size := hC.lt 2 rfl
            have hrow := row_one (d := kMail) (x := m0) (F := G) (hC.bx 2 rfl) ⟨Aq, nq, cq, rfl, hsq.ext0 hC.ext0⟩
            have hxsC : Ext (fun k => k = b ∨ k = c22) wB wC := hC.extS ⟨.inl rfl, .inr rfl, trivial⟩
            have hsCx := hxsC.size
            clear hC
            have hownC : Own kMail 29 wC (fun k => (k = c15 ∨ wA.heap.size ≤ k) ∧ k < wB.heap.size) (fun k => (G k ∧ k < wA.heap.size) ∧ k < wB.heap.size) vA xs := hownA.here.ext hxsC (fun k hk _ e => by
              have e : k = b ∨ k = c22 := e
              have hk : ((k = c15 ∨ wA.heap.size ≤ k) ∧ k < wB.heap.size) ∨ ((G k ∧ k < wA.heap.size) ∧ k < wB.heap.size) := hk
              rcases hk with hk | hk
              · omega
              · have := hG' k hk.1.1; omega)
            replace hsT := hsT.ext hxsC (fun k hk _ e => by have e : k = b ∨ k = c22 := e; have hk : wT.heap.size ≤ k ∧ k < wU.heap.size := hk; omega)
            refine ⟨_, _, G, xs, [m0], hownC, rfl, fun _ => rfl, hrow, ?_, ?_, ?_, ⟨fun hk => by have hk' : (b = c15 ∨ wA.heap.size ≤ b) ∧ b < wB.heap.size := hk; omega, trivial⟩, fun vD wD hxD hownD hnD => ?_⟩
            · intro k hk hg
              have := (hownC.blk k hk).2.1
              have := hG' k hg
              omega
            · rw [h.len]; show (j + 1) * 32 ≤ _; omega
            · intro k _ hk
              have hk' : (k = c15 ∨ wA.heap.size ≤ k) ∧ k < wB.heap.size := hk
              exact .inr (show w.heap.size ≤ k by omega)
            replace hsT := hsT.ext hxD (fun k hk _ e => by
              have e' : (k = c15 ∨ wA.heap.size ≤ k) ∧ k < wB.heap.size := (hownC.blk k e).2.1
              have hk : wT.heap.size ≤ k ∧ k < wU.heap.size := hk
              omega)
            obtain ⟨AD, cD, rfl, hcD, hsD⟩ := hownD.slice
            have hsDy := hxD.size
            refine g_yes rfl ?_
            refine call_ev fun wE hE => (same_c2 wE _ _ AT AD _ cT _ cD (xs ++ [m0]) (xs ++ [m0]) (hsT.ext (hE.extS (S := fun k => k = b) ⟨rfl, trivial⟩) (fun k hk _ e => by have e : k = b := e; have hk : wT.heap.size ≤ k ∧ k < wU.heap.size := hk; omega)) (hsD.ext (hE.extS (S := fun k => k = b) ⟨rfl, trivial⟩) (fun k hk _ e => ?_)) true ((sameB_iff _ _).2 rfl)).mono ?_
            · have e : k = b := e
              have hk : (((k = c15 ∨ wA.heap.size ≤ k) ∧ k < wB.heap.size) ∨ wC.heap.size ≤ k) ∨ ((((G k ∧ k < wA.heap.size) ∧ k < wB.heap.size) ∨ G k) ∧ k < wC.heap.size) := hk
              rcases hk with hk | hk
              · omega
              · have := hk.1.elim (fun h => hG' k h.1.1) (hG' k); omega
            rintro e wF ⟨rfl, hxF⟩
            refine ⟨_, rfl, hxF, ?_⟩
            exact JoinP.mk fun wG hG => ⟨rfl, hG.ext0⟩

end Go.Proofs.Ytdmengbemonkaaa
