import Derived.Test.YtdmengbemonkaaaNI
set_option linter.all false
namespace Go.Proofs.Ytdmengbemonkaaa
open Go Go.Flow

/-- mail whose octets are one's own -/
def kMailO : Kind Mail where
  sz := 2
  rep := fun w F cs x => ∃ v, cs = [.int .i64 x.to, v] ∧ Own kU8 5 w F no v x.data
  len := fun ⟨_, h, _⟩ => by rw [h]; rfl
  one := fun ⟨_, h, ho⟩ => by obtain ⟨A, c, rfl, _⟩ := ho.slice; rw [h]; rfl
  move := fun ⟨v, h, ho⟩ hm => ⟨v, h, ho.move (fun b hb hl => hb.elim (fun hb => hm b hb hl) (fun h => h.elim))⟩
  mono := fun ⟨v, h, ho⟩ hm => ⟨v, h, ho.mono hm (fun _ h _ => h) (fun _ _ h _ => h)⟩
theorem mailO_mail {w : World} {F : Nat → Prop} {cs : List Value} {x : Mail} (h : kMailO.rep w F cs x) : kMail.rep w F cs x := by
  obtain ⟨v, rfl, ho⟩ := h
  obtain ⟨A, c, rfl, hc, hs⟩ := ho.slice
  exact ⟨A, _, c, rfl, hs.mono (fun b hb _ => hb.elim (fun h => h) (fun h => h.elim)) (by decide)⟩
theorem sliceO {w : World} {F : Nat → Prop} {A : Option Addr} {n : Nat} {xs : List Mail} (h : SliceR kMailO w F A n xs) : SliceR kMail w F A n xs :=
  ⟨h.len, h.le, h.some_, h.fits, fun j x hj => by obtain ⟨cs, hr, hc⟩ := h.row j x hj; exact ⟨cs, mailO_mail hr, hc⟩⟩

theorem own_cO (w : World) (F : Nat → Prop) (cs : List Value) (x : Mail) (h : kMail.rep w F cs x) :
    Calls Try.prog 17 #[.agg cs.toArray] w fun e w' => ∃ cs', e = .returned (.agg cs'.toArray) ∧ Ext no w w' ∧ kMailO.rep w' (new w.heap.size) cs' x := by
  obtain ⟨A, n, c, rfl, hs⟩ := h
  apply calls_of_vc T.C 17 Try.f17 _ [.agg [.int .i64 x.to, .slice A n c].toArray] w no _ Try.func17 rfl rfl
  intro b hb b2 hb2
  refine call_ev fun w1 h1 => (clone_c w1 F A n c x.data (hs.ext0 h1.ext0)).mono ?_
  rintro e w2 ⟨v, rfl, hx, hown⟩
  have e1 : b < w1.heap.size := h1.lt 0 rfl
  have e2 : b2 < w1.heap.size := h1.lt 1 rfl
  have hs1 := h1.size
  clear h1
  obtain ⟨A', c', rfl, hc, hs'⟩ := hown.slice
  refine ⟨_, rfl, hx, ?_⟩
  refine JoinP.mk fun w3 h3 => ⟨[.int .i64 x.to, .slice A' x.data.length c'], rfl, h3.ext0, .slice A' x.data.length c', rfl, ?_⟩
  refine (hown.ext (h3.extS (S := fun k => k = b ∨ k = b2) ⟨.inl rfl, .inr rfl, trivial⟩) ?_).mono (fun k hk _ => Nat.le_trans hs1 hk) (fun _ h _ => h) (fun _ _ h _ => h)
  intro k hk _ e
  have hk : w1.heap.size ≤ k := hk.elim (fun h => h) (fun h => h.elim)
  have e : k = b ∨ k = b2 := e
  omega

theorem put_cO (w : World) (B F F1 : Nat → Prop) (v : Value) (xs : List Mail) (cs : List Value) (x : Mail) (ho : Own kMailO 29 w B F v xs) (hx : kMail.rep w F1 cs x)
    (hd : ∀ b, B b → b < w.heap.size → ¬ F1 b) (hl : xs.length < 512) :
    Calls Try.prog 15 #[v, .agg cs.toArray] w fun e w' => ∃ v' B' F', e = .returned v' ∧ Ext B w w' ∧ Own kMailO 29 w' B' F' v' (xs ++ [x]) ∧
      (∀ b, B' b → b < w'.heap.size → B b ∨ w.heap.size ≤ b) ∧ ∀ b, F' b → b < w'.heap.size → F b ∨ w.heap.size ≤ b := by
  obtain ⟨A, c, rfl, hc, hs⟩ := ho.slice
  obtain ⟨A1, n1, c1, rfl, hs1⟩ := hx
  apply calls_of_vc T.C 15 Try.f15 _ [.slice A xs.length c, .agg [.int .i64 x.to, .slice A1 n1 c1].toArray] w B _ Try.func15 rfl rfl
  intro b hb
  refine if_split (fun hge => ?_) (fun hlt => ?_)
  · have : (512 : Int) ≤ xs.length := by simpa using hge
    omega
  · refine call_evD [0] fun w1 h1 => (own_cO w1 F1 _ x ⟨A1, n1, c1, rfl, hs1.ext0 (h1.extF ⟨hb, trivial⟩)⟩).mono ?_
    rintro e w2 ⟨_, rfl, hx2, ⟨v2, rfl, hs2⟩⟩
    refine ⟨_, rfl, hx2, ?_⟩
    intro b2 hb2
    refine append_ev kMailO [1] (T := 25) (e := 29) rfl rfl rfl rfl (by decide) (by decide) rfl rfl rfl ?_
    intro w3 h3
    have hx1 : Ext no w w1 := h1.extF ⟨hb, trivial⟩
    have hx3 : Ext no w2 w3 := h3.extF ⟨hb2, trivial⟩
    have ho3 := ((ho.here.ext0 hx1).ext0 hx2).ext0 hx3
    have e1 := hx1.size
    have e2 := hx2.size
    have e3 := hx3.size
    refine ⟨_, _, new w1.heap.size, xs, [x], ho3, rfl, fun _ => rfl, row_one (h3.bx 1 rfl) ⟨v2, rfl, hs2.ext0 hx3⟩, ?_, ?_, fun k _ hk => .inl hk.1, trivial, fun v' w4 hx4 hown4 hn4 => ?_⟩
    · exact fun k hk hk2 => absurd (show w1.heap.size ≤ k from hk2) (Nat.not_le.2 (Nat.lt_of_lt_of_le (ho.blk k hk).1 e1))
    · show (xs.length + 1) * 32 ≤ _; omega
    refine JoinP.mk fun w5 h5 => ⟨_, _, _, rfl, h5.ext0, hown4.ext0 (h5.extNo trivial), ?_, ?_⟩
    · rintro k (hk | hk) _
      · exact .inl hk.1
      · exact .inr (by omega)
    · rintro k ⟨hk | hk, _⟩ _
      · exact .inl hk.1
      · exact .inr (Nat.le_trans e1 hk)

theorem own_cast0 {w : World} {B F : Nat → Prop} {v : Value} (h : Own kMail 29 w B F v []) : Own kMailO 29 w B F v [] := by
  obtain ⟨cells, q1, q2, q3, q4⟩ := h
  exact ⟨cells, q1, fun j x h => by simp at h, q3, q4⟩

/-- Post(nil, to, d): what is told is one's own -/
theorem post1_c (w : World) (F2 : Nat → Prop) (A2 : Option Addr) (c2 : Nat) (to : Int) (d : List UInt8) (h2 : SliceR (kSl kU8 (by decide)) w F2 A2 1 [d]) :
    Calls Try.prog 8 #[.slice none 0 0, .int .i64 to, .slice A2 1 c2] w fun e w' => ∃ v B F', e = .returned v ∧ Ext no w w' ∧ Own kMailO 29 w' B F' v [⟨to, d⟩] ∧ (∀ b, B b → w.heap.size ≤ b) ∧ ∀ b, F' b → w.heap.size ≤ b := by
  obtain ⟨G2, hG2⟩ : ∃ G2 : Nat → Prop, G2 = fun k => F2 k ∧ k < w.heap.size := ⟨_, rfl⟩
  replace h2 : SliceR (kSl kU8 (by decide)) w G2 A2 1 [d] := hG2 ▸ h2.here (by decide)
  have hG2' : ∀ k, G2 k → k < w.heap.size := by rw [hG2]; exact fun k h => h.2
  apply calls_of_vc T.C 8 Try.f8 _ [.slice none 0 0, .int .i64 to, .slice A2 1 c2] w no _ Try.func8 rfl rfl
  refine call_ev fun w1 h1 => (all_c w1 no none 0 0 [] (SliceR.nil _ _ _ _) (by omega)).mono ?_
  rintro e w2 ⟨v, F', rfl, hx2, hown, hF'⟩
  refine ⟨v, rfl, hx2, ?_⟩
  have hs1 : w.heap.size ≤ w1.heap.size := h1.size
  clear h1
  have hownO := own_cast0 hown
  have hd0 : [d][0]? = some d := rfl
  refine loop_ev (γ := Nat × Value) (fun y => [(14, .v (.int .i64 y.1)), (7, .v y.2), (12, .v (.slice A2 1 c2)), (13, .v (.int .i64 (1 : Nat))), (1, .v (.int .i64 to))]) (fun _ => [])
    (fun y u => y.1 ≤ 1 ∧ Ext no w u ∧ ∃ B F', Own kMailO 29 u B F' y.2 (([⟨to, d⟩] : List Mail).take y.1) ∧ (∀ b, B b → w.heap.size ≤ b) ∧ ∀ b, F' b → w.heap.size ≤ b) (fun y => 1 - y.1) (fun _ => rfl) ?_ ?_
  · intro w3 h3
    exact ⟨(0, v), ⟨rfl, rfl, rfl, rfl, rfl⟩, List.nil_prefix, Nat.zero_le _, h3.ext0, new w1.heap.size, F', hownO.ext0 (h3.extNo trivial), fun b hb => Nat.le_trans hs1 hb, fun b hb => Nat.le_trans hs1 (hF' b hb)⟩
  · rintro ⟨i, v⟩ g u ⟨hi, hu, B, F', hown, hB, hF'⟩
    refine if_split (fun hlt => ?_) (fun hge => ?_)
    · have hlt : i < 1 := dlt hlt
      obtain rfl : i = 0 := by omega
      have hu' := h2.ext0 hu
      obtain ⟨_, _, ⟨A1, n1, c1, rfl, hs1'⟩, hc1⟩ := hu'.get hd0
      refine ⟨⟨h2.some_ (by omega), by omega, by omega⟩, .slice A1 n1 c1, fun w3 h3 => (h3.extNo trivial).cell hc1.head (fun h => h), ?_⟩
      refine call_evS [] fun w3 h3 => ?_
      have hx3 := h3.extNo trivial
      have hs3 : w.heap.size ≤ w3.heap.size := h3.size
      clear h3
      refine ⟨fun k => B k ∧ k < w3.heap.size, fun k _ hk => .inr (hB _ hk.1), trivial, ?_⟩
      have ho3 := hown.ext0 hx3
      refine (put_cO w3 (fun k => B k ∧ k < w3.heap.size) F' G2 v [] _ ⟨to, d⟩ (ho3.mono (fun k hk hl => ⟨hk, hl⟩) (fun _ h _ => h) (fun _ _ h _ => h)) ⟨A1, n1, c1, rfl, hs1'.ext0 hx3⟩ (fun b hb _ hg => absurd (hB _ hb.1) (Nat.not_le.2 (hG2' b hg))) (by simp)).mono ?_
      rintro e w4 ⟨v', B', F1', rfl, hx4, hown4, hB', hF1'⟩
      refine ⟨v', rfl, hx4, ?_⟩
      intro w5 h5
      have hx5 := h5.extNo trivial
      refine ⟨(1, v'), ⟨rfl, rfl, rfl, rfl, rfl⟩, List.nil_prefix, ⟨Nat.le_refl _, h5.ext0, fun k => B' k ∧ k < w4.heap.size, fun k => F1' k ∧ k < w4.heap.size, hown4.here.ext0 hx5, ?_, ?_⟩, Nat.zero_lt_one⟩
      · intro k hk
        exact (hB' k hk.1 hk.2).elim (fun h => hB k h.1) (fun h => Nat.le_trans hs3 h)
      · intro k hk
        exact (hF1' k hk.1 hk.2).elim (fun h => hF' k h) (fun h => Nat.le_trans hs3 h)
    · have hge : 1 ≤ i := dge hge
      have hi : i ≤ 1 := hi
      obtain rfl : i = 1 := by omega
      exact JoinP.mk fun w3 h3 => ⟨v, B, F', rfl, h3.ext0, hown.ext0 (h3.extNo trivial), hB, hF'⟩
end Go.Proofs.Ytdmengbemonkaaa
