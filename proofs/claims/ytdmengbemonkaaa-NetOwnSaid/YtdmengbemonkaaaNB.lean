import Derived.Test.YtdmengbemonkaaaNA
set_option linter.all false
set_option linter.constructorNameAsVariable false
namespace Go.Proofs.Ytdmengbemonkaaa
open Go Go.Flow

structure Mail where
  to : Int
  data : List UInt8

def kMail : Kind Mail where
  sz := 2
  rep := fun w F cs x => ∃ A n c, cs = [.int .i64 x.to, .slice A n c] ∧ SliceR kU8 w F A n x.data
  len := fun ⟨_, _, _, h, _⟩ => by rw [h]; rfl
  one := fun ⟨_, _, _, h, _⟩ => by rw [h]; rfl
  move := fun ⟨A, n, c, h, hs⟩ hm => ⟨A, n, c, h, hs.move hm⟩
  mono := fun ⟨A, n, c, h, hs⟩ hm => ⟨A, n, c, h, hs.mono hm (by decide)⟩

theorem own_c (w : World) (F : Nat → Prop) (cs : List Value) (x : Mail) (h : kMail.rep w F cs x) :
    Calls Try.prog 17 #[.agg cs.toArray] w fun e w' => ∃ cs', e = .returned (.agg cs'.toArray) ∧ Ext no w w' ∧ kMail.rep w' (new w.heap.size) cs' x := by
  obtain ⟨A, n, c, rfl, hs⟩ := h
  apply calls_of_vc T.C 17 Try.f17 _ [.agg [.int .i64 x.to, .slice A n c].toArray] w no _ Try.func17 rfl rfl
  intro b hb b2 hb2
  refine call_ev fun w1 h1 => (clone_c w1 F A n c x.data (hs.ext0 h1.ext0)).mono ?_
  rintro e w2 ⟨v, rfl, hx, hown⟩
  obtain ⟨A', c', rfl, hc, hs'⟩ := hown.slice
  refine ⟨_, rfl, hx, ?_⟩
  refine JoinP.mk fun w3 h3 => ⟨[.int .i64 x.to, .slice A' x.data.length c'], rfl, h3.ext0, A', x.data.length, c', rfl, ?_⟩
  refine (hs'.ext (h3.extS (S := fun k => k = b ∨ k = b2) ⟨.inl rfl, .inr rfl, trivial⟩) ?_).mono (fun b hb _ => ?_) (by decide)
  · have e1 := h1.lt 0 rfl
    have e2 := h1.lt 1 rfl
    rintro k (hk | hk) _ (rfl | rfl)
    · exact absurd (show w1.heap.size ≤ k from hk) (Nat.not_le.2 e1)
    · exact absurd (show w1.heap.size ≤ k from hk) (Nat.not_le.2 e2)
    · exact hk
    · exact hk
  · exact hb.elim (fun h => Nat.le_trans h1.size h) (fun h => h.elim)

theorem all_c (w : World) (F : Nat → Prop) (A : Option Addr) (n c : Nat) (xs : List Mail) (h : SliceR kMail w F A n xs) (hb : n ≤ 1099511627776) :
    Calls Try.prog 14 #[.slice A n c] w fun e w' => ∃ v F', e = .returned v ∧ Ext no w w' ∧ Own kMail 29 w' (new w.heap.size) F' v xs ∧ ∀ b, F' b → w.heap.size ≤ b := by
  apply calls_of_vc T.C 14 Try.f14 _ [.slice A n c] w no _ Try.func14 rfl rfl
  refine loop_ev (γ := Nat × Value) (fun y => [(8, .v (.int .i64 y.1)), (3, .v y.2), (6, .v (.slice A n c)), (7, .v (.int .i64 n))]) (fun _ => [])
    (fun y u => y.1 ≤ n ∧ Ext no w u ∧ ∃ F', Own kMail 29 u (new w.heap.size) F' y.2 (xs.take y.1) ∧ ∀ b, F' b → w.heap.size ≤ b) (fun y => n - y.1) (fun _ => rfl) ?_ ?_
  · intro w1 h1
    exact ⟨(0, .slice none 0 0), ⟨rfl, rfl, rfl, rfl⟩, List.nil_prefix, Nat.zero_le _, h1.ext0, no, Own.nil _ _ _ _ _, fun _ h => h.elim⟩
  · rintro ⟨i, v⟩ g u ⟨hi, hu, F', hown, hF'⟩
    refine if_split (fun hlt => ?_) (fun hge => ?_)
    · have hlt : i < n := by simpa using hlt
      obtain ⟨m, hm⟩ : ∃ m, xs[i]? = some m := ⟨_, List.getElem?_eq_getElem (by rw [h.len]; exact hlt)⟩
      have hu' := h.ext0 hu
      obtain ⟨_, _, ⟨A1, n1, c1, rfl, hs1⟩, hc1⟩ := hu'.get hm
      refine ⟨⟨h.some_ (by omega), by omega, by omega⟩, [.int .i64 m.to, .slice A1 n1 c1], ⟨rfl, fun w1 h1 => ?_⟩, ?_⟩
      · exact hc1.ext (h1.extNo trivial) (fun h => h)
      · intro b hb
        refine call_evD [0] fun w1 h1 => (own_c w1 F _ m ⟨A1, n1, c1, rfl, hs1.ext0 (h1.extF ⟨hb, trivial⟩)⟩).mono ?_
        rintro e w2 ⟨_, rfl, hx2, ⟨A2, n2, c2, rfl, hs2⟩⟩
        refine ⟨_, rfl, hx2, ?_⟩
        intro b2 hb2
        refine append_ev kMail [1] (T := 25) (e := 29) rfl rfl rfl rfl (by decide) (by decide) rfl rfl rfl ?_
        intro w3 h3
        have hx1 : Ext no u w1 := h1.extF ⟨hb, trivial⟩
        have hx3 : Ext no w2 w3 := h3.extF ⟨hb2, trivial⟩
        have hw1 : w.heap.size ≤ w1.heap.size := Nat.le_trans hu.size hx1.size
        have ho1 : Own kMail 29 w1 (new w.heap.size) F' v (xs.take i) := hown.ext0 hx1
        have ho3 := (ho1.here.ext0 hx2).ext0 hx3
        have hti : (xs.take i).length = i := by have := h.len; simp; omega
        refine ⟨_, _, new w1.heap.size, xs.take i, [m], ho3, rfl, fun _ => rfl, row_one (h3.bx 1 rfl) ⟨A2, n2, c2, rfl, hs2.ext0 hx3⟩, ?_, ?_, fun k _ hk => .inr hk.1, trivial, fun v' w4 hx4 hown4 hn4 => ?_⟩
        · exact fun k hk hk2 => absurd (show w1.heap.size ≤ k from hk2) (Nat.not_le.2 (ho1.blk k hk).1)
        · rw [hti]; show (i + 1) * 32 ≤ _; omega
        intro w5 h5
        refine ⟨(i + 1, v'), ⟨next_i (by omega), rfl, rfl, rfl⟩, List.nil_prefix, ⟨hlt, h5.ext0, _, (take_snoc hm) ▸ (hown4.ext0 (h5.extNo trivial)).mono (B' := new w.heap.size) ?_ (fun _ h _ => h) ?_, ?_⟩, by simp; omega⟩
        · rintro k ⟨hk | hk, _⟩
          · exact hF' k hk.1
          · exact Nat.le_trans hw1 hk
        · have := hx3.size; have := hx2.size
          rintro k (hk | hk) _
          · exact hk.1
          · exact show w.heap.size ≤ k by omega
        · exact fun k _ hf _ => hf
    · refine JoinP.mk fun w1 h1 => ⟨v, F', rfl, h1.ext0, ?_, hF'⟩
      have : i = n := by have : ¬ (i : Int) < n := by simpa using hge
                         have : i ≤ n := hi
                         omega
      subst this
      rw [← h.len] at hown; simp only [List.take_length] at hown
      exact hown.ext0 (h1.extNo trivial)

/-- what the place is at which a number points -/
def placeN (at_ : Int) (n : Nat) : Nat := (((at_.tmod n) + n).tmod n).toNat
theorem place_c (w : World) (a : Int) (n : Nat) (hn : 0 < n) (hle : n ≤ 1099511627776) :
    Calls Try.prog 16 #[.int .i64 a, .int .i64 n] w fun e w' => e = .returned (.int .i64 (placeN a n)) ∧ placeN a n < n ∧ Ext no w w' := by
  apply calls_of_vc T.C 16 Try.f16 _ [.int .i64 a, .int .i64 n] w no _ Try.func16 rfl rfl
  have h0 : (n : Int) ≠ 0 := by omega
  have h1 : (a.tmod n) < n := Int.tmod_lt_of_pos _ (by omega)
  have h2 : -(n : Int) < a.tmod n := by
    have := Int.lt_tmod_of_pos a (show (0 : Int) < n by omega); omega
  have h3 : IntKind.i64.wrap (a.tmod n + n) = a.tmod n + n := wrap_ok (by omega) (by omega)
  have h4 : 0 ≤ (a.tmod n + n).tmod n := Int.tmod_nonneg _ (by omega)
  have h5 : (a.tmod n + n).tmod n < n := Int.tmod_lt_of_pos _ (by omega)
  refine ⟨⟨rfl, h0⟩, ⟨rfl, h0⟩, ?_⟩
  refine JoinP.mk fun w1 h1 => ⟨?_, by unfold placeN; omega, h1.ext0⟩
  show Ending.returned (.int .i64 ((IntKind.i64.wrap (a.tmod n + n)).tmod n)) = _
  rw [h3]; unfold placeN; rw [Int.toNat_of_nonneg h4]

theorem put_c (w : World) (B F F1 : Nat → Prop) (v : Value) (xs : List Mail) (cs : List Value) (x : Mail) (ho : Own kMail 29 w B F v xs) (hx : kMail.rep w F1 cs x)
    (hd : ∀ b, B b → b < w.heap.size → ¬ F1 b) (hl : xs.length ≤ 1099511627776) :
    Calls Try.prog 15 #[v, .agg cs.toArray] w fun e w' => ∃ v' B' F', e = .returned v' ∧ Ext B w w' ∧ Own kMail 29 w' B' F' v' (if xs.length < 512 then xs ++ [x] else xs) ∧
      (∀ b, B' b → b < w'.heap.size → B b ∨ w.heap.size ≤ b) ∧ ∀ b, F' b → b < w'.heap.size → F b ∨ w.heap.size ≤ b := by
  obtain ⟨A, c, rfl, hc, hs⟩ := ho.slice
  obtain ⟨A1, n1, c1, rfl, hs1⟩ := hx
  apply calls_of_vc T.C 15 Try.f15 _ [.slice A xs.length c, .agg [.int .i64 x.to, .slice A1 n1 c1].toArray] w B _ Try.func15 rfl rfl
  intro b hb
  refine if_split (fun hge => ?_) (fun hlt => ?_)
  · have : ¬ xs.length < 512 := by
      have : (512 : Int) ≤ xs.length := by simpa using hge
      omega
    rw [if_neg this]
    refine JoinP.mk fun w1 h1 => ⟨_, B, F, rfl, h1.ext0, ho.ext0 (h1.extF ⟨hb, trivial⟩), fun _ h _ => .inl h, fun _ h _ => .inl h⟩
  · have hlt : xs.length < 512 := by
      have : ¬ (512 : Int) ≤ xs.length := by simpa using hlt
      omega
    rw [if_pos hlt]
    refine call_evD [0] fun w1 h1 => (own_c w1 F1 _ x ⟨A1, n1, c1, rfl, hs1.ext0 (h1.extF ⟨hb, trivial⟩)⟩).mono ?_
    rintro e w2 ⟨_, rfl, hx2, ⟨A2, n2, c2, rfl, hs2⟩⟩
    refine ⟨_, rfl, hx2, ?_⟩
    intro b2 hb2
    refine append_ev kMail [1] (T := 25) (e := 29) rfl rfl rfl rfl (by decide) (by decide) rfl rfl rfl ?_
    intro w3 h3
    have hx1 : Ext no w w1 := h1.extF ⟨hb, trivial⟩
    have hx3 : Ext no w2 w3 := h3.extF ⟨hb2, trivial⟩
    have ho3 := ((ho.here.ext0 hx1).ext0 hx2).ext0 hx3
    have e1 := hx1.size
    have e2 := hx2.size
    have e3 := hx3.size
    refine ⟨_, _, new w1.heap.size, xs, [x], ho3, rfl, fun _ => rfl, row_one (h3.bx 1 rfl) ⟨A2, n2, c2, rfl, hs2.ext0 hx3⟩, ?_, ?_, fun k _ hk => .inl hk.1, trivial, fun v' w4 hx4 hown4 hn4 => ?_⟩
    · exact fun k hk hk2 => absurd (show w1.heap.size ≤ k from hk2) (Nat.not_le.2 (Nat.lt_of_lt_of_le (ho.blk k hk).1 e1))
    · show (xs.length + 1) * 32 ≤ _; omega
    refine JoinP.mk fun w5 h5 => ⟨_, _, _, rfl, h5.ext0, hown4.ext0 (h5.extNo trivial), ?_, ?_⟩
    · rintro k (hk | hk) _
      · exact .inl hk.1
      · exact .inr (by omega)
    · rintro k ⟨hk | hk, _⟩ _
      · exact .inl hk.1
      · exact .inr (Nat.le_trans e1 hk)
end Go.Proofs.Ytdmengbemonkaaa
