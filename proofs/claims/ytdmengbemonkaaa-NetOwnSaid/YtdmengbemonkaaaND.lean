import Derived.Test.YtdmengbemonkaaaNC
set_option linter.all false
namespace Go.Proofs.Ytdmengbemonkaaa
open Go Go.Flow

abbrev kBytes : Kind (List UInt8) := kSl kU8 (by decide)

def putL (xs : List Mail) (x : Mail) : List Mail := if xs.length < 512 then xs ++ [x] else xs
def postL (xs : List Mail) (to : Int) (ds : List (List UInt8)) : List Mail := ds.foldl (fun l d => putL l ⟨to, d⟩) xs
theorem putL_le {xs : List Mail} {x : Mail} {n : Nat} (h : xs.length ≤ n) (hn : 512 ≤ n) : (putL xs x).length ≤ n := by
  unfold putL; split
  · simp; omega
  · exact h
theorem postL_le {to : Int} {n : Nat} (hn : 512 ≤ n) : ∀ (ds : List (List UInt8)) (xs : List Mail), xs.length ≤ n → (postL xs to ds).length ≤ n
  | [], xs, h => h
  | d :: ds, xs, h => by unfold postL; rw [List.foldl_cons]; exact postL_le hn ds _ (putL_le h hn)
theorem postL_snoc (xs : List Mail) (to : Int) (ds : List (List UInt8)) (d : List UInt8) : postL xs to (ds ++ [d]) = putL (postL xs to ds) ⟨to, d⟩ := by
  unfold postL; rw [List.foldl_append]; rfl

theorem post_c (w : World) (F F2 : Nat → Prop) (A A2 : Option Addr) (n c n2 c2 : Nat) (xs : List Mail) (to : Int) (ds : List (List UInt8)) (h : SliceR kMail w F A n xs) (hb : n ≤ 1099511627776) (h2 : SliceR kBytes w F2 A2 n2 ds) :
    Calls Try.prog 8 #[.slice A n c, .int .i64 to, .slice A2 n2 c2] w fun e w' => ∃ v F', e = .returned v ∧ Ext no w w' ∧ Own kMail 29 w' (new w.heap.size) F' v (postL xs to ds) ∧ ∀ b, F' b → w.heap.size ≤ b := by
  obtain ⟨G2, hG2⟩ : ∃ G2 : Nat → Prop, G2 = fun k => F2 k ∧ k < w.heap.size := ⟨_, rfl⟩
  replace h2 : SliceR kBytes w G2 A2 n2 ds := hG2 ▸ h2.here (by decide)
  have hG2' : ∀ k, G2 k → k < w.heap.size := by rw [hG2]; exact fun k h => h.2
  apply calls_of_vc T.C 8 Try.f8 _ [.slice A n c, .int .i64 to, .slice A2 n2 c2] w no _ Try.func8 rfl rfl
  refine call_ev fun w1 h1 => (all_c w1 F A n c xs (h.ext0 h1.ext0) hb).mono ?_
  rintro e w2 ⟨v, F', rfl, hx2, hown, hF'⟩
  refine ⟨v, rfl, hx2, ?_⟩
  have hs1 := h1.size
  clear h1
  refine loop_ev (γ := Nat × Value) (fun y => [(14, .v (.int .i64 y.1)), (7, .v y.2), (12, .v (.slice A2 n2 c2)), (13, .v (.int .i64 n2)), (1, .v (.int .i64 to))]) (fun _ => [])
    (fun y u => y.1 ≤ n2 ∧ Ext no w u ∧ ∃ F', Own kMail 29 u (new w.heap.size) F' y.2 (postL xs to (ds.take y.1)) ∧ ∀ b, F' b → w.heap.size ≤ b) (fun y => n2 - y.1) (fun _ => rfl) ?_ ?_
  · intro w1 h1
    exact ⟨(0, v), ⟨rfl, rfl, rfl, rfl, rfl⟩, List.nil_prefix, Nat.zero_le _, h1.ext0, F', (hown.ext0 (h1.extNo trivial)).mono (fun b hb _ => Nat.le_trans hs1 hb) (fun _ h _ => h) (fun _ _ h _ => h), fun b hb => Nat.le_trans hs1 (hF' b hb)⟩
  · rintro ⟨i, v⟩ g u ⟨hi, hu, F', hown, hF'⟩
    refine if_split (fun hlt => ?_) (fun hge => ?_)
    · have hlt : i < n2 := by simpa using hlt
      obtain ⟨m, hm⟩ : ∃ m, ds[i]? = some m := ⟨_, List.getElem?_eq_getElem (by rw [h2.len]; exact hlt)⟩
      have hu' := h2.ext0 hu
      obtain ⟨_, _, ⟨A1, n1, c1, rfl, hs1⟩, hc1⟩ := hu'.get hm
      have hle : (postL xs to (ds.take i)).length ≤ 1099511627776 := postL_le (by omega) _ _ (by rw [h.len]; exact hb)
      refine ⟨⟨h2.some_ (by omega), by omega, by omega⟩, .slice A1 n1 c1, fun w1 h1 => ?_, ?_⟩
      · exact (h1.extNo trivial).cell hc1.head (fun h => h)
      · refine call_evS [] fun w1 h1 => ?_
        have hx1 := h1.extNo trivial
        have hs0 := h1.size
        refine ⟨fun k => new w.heap.size k ∧ k < w1.heap.size, fun k _ hk => .inr hk.1, trivial, ?_⟩
        have ho1 := (hown.ext0 hx1)
        have hoB : Own kMail 29 w1 (fun k => new w.heap.size k ∧ k < w1.heap.size) F' v (postL xs to (ds.take i)) := ho1.mono (fun b hb hl => ⟨hb, hl⟩) (fun b hb _ => hb) (fun _ _ hf _ => hf)
        refine (put_c w1 _ F' G2 v _ _ ⟨to, m⟩ hoB ⟨A1, n1, c1, rfl, hs1.ext0 hx1⟩ (fun b hb _ hg => absurd (show w.heap.size ≤ b from hb.1) (Nat.not_le.2 (hG2' b hg))) hle).mono ?_
        rintro e w2 ⟨v', B', F1', rfl, hx2, hown2, hB', hF1'⟩
        refine ⟨v', rfl, hx2, ?_⟩
        intro w3 h3
        have hx3 := h3.extNo trivial
        have hw1 : w.heap.size ≤ w1.heap.size := hs0
        refine ⟨(i + 1, v'), ⟨next_i (by have := h2.le; omega), rfl, rfl, rfl, rfl⟩, List.nil_prefix, ⟨hlt, h3.ext0, fun k => F1' k ∧ k < w2.heap.size, ?_, ?_⟩, by simp; omega⟩
        · rw [take_snoc hm, postL_snoc]
          refine (hown2.mono (B' := fun k => B' k ∧ k < w2.heap.size) (F' := fun k => F1' k ∧ k < w2.heap.size) (fun b hb hl => ⟨hb, hl⟩) (fun b hb hl => ⟨hb, hl⟩) (fun _ _ hf _ => hf.1)).ext0 hx3 |>.mono ?_ (fun _ h _ => h) (fun _ _ h _ => h)
          rintro k hk _
          rcases hB' k hk.1 hk.2 with h | h
          · exact h.1
          · exact Nat.le_trans hw1 h
        · rintro k hk
          rcases hF1' k hk.1 hk.2 with h | h
          · exact hF' k h
          · exact Nat.le_trans hw1 h
    · refine JoinP.mk fun w1 h1 => ⟨v, F', rfl, h1.ext0, ?_, hF'⟩
      have : i = n2 := by have : ¬ (i : Int) < n2 := by simpa using hge
                          have : i ≤ n2 := hi
                          omega
      subst this
      rw [← h2.len] at hown; simp only [List.take_length] at hown
      exact hown.ext0 (h1.extNo trivial)

def takeL (xs : List Mail) (a : Int) : Mail × List Mail × Bool :=
  match xs[placeN a xs.length]? with
  | some m => (m, xs.eraseIdx (placeN a xs.length), true)
  | none => (⟨0, []⟩, [], false)
theorem take_c (w : World) (F : Nat → Prop) (A : Option Addr) (n c : Nat) (xs : List Mail) (a : Int) (h : SliceR kMail w F A n xs) (hb : n ≤ 1099511627776) :
    Calls Try.prog 9 #[.slice A n c, .int .i64 a] w fun e w' => ∃ cs v F', e = .returned (.tuple #[.agg cs.toArray, v, .bool (takeL xs a).2.2]) ∧ Ext no w w' ∧ kMail.rep w' (new w.heap.size) cs (takeL xs a).1 ∧
      Own kMail 29 w' (new w.heap.size) F' v (takeL xs a).2.1 ∧ ∀ b, F' b → w.heap.size ≤ b := by
  apply calls_of_vc T.C 9 Try.f9 _ [.slice A n c, .int .i64 a] w no _ Try.func9 rfl rfl
  intro b hb0
  refine if_split (fun h0 => ?_) (fun h0 => ?_)
  · have hn0 : n = 0 := by have : (n : Int) = 0 := by simpa using h0
                           omega
    have hx : xs = [] := List.eq_nil_of_length_eq_zero (h.len.trans hn0)
    subst hx
    refine JoinP.mk fun w1 h1 => ⟨_, _, no, rfl, h1.ext0, ⟨none, 0, 0, rfl, SliceR.nil _ _ _ _⟩, Own.nil _ _ _ _ _, fun _ h => h.elim⟩
  · have hn0 : 0 < n := by have : ¬ (n : Int) = 0 := by simpa using h0
                           omega
    refine call_ev fun w1 h1 => (place_c w1 a n hn0 hb).mono ?_
    rintro e w2 ⟨rfl, hpl, hx2⟩
    refine ⟨_, rfl, hx2, ?_⟩
    clear h1
    obtain ⟨m, hm⟩ : ∃ m, xs[placeN a n]? = some m := ⟨_, List.getElem?_eq_getElem (by rw [h.len]; exact hpl)⟩
    have htk : takeL xs a = (m, xs.eraseIdx (placeN a n), true) := by unfold takeL; rw [h.len, hm]
    obtain ⟨_, _, ⟨A1, n1, c1, rfl, hs1⟩, hc1⟩ := h.get hm
    refine ⟨⟨h.some_ hn0, by omega, by omega⟩, [.int .i64 m.to, .slice A1 n1 c1], ⟨rfl, fun w3 h3 => hc1.ext h3.ext0 (fun h => h)⟩, ?_⟩
    refine call_ev fun w3 h3 => (own_c w3 F _ m ⟨A1, n1, c1, rfl, hs1.ext0 h3.ext0⟩).mono ?_
    rintro e w4 ⟨_, rfl, hx4, ⟨A2, n2, c2, rfl, hs2⟩⟩
    refine ⟨_, rfl, hx4, ?_⟩
    have hb3 := h3.lt 0 rfl
    have hw3 := h3.size
    clear h3
    refine call_ev fun w5 h5 => (all_c w5 F A n c xs (h.ext0 h5.ext0) hb).mono ?_
    rintro e w6 ⟨v, F', rfl, hx6, hown, hF'⟩
    refine ⟨v, rfl, hx6, ?_⟩
    have hx5 : Ext (fun k => k = b) w4 w5 := h5.extS ⟨rfl, trivial⟩
    have hw5 := h5.size
    clear h5
    have hb3 : b < w3.heap.size := hb3
    have hs6 : SliceR kU8 w6 (fun k => new w3.heap.size k ∧ k < w4.heap.size) A2 n2 m.data := ((hs2.here (by decide)).ext hx5 (fun k hk _ e => absurd (show w3.heap.size ≤ k from hk.1) (by omega))).ext0 hx6
    have hsz4 := hx4.size
    have hsz5 := hx5.size
    have hp1 : 0 ≤ placeN a n := Nat.zero_le _
    have hnx : Value.int .i64 (IntKind.i64.wrap ((placeN a n : Int) + 1)) = .int .i64 ((placeN a n + 1 : Nat) : Int) := next_i (by omega)
    have hdel : ∀ w7 : World, Own kMail 29 w7 (fun k => new w5.heap.size k ∧ k < w6.heap.size) (fun k => F' k ∧ k < w6.heap.size) v xs → _ := fun w7 ho => delete_c w7 _ _ v xs (placeN a n) ho (by rw [h.len]; exact hpl)
    refine call_evS [] fun w7 h7 => ⟨fun k => new w5.heap.size k ∧ k < w6.heap.size, fun k _ hk => .inr (Nat.le_trans hw5 hk.1), ⟨fun hk => absurd (show w5.heap.size ≤ b from hk.1) (by omega), trivial⟩, ?_⟩
    have hx7 : Ext (fun k => k = b) w6 w7 := h7.extS ⟨rfl, trivial⟩
    clear h7
    have hd := hdel w7 (hown.here.ext hx7 (fun k hk _ e => by
      subst e
      rcases hk with hk | hk
      · exact absurd (show w5.heap.size ≤ k from hk.1) (by omega)
      · exact absurd (hF' _ hk.1) (by omega)))
    rw [← hnx] at hd
    refine hd.mono ?_
    rintro e w8 ⟨v', rfl, hx8, hown8⟩
    refine ⟨v', rfl, hx8, ?_⟩
    rw [htk]
    refine JoinP.mk fun w9 h9 => ⟨[.int .i64 m.to, .slice A2 n2 c2], v', fun k => F' k ∧ k < w6.heap.size, rfl, h9.ext0, ?_, ?_, ?_⟩
    · have hx9 : Ext (fun k => k = b) w8 w9 := h9.extS ⟨rfl, trivial⟩
      clear h9
      refine ⟨A2, n2, c2, rfl, (((hs6.ext hx7 ?_).ext hx8 ?_).ext hx9 ?_).mono (fun k hk _ => Nat.le_trans hw3 hk.1) (by decide)⟩
      · exact fun k hk _ e => absurd (show w3.heap.size ≤ k from hk.1) (by omega)
      · exact fun k hk _ e => absurd (show w5.heap.size ≤ k from e.1) (by omega)
      · exact fun k hk _ e => absurd (show w3.heap.size ≤ k from hk.1) (by omega)
    · have hx9 : Ext (fun k => k = b) w8 w9 := h9.extS ⟨rfl, trivial⟩
      clear h9
      refine (hown8.ext hx9 ?_).mono (fun k hk _ => Nat.le_trans hw5 hk.1) (fun _ h _ => h) (fun _ _ h _ => h)
      rintro k (hk | hk) _ e
      · exact absurd (show w5.heap.size ≤ k from hk.1) (by omega)
      · exact absurd (hF' _ hk.1) (by omega)
    · exact fun k hk => Nat.le_trans hw5 (hF' _ hk.1)
end Go.Proofs.Ytdmengbemonkaaa
