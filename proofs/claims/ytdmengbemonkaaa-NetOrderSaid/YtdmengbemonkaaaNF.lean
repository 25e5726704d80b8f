import Derived.Test.YtdmengbemonkaaaNE
set_option linter.all false
namespace Go.Proofs.Ytdmengbemonkaaa
open Go Go.Flow

def msgs (ts : List Int) (ds : List (List UInt8)) : List Mail := ds.zipIdx.map fun p => ⟨(ts[p.2]?).getD 0, p.1⟩
theorem msgs_len (ts : List Int) (ds : List (List UInt8)) : (msgs ts ds).length = ds.length := by simp [msgs]
theorem msgs_get {ts : List Int} {ds : List (List UInt8)} {i : Nat} {d : List UInt8} (h : ds[i]? = some d) : (msgs ts ds)[i]? = some ⟨(ts[i]?).getD 0, d⟩ := by
  simp [msgs, List.getElem?_map, List.getElem?_zipIdx, h]

theorem placeN0 (n : Nat) : placeN 0 n = 0 := by
  unfold placeN; simp
theorem takeL0 {xs : List Mail} {m : Mail} {ys : List Mail} (h : xs = m :: ys) : takeL xs 0 = (m, ys, true) := by
  subst h; unfold takeL; rw [placeN0]; rfl

theorem order_c (w : World) (F F2 : Nat → Prop) (A A2 : Option Addr) (n c n2 c2 : Nat) (ds : List (List UInt8)) (ts : List Int) (h : SliceR kBytes w F A n ds) (h2 : SliceR (kInt .i64) w F2 A2 n2 ts) :
    Calls Try.prog 3 #[.slice A n c, .slice A2 n2 c2] w fun e w' => e = .returned (.bool true) ∧ Ext no w w' := by
  apply calls_of_vc T.C 3 Try.f3 _ [.slice A n c, .slice A2 n2 c2] w no _ Try.func3 rfl rfl
  refine call_ev fun w1 h1 => (alive_c w1).mono ?_
  rintro e w2 ⟨rfl, hx2⟩
  refine ⟨_, rfl, hx2, ?_⟩
  clear h1
  refine if_no rfl ?_
  refine if_split (fun _ => JoinP.mk fun w1 h1 => ⟨rfl, h1.ext0⟩) (fun hle => ?_)
  have hn : n ≤ 100 := by have : ¬ (n : Int) > 100 := by simpa using hle
                          omega
  refine loop_ev (γ := Nat × Value) (fun y => [(6, .v (.int .i64 y.1)), (5, .v y.2), (0, .v (.slice A n c)), (1, .v (.slice A2 n2 c2))]) (fun _ => [])
    (fun y u => y.1 ≤ n ∧ Ext no w u ∧ ∃ F', Own kMail 29 u (new w.heap.size) F' y.2 ((msgs ts ds).take y.1) ∧ ∀ b, F' b → w.heap.size ≤ b) (fun y => n - y.1) (fun _ => rfl) ?_ ?_
  · intro w1 h1
    exact ⟨(0, .slice none 0 0), ⟨rfl, rfl, rfl, rfl⟩, List.nil_prefix, Nat.zero_le _, h1.ext0, no, Own.nil _ _ _ _ _, fun _ h => h.elim⟩
  · rintro ⟨i, v⟩ g u ⟨(hi : i ≤ n), hu, F', (hown : Own kMail 29 u (new w.heap.size) F' v ((msgs ts ds).take i)), hF'⟩
    obtain ⟨Al, cl, rfl, hcl, hsl⟩ := hown.slice
    refine if_split (fun hlt => ?_) (fun hge => ?_)
    · have hlt : i < n := by simpa using hlt
      obtain ⟨d, hd⟩ : ∃ d, ds[i]? = some d := ⟨_, List.getElem?_eq_getElem (by rw [h.len]; exact hlt)⟩
      obtain ⟨_, _, ⟨A1, n1, c1, rfl, hs1⟩, hc1⟩ := h.get hd
      have hlen : ((msgs ts ds).take i).length = i := by have := h.len; simp [msgs_len]; omega
      have hput : ∀ tv, tv = (ts[i]?).getD 0 → postL ((msgs ts ds).take i) tv [d] = (msgs ts ds).take (i + 1) := by
        rintro _ rfl
        rw [take_snoc (msgs_get hd)]
        show putL _ _ = _
        unfold putL
        rw [if_pos (by rw [hlen]; omega)]
      refine if_split (fun hlt2 => ⟨⟨h2.some_ (Nat.lt_of_le_of_lt (Nat.zero_le _) (dlt hlt2)), by omega, Int.ofNat_lt.2 (dlt hlt2)⟩, .int .i64 ((ts[i]?).getD 0), fun w1 h1 => ?_, ?_⟩) (fun hge2 => ?_)
      · have hlt2 : i < n2 := by simpa using hlt2
        obtain ⟨t, ht⟩ : ∃ t, ts[i]? = some t := ⟨_, List.getElem?_eq_getElem (by rw [h2.len]; exact hlt2)⟩
        obtain ⟨_, _, rfl, hc2⟩ := h2.get ht
        rw [ht]
        exact h1.ext0.cell hc2.head (fun h => h)
      all_goals refine ⟨⟨h.some_ (by omega), by omega, by omega⟩, .slice A1 n1 c1, fun w1 h1 => h1.ext0.cell hc1.head (fun h => h), ?_⟩
      all_goals intro b hb
      all_goals refine call_evD [0] fun w1 h1 => (post_c w1 _ (fun k => F k ∨ k = b) Al (some ⟨b, 0, none⟩) _ cl 1 1 _ _ [d] (hsl.ext0 (h1.extF ⟨hb, trivial⟩)) (by rw [hlen]; omega)
          (row_list (h1.bx 0 rfl) ⟨A1, n1, c1, rfl, (hs1.ext0 h1.ext0).mono (fun k hk _ => .inl hk) (by decide)⟩ (.inr rfl))).mono ?_
      all_goals
        rintro e w3 ⟨v, F3, rfl, hx3, hown3, hF3⟩
        refine ⟨_, rfl, hx3, ?_⟩
        have hs1 := h1.size
        clear h1
        intro w4 h4
        refine ⟨(i + 1, v), ⟨next_i (by omega), rfl, rfl, rfl⟩, List.nil_prefix, ⟨hlt, h4.ext0, F3, ?_, fun k hk => Nat.le_trans hs1 (hF3 k hk)⟩, by simp; omega⟩
        rw [← hput _ _]
        exact (hown3.ext0 (h4.extNo trivial)).mono (fun k hk _ => Nat.le_trans hs1 hk) (fun _ h _ => h) (fun _ _ h _ => h)
      · rfl
      · have : ¬ (i : Int) < n2 := by simpa using hge2
        rw [List.getElem?_eq_none (by rw [h2.len]; omega)]; rfl
    · have hin : i = n := by have := dge hge; omega
      subst hin
      have e : (msgs ts ds).take i = msgs ts ds := List.take_of_length_le (by rw [msgs_len, h.len]; omega)
      have hown' : Own kMail 29 u (new w.heap.size) F' (.slice Al ((msgs ts ds).take i).length cl) (msgs ts ds) := by
        rw [e] at hown ⊢; exact hown
      refine loop_ev (γ := Nat × Value) (fun y => [(8, .v (.int .i64 y.1)), (5, .v y.2), (0, .v (.slice A i c)), (1, .v (.slice A2 n2 c2))]) (fun _ => [])
        (fun y u => y.1 ≤ i ∧ Ext no w u ∧ ∃ F', Own kMail 29 u (new w.heap.size) F' y.2 ((msgs ts ds).drop y.1) ∧ ∀ b, F' b → w.heap.size ≤ b) (fun y => i - y.1) (fun _ => rfl) ?_ ?_
      · intro w1 h1
        exact ⟨(0, _), ⟨rfl, rfl, rfl, rfl⟩, List.nil_prefix, Nat.zero_le _, h1.ext0, F', hown'.ext0 (h1.extNo trivial), hF'⟩
      clear hown hown' e hF' hu hcl hsl hge
      rintro ⟨j, v⟩ g u ⟨(hj : j ≤ i), hu, F', (hown : Own kMail 29 u (new w.heap.size) F' v ((msgs ts ds).drop j)), hF'⟩
      obtain ⟨Al, cl, rfl, hcl, hsl⟩ := hown.slice
      refine if_split (fun hlt => ?_) (fun hge => ?_)
      · have hlt : j < i := dlt hlt
        obtain ⟨d, hd⟩ : ∃ d, ds[j]? = some d := ⟨_, List.getElem?_eq_getElem (by rw [h.len]; exact hlt)⟩
        obtain ⟨_, _, ⟨A1, n1, c1, rfl, hs1⟩, hc1⟩ := h.get hd
        have hmd : (msgs ts ds).drop j = ⟨(ts[j]?).getD 0, d⟩ :: (msgs ts ds).drop (j + 1) := by
          obtain ⟨hjl, hje⟩ := List.getElem?_eq_some_iff.1 (msgs_get (ts := ts) hd)
          rw [List.drop_eq_getElem_cons hjl, hje]
        have htk := takeL0 hmd
        refine call_ev fun w1 h1 => (take_c w1 _ Al _ cl _ 0 (hsl.ext0 (h1.extNo trivial)) (by rw [List.length_drop, msgs_len, h.len]; omega)).mono ?_
        rw [htk]
        rintro e w3 ⟨_, v3, F3, rfl, hx3, ⟨A3, n3, c3, rfl, hs3⟩, hown3, hF3⟩
        refine ⟨_, rfl, hx3, ?_⟩
        have hs1' := h1.size
        clear h1
        intro b hb
        refine draw_ev 28 (List.replicate 28 []) (List.range 28) (by kernel_rfl) (by kernel_rfl) (by kernel_rfl) rfl ?_
        have hA3 := hs3.some_
        have hx31 : ∀ w4, Ext no w w4 → SliceR kU8 w4 F A1 n1 d := fun w4 hx => hs1.ext0 hx
        refine ⟨d, fun _ => ⟨hs3.len, hs3.some_, fun w4 h4 => (hs3.ext0 (h4.extF ⟨hb, trivial⟩)).bytes⟩, ?_⟩
        refine ⟨fun _ => ⟨h.some_ (by omega), by omega, by omega⟩, ?_⟩
        refine ⟨.slice A1 n1 c1, fun _ w4 h4 => h4.ext0.cell hc1.head (fun h => h), ?_⟩
        refine ⟨d, fun _ => ⟨hs1.len, hs1.some_, fun w4 h4 => (hs1.ext0 h4.ext0).bytes⟩, ?_⟩
        refine ⟨fun hG => ⟨h2.some_ (Nat.lt_of_le_of_lt (Nat.zero_le _) (dlt hG.2)), by omega, Int.ofNat_lt.2 (dlt hG.2)⟩, ?_⟩
        refine ⟨.int .i64 ((ts[j]?).getD 0), fun hG w4 h4 => ?_, ?_⟩
        · have hj2 : j < n2 := dlt hG.2
          obtain ⟨t, ht⟩ : ∃ t, ts[j]? = some t := ⟨_, List.getElem?_eq_getElem (by rw [h2.len]; exact hj2)⟩
          obtain ⟨_, _, rfl, hc2⟩ := h2.get ht
          rw [ht]
          exact h4.ext0.cell hc2.head (fun h => h)
        refine if_no ?_ ?_
        · conv => lhs; whnf
          simp [ba_mk]
        intro w4 h4
        refine ⟨(j + 1, v3), ⟨next_i (by omega), rfl, rfl, rfl⟩, List.nil_prefix, ⟨hlt, h4.ext0, F3, ?_, fun k hk => Nat.le_trans hs1' (hF3 k hk)⟩, by simp; omega⟩
        exact (hown3.ext0 (h4.extF ⟨hb, trivial⟩)).mono (fun k hk _ => Nat.le_trans hs1' hk) (fun _ h _ => h) (fun _ _ h _ => h)
      · have hjn : j = i := by have := dge hge; omega
        subst hjn
        refine JoinP.mk fun w4 h4 => ⟨?_, h4.ext0⟩
        clear h4
        refine congrArg Ending.returned ?_
        conv => lhs; whnf
        show Value.bool (decide (((((msgs ts ds).drop j).length : Nat) : Int) = 0)) = _
        rw [List.length_drop, msgs_len, h.len, Nat.sub_self]
        rfl

theorem order_w (w : World) (F : Nat → Prop) (A : Option Addr) (n c : Nat) (ds : List (List UInt8)) (hl : n ≤ c) (h : SliceR kBytes w F A n ds) (F2 : Nat → Prop) (A2 : Option Addr) (n2 c2 : Nat) (ts : List Int) (hl2 : n2 ≤ c2) (h2 : SliceR (kInt .i64) w F2 A2 n2 ts) :
    Calls Try.prog 3 #[.slice A n c, .slice A2 n2 c2] w fun e w' => e = .returned (.bool true) ∧ Ext no w w' := order_c w F F2 A A2 n c n2 c2 ds ts h h2
end Go.Proofs.Ytdmengbemonkaaa
