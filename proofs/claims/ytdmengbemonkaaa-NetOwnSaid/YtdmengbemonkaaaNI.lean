import Derived.Test.YtdmengbemonkaaaNG
import Derived.Test.YtdmengbemonkaaaFlowG
set_option linter.all false
namespace Go.Proofs.Ytdmengbemonkaaa
open Go Go.Flow

theorem pred_c (w : World) (F : Nat → Prop) (cs : List Value) (x : Mail) (p : Addr) (to : Int) (h : kMail.rep w F cs x) (hp : w.cell? p = some (.int .i64 to)) :
    Calls Try.prog 20 #[.agg cs.toArray, .pointer (some p)] w fun e w' => e = .returned (.bool (x.to != to)) ∧ Ext no w w' := by
  obtain ⟨A, n, c, rfl, hs⟩ := h
  apply calls_of_vc T.C 20 Try.f20 _ [.agg [.int .i64 x.to, .slice A n c].toArray, .pointer (some p)] w no _ Try.func20 rfl rfl
  intro b hb
  refine ⟨.int .i64 to, fun w1 h1 => h1.ext0.cell hp (fun h => h), ?_⟩
  exact JoinP.mk fun w1 h1 => ⟨rfl, h1.ext0⟩

def fnTo (p : Addr) : Value := .func (.func 20) #[] #[.pointer (some p)]
def idxI (xs : List Mail) (to : Int) : Int := match xs.findIdx? (fun m => m.to != to) with | some i => i | none => -1

theorem findIdx?_none_iff' {α : Type} {p : α → Bool} {xs : List α} (h : ∀ (j : Nat) (x : α), xs[j]? = some x → p x = false) : xs.findIdx? p = none := by
  rw [List.findIdx?_eq_none_iff]
  intro x hx
  obtain ⟨j, hj⟩ := List.mem_iff_getElem?.1 hx
  exact h j x hj
theorem findIdx?_some' {α : Type} {p : α → Bool} {xs : List α} {i : Nat} {x : α} (hi : xs[i]? = some x) (hp : p x = true) (h : ∀ j y, j < i → xs[j]? = some y → p y = false) : xs.findIdx? p = some i := by
  obtain ⟨hil, rfl⟩ := List.getElem?_eq_some_iff.1 hi
  rw [List.findIdx?_eq_some_iff_getElem]
  exact ⟨hil, hp, fun j hj => by simpa using h j _ hj (List.getElem?_eq_getElem (by omega))⟩

theorem indexFunc_c (w : World) (F : Nat → Prop) (A : Option Addr) (n c : Nat) (xs : List Mail) (p : Addr) (to : Int) (h : SliceR kMail w F A n xs) (hp : w.cell? p = some (.int .i64 to)) :
    Calls Try.prog 22 #[.slice A n c, fnTo p] w fun e w' => e = .returned (.int .i64 (idxI xs to)) ∧ Ext no w w' := by
  apply calls_of_vc T.C 22 Try.f22 _ [.slice A n c, .func (.func 20) #[] #[.pointer (some p)]] w no _ Try.func22 rfl rfl
  refine loop_ev (γ := Nat) (fun y => [(8, .v (.int .i64 y)), (7, .v (.int .i64 n)), (0, .v (.slice A n c)), (1, .v (.func (.func 20) #[] #[.pointer (some p)]))]) (fun _ => [])
    (fun y u => y ≤ n ∧ Ext no w u ∧ ∀ j x, j < y → xs[j]? = some x → (x.to != to) = false) (fun y => n - y) (fun _ => rfl) ?_ ?_
  · intro w1 h1
    exact ⟨0, ⟨rfl, rfl, rfl, rfl⟩, List.nil_prefix, Nat.zero_le _, h1.ext0, fun j x h _ => absurd h (Nat.not_lt_zero _)⟩
  · rintro i g u ⟨hi, hu, hall⟩
    refine if_split (fun hlt => ?_) (fun hge => ?_)
    · have hlt : i < n := dlt hlt
      obtain ⟨m, hm⟩ : ∃ m, xs[i]? = some m := ⟨_, List.getElem?_eq_getElem (by rw [h.len]; exact hlt)⟩
      obtain ⟨_, _, ⟨A1, n1, c1, rfl, hs1⟩, hc1⟩ := h.get hm
      refine ⟨⟨h.some_ (by omega), by omega, by omega⟩, [.int .i64 m.to, .slice A1 n1 c1], ⟨rfl, fun w1 h1 => hc1.ext h1.ext0 (fun h => h)⟩, ?_⟩
      refine call_ev fun w1 h1 => (pred_c w1 F _ m p to ⟨A1, n1, c1, rfl, hs1.ext0 h1.ext0⟩ (h1.ext0.cell hp (fun h => h))).mono ?_
      rintro e w2 ⟨rfl, hx2⟩
      refine ⟨_, rfl, hx2, ?_⟩
      clear h1
      refine if_split (fun hy => ?_) (fun hn => ?_)
      · refine JoinP.mk fun w3 h3 => ⟨?_, h3.ext0⟩
        have : idxI xs to = i := by unfold idxI; rw [findIdx?_some' (p := fun m => m.to != to) hm hy (fun j y hj hyj => hall j y hj hyj)]
        rw [this]; rfl
      · intro w3 h3
        refine ⟨i + 1, ⟨next_i (by have := h.le; omega), rfl, rfl, rfl⟩, List.nil_prefix, ⟨hlt, h3.ext0, fun j x hj hx => ?_⟩, by omega⟩
        rcases Nat.lt_succ_iff_lt_or_eq.1 hj with hj | rfl
        · exact hall j x hj hx
        · rw [hm] at hx; injection hx with hx; subst hx; exact hn
    · have hin : i = n := by have := dge hge; omega
      subst hin
      refine JoinP.mk fun w3 h3 => ⟨?_, h3.ext0⟩
      have : idxI xs to = -1 := by
        unfold idxI; rw [findIdx?_none_iff' (p := fun m => m.to != to) (fun j x hx => hall j x (by have := (List.getElem?_eq_some_iff.1 hx).1; have := h.len; omega) hx)]
      rw [this]; rfl

def keepL (xs : List Mail) (to : Int) : List Mail := xs.filter fun m => m.to == to
theorem keep_idx {xs : List Mail} {to : Int} {i : Nat} (h : xs.findIdx? (fun m => m.to != to) = some i) : i < xs.length ∧ keepL (xs.take (i + 1)) to = xs.take i := by
  rw [List.findIdx?_eq_some_iff_getElem] at h
  obtain ⟨hi, h1, h2⟩ := h
  refine ⟨hi, ?_⟩
  unfold keepL
  rw [List.take_succ_eq_append_getElem hi, List.filter_append]
  have e1 : (xs.take i).filter (fun m => m.to == to) = xs.take i := by
    rw [List.filter_eq_self]
    intro m hm
    obtain ⟨j, hj, rfl⟩ := List.getElem_of_mem hm
    rw [List.length_take] at hj
    rw [List.getElem_take]
    have := h2 j (by omega)
    simpa using this
  have e2 : [xs[i]].filter (fun m => m.to == to) = [] := by
    have : (xs[i].to == to) = false := by simpa using h1
    simp [this]
  rw [e1, e2, List.append_nil]
theorem keep_none {xs : List Mail} {to : Int} (h : xs.findIdx? (fun m => m.to != to) = none) : keepL xs to = xs := by
  rw [List.findIdx?_eq_none_iff] at h
  unfold keepL
  rw [List.filter_eq_self]
  intro m hm
  have := h m hm
  simpa using this

theorem deleteFunc_c' (w : World) (B F : Nat → Prop) (v : Value) (xs : List Mail) (p : Addr) (to : Int) (hBF : ∀ k, (B k ∨ F k) → k < w.heap.size) (ho : Own kMail 29 w B F v xs) (hp : w.cell? p = some (.int .i64 to)) (hpB : ¬ B p.block) :
    Calls Try.prog 19 #[v, fnTo p] w fun e w' => ∃ v', e = .returned v' ∧ Ext B w w' ∧ Own kMail 29 w' B F v' (keepL xs to) := by
  obtain ⟨A, c, rfl, hc, hs⟩ := ho.slice
  apply calls_of_vc T.C 19 Try.f19 _ [.slice A xs.length c, .func (.func 20) #[] #[.pointer (some p)]] w B _ Try.func19 rfl rfl
  refine call_ev fun w1 h1 => (indexFunc_c w1 _ A xs.length c xs p to (hs.ext0 (h1.extNo trivial)) (h1.ext0.cell hp hpB)).mono ?_
  rintro e w2 ⟨rfl, hx2⟩
  refine ⟨_, rfl, hx2, ?_⟩
  have hx1 := h1.extNo trivial
  have hB1 := h1.ext0
  clear h1
  have ho2 : Own kMail 29 w2 B F (.slice A xs.length c) xs := (ho.ext0 hx1).ext0 hx2
  cases hf : xs.findIdx? (fun m => m.to != to) with
  | none =>
    have hid : idxI xs to = -1 := by unfold idxI; rw [hf]
    rw [hid]
    refine if_yes rfl ?_
    refine JoinP.mk fun w3 h3 => ⟨_, rfl, h3.ext0, ?_⟩
    rw [keep_none hf]
    exact ho2.ext0 (h3.extNo trivial)
  | some i0 =>
    have hid : idxI xs to = i0 := by unfold idxI; rw [hf]
    obtain ⟨hi0, hk0⟩ := keep_idx hf
    rw [hid]
    obtain ⟨g, rfl⟩ : ∃ g, A = some ⟨g, 0, none⟩ := by
      obtain ⟨cells, ⟨_, q1⟩, _⟩ := ho
      rcases q1 with ⟨h1, h2⟩ | ⟨g', cap, cur, h1, _⟩
      · omega
      · injection h1 with h1; exact ⟨g', h1⟩
    have hle := ho.le
    have hgB : B g ∧ ¬ F g := by obtain ⟨_, h⟩ := ho.blk g (by simp [Value.ownBlock]); exact h
    refine if_no (by show ((i0 : Int) == -1) = false; simp) ?_
    refine loop_ev (γ := Nat × Nat × List Mail) (fun y => [(5, .v (.int .i64 y.1)), (6, .v (.int .i64 y.2.1)), (0, .v (.slice (some ⟨g, 0, none⟩) xs.length c)), (1, .v (.func (.func 20) #[] #[.pointer (some p)]))]) (fun _ => [])
      (fun y u => y.1 < y.2.1 ∧ y.2.1 ≤ xs.length ∧ Ext B w u ∧ Own kMail 29 u B F (.slice (some ⟨g, 0, none⟩) xs.length c) y.2.2 ∧ y.2.2.take y.1 = keepL (xs.take y.2.1) to ∧ y.2.2.drop y.2.1 = xs.drop y.2.1) (fun y => xs.length - y.2.1) (fun _ => rfl) ?_ ?_
    · intro w3 h3
      exact ⟨(i0, i0 + 1, xs), ⟨rfl, next_i (by omega), rfl, rfl⟩, List.nil_prefix, Nat.lt_succ_self _, hi0, h3.ext0, ho2.ext0 (h3.extNo trivial), hk0.symm, rfl⟩
    · rintro ⟨i, j, ys⟩ gg u ⟨(hij : i < j), (hj : j ≤ xs.length), hu, (hown : Own kMail 29 u B F _ ys), (htk : ys.take i = keepL (xs.take j) to), (hdr : ys.drop j = xs.drop j)⟩
      have hyl : ys.length = xs.length := by obtain ⟨h, _⟩ := hown.rep; exact h
      refine if_split (fun hlt => ?_) (fun hge => ?_)
      · have hlt : j < xs.length := dlt hlt
        obtain ⟨m, hm⟩ : ∃ m, xs[j]? = some m := ⟨_, List.getElem?_eq_getElem hlt⟩
        have hym : ys[j]? = some m := by
          have : (ys.drop j)[0]? = (xs.drop j)[0]? := by rw [hdr]
          rw [List.getElem?_drop, List.getElem?_drop] at this
          simpa [hm] using this
        obtain ⟨_, ⟨A1, n1, c1, rfl, hs1⟩, hc1⟩ := hown.elem hym
        refine ⟨⟨rfl, Int.natCast_nonneg _, Int.ofNat_lt.2 hlt⟩, [.int .i64 m.to, .slice A1 n1 c1], ⟨rfl, fun w3 h3 => ?_⟩, ?_⟩
        · have := hc1.ext (h3.extNo trivial) (fun h => h)
          show CellsAt w3 ((⟨g, 0, none⟩ : Addr).add (j * 2)) _
          rw [bid_add, Nat.zero_add]; exact this
        intro b hb
        refine call_ev fun w3 h3 => (pred_c w3 F _ m p to ⟨A1, n1, c1, rfl, hs1.ext0 (h3.extF ⟨hb, trivial⟩)⟩ (h3.ext0.cell hp hpB)).mono ?_
        rintro e w4 ⟨rfl, hx4⟩
        refine ⟨_, rfl, hx4, ?_⟩
        have hx3 := h3.extF ⟨hb, trivial⟩
        have hb3 : b < w3.heap.size := h3.lt 0 rfl
        clear h3
        have hown4 : Own kMail 29 w4 B F (.slice (some ⟨g, 0, none⟩) xs.length c) ys := (hown.ext0 hx3).ext0 hx4
        have hs4 : SliceR kU8 w4 F A1 n1 m.data := (hs1.ext0 hx3).ext0 hx4
        have hbn : ¬ (B b ∨ F b) := fun h => absurd (hBF b h) (by have := hu.size; omega)
        have hlk : (xs.take (j + 1)) = xs.take j ++ [m] := take_snoc hm
        have hdrj : (ys.drop (j + 1)) = xs.drop (j + 1) := by rw [← List.drop_drop, ← List.drop_drop, hdr]
        have hil : i < ys.length := by omega
        refine if_split (fun hy => ?_) (fun hy => ?_)
        · have hkeep : (m.to == to) = true := by
            have : (!(m.to != to)) = true := hy
            simpa using this
          refine ⟨⟨rfl, Int.natCast_nonneg _, Int.ofNat_lt.2 (by omega)⟩, ?_⟩
          refine set_ev kMail [0] (e := 29) (g := g) (j := i) (n := xs.length) (c := c) (cs := [.int .i64 m.to, .slice A1 n1 c1]) rfl rfl (by decide) rfl rfl rfl rfl ?_
          intro w5 h5
          have hx5 : Ext (fun k => k = b) w4 w5 := h5.extS ⟨rfl, trivial⟩
          clear h5
          refine ⟨B, F, ys, m, hown4.ext hx5 (fun k hk _ e => hbn (e ▸ hk)), by omega, ⟨A1, n1, c1, rfl, hs4.ext hx5 (fun k hk _ e => hbn (.inr (e ▸ hk)))⟩, fun k _ hk => .inl (hk ▸ hgB.1), trivial, fun w6 hx6 hown6 => ?_⟩
          intro w7 h7
          refine ⟨(i + 1, j + 1, ys.set i m), ⟨next_i (i := i) (by omega), next_i (i := j) (by omega), rfl, rfl⟩, List.nil_prefix, ⟨Nat.succ_lt_succ hij, hlt, h7.ext0, hown6.ext0 (h7.extNo trivial), ?_, ?_⟩, by simp; omega⟩
          · show (ys.set i m).take (i + 1) = keepL (xs.take (j + 1)) to
            rw [hlk]
            unfold keepL
            rw [List.filter_append]
            have e1 : [m].filter (fun m => m.to == to) = [m] := by simp [hkeep]
            have e2 : (xs.take j).filter (fun m => m.to == to) = ys.take i := htk.symm
            rw [e1, e2, List.take_succ_eq_append_getElem (by rw [List.length_set]; exact hil), List.getElem_set_self, List.take_set, List.set_eq_of_length_le (by rw [List.length_take]; omega)]
          · show (ys.set i m).drop (j + 1) = xs.drop (j + 1)
            rw [List.drop_set_of_lt (by omega)]
            exact hdrj
        · have hkeep : (m.to == to) = false := by
            have : (!(m.to != to)) = false := hy
            simpa using this
          intro w7 h7
          have hx7 : Ext (fun k => k = b) w4 w7 := h7.extS ⟨rfl, trivial⟩
          refine ⟨(i, j + 1, ys), ⟨rfl, next_i (i := j) (by omega), rfl, rfl⟩, List.nil_prefix, ⟨Nat.lt_succ_of_lt hij, hlt, h7.ext0, hown4.ext hx7 (fun k hk _ e => hbn (e ▸ hk)), ?_, hdrj⟩, by simp; omega⟩
          show ys.take i = keepL (xs.take (j + 1)) to
          rw [hlk]
          unfold keepL
          rw [List.filter_append]
          have e1 : [m].filter (fun m => m.to == to) = [] := by simp [hkeep]
          rw [e1, List.append_nil]
          exact htk
      · have hjn : j = xs.length := by have : xs.length ≤ j := dge hge; omega
        rw [hjn, List.take_length] at htk
        have b1 : (i : Int) ≤ (xs.length : Int) := by omega
        have b2 : (xs.length : Int) ≤ (c : Int) := by omega
        have b3 : (i : Int) ≤ (c : Int) := by omega
        have hsub : subA (some (⟨g, 0, none⟩ : Addr)) 0 c 2 = some ⟨g, 0, none⟩ := by
          unfold subA; split
          · rfl
          · simp [bid_add]
        refine ⟨⟨Int.natCast_nonneg _, b1, b2, Int.le_refl _⟩, ?_⟩
        refine clear_ev kMail [] (T := 25) (e := 29) (g := g) (i := i) (n := xs.length) (c := c) rfl rfl rfl rfl (by decide) rfl rfl rfl ?_
        intro w5 h5
        refine ⟨B, F, ys, hown.ext0 (h5.extNo trivial), by omega, fun k _ hk => .inl (hk ▸ hgB.1), trivial, fun w6 hx6 hown6 => ?_⟩
        clear h5
        refine ⟨⟨Int.le_refl 0, Int.natCast_nonneg _, b3, Int.le_refl _⟩, ?_⟩
        refine JoinP.mk fun w7 h7 => ⟨.slice (some ⟨g, 0, none⟩) i c, ?_, h7.ext0, ?_⟩
        · show Ending.returned (.slice (subA (some (⟨g, 0, none⟩ : Addr)) 0 c 2) (i - 0) (c - 0)) = _
          rw [hsub]; rfl
        · rw [← htk]; exact hown6.ext0 (h7.extNo trivial)

theorem deleteFunc_c (w : World) (B F : Nat → Prop) (v : Value) (xs : List Mail) (p : Addr) (to : Int) (ho : Own kMail 29 w B F v xs) (hp : w.cell? p = some (.int .i64 to)) (hpB : ¬ B p.block) :
    Calls Try.prog 19 #[v, fnTo p] w fun e w' => ∃ v', e = .returned v' ∧ Ext B w w' ∧ Own kMail 29 w' B (fun k => F k ∧ k < w.heap.size) v' (keepL xs to) := by
  refine (deleteFunc_c' w _ _ v xs p to (fun k hk => hk.elim (fun h => h.2) (fun h => h.2)) ho.here hp (fun h => hpB h.1)).mono ?_
  rintro e w' ⟨v', rfl, hx, hown⟩
  exact ⟨v', rfl, hx.mono (fun _ _ h => h.1), hown.mono (fun _ h _ => h.1) (fun _ h _ => h) (fun _ _ h _ => h)⟩

theorem for_c (w : World) (F : Nat → Prop) (A : Option Addr) (n c : Nat) (xs : List Mail) (to : Int) (h : SliceR kMail w F A n xs) (hb : n ≤ 1099511627776) :
    Calls Try.prog 11 #[.slice A n c, .int .i64 to] w fun e w' => ∃ v F', e = .returned v ∧ Ext no w w' ∧ Own kMail 29 w' (new w.heap.size) F' v (keepL xs to) ∧ ∀ b, F' b → w.heap.size ≤ b := by
  apply calls_of_vc T.C 11 Try.f11 _ [.slice A n c, .int .i64 to] w no _ Try.func11 rfl rfl
  intro b hb0
  refine call_ev fun w1 h1 => (all_c w1 F A n c xs (h.ext0 h1.ext0) hb).mono ?_
  rintro e w2 ⟨v, F', rfl, hx2, hown, hF'⟩
  refine ⟨v, rfl, hx2, ?_⟩
  have hb1 : b < w1.heap.size := h1.lt 0 rfl
  have hs1 : w.heap.size ≤ w1.heap.size := h1.size
  clear h1
  refine call_evS [] fun w3 h3 => ?_
  have hcell : w3.cell? ⟨b, 0, none⟩ = some (.int .i64 to) := by
    have := h3.bx 0 rfl
    simp [World.cell?, this]; rfl
  have hx3 : Ext (fun k => k = b) w2 w3 := h3.extS ⟨rfl, trivial⟩
  clear h3
  have ho3 : Own kMail 29 w3 (fun k => new w1.heap.size k ∧ k < w2.heap.size) (fun k => F' k ∧ k < w2.heap.size) v xs := hown.here.ext hx3 (fun k hk _ e => by
    subst e
    rcases hk with hk | hk
    · exact absurd (show w1.heap.size ≤ k from hk.1) (by omega)
    · exact absurd (hF' _ hk.1) (by omega))
  refine ⟨fun k => new w1.heap.size k ∧ k < w2.heap.size, fun k _ hk => .inr (Nat.le_trans hs1 hk.1), ⟨fun hk => absurd (show w1.heap.size ≤ b from hk.1) (by omega), trivial⟩, ?_⟩
  refine (deleteFunc_c w3 _ _ v xs ⟨b, 0, none⟩ to ho3 hcell (fun hk => absurd (show w1.heap.size ≤ b from hk.1) (by omega))).mono ?_
  rintro e w4 ⟨v', rfl, hx4, hown4⟩
  refine ⟨v', rfl, hx4, ?_⟩
  refine JoinP.mk fun w5 h5 => ⟨v', _, rfl, h5.ext0, (hown4.ext (h5.extS (S := fun k => k = b) ⟨rfl, trivial⟩) (fun k hk _ e => ?_)).mono (fun k hk _ => Nat.le_trans hs1 hk.1) (fun _ h _ => h) (fun _ _ h _ => h), fun k hk => Nat.le_trans hs1 (hF' k hk.1.1)⟩
  subst e
  rcases hk with hk | hk
  · exact absurd (show w1.heap.size ≤ k from hk.1) (by omega)
  · exact absurd (hF' _ hk.1.1) (by omega)
end Go.Proofs.Ytdmengbemonkaaa
