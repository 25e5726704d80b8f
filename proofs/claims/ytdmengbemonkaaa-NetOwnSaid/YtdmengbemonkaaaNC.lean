import Derived.Test.YtdmengbemonkaaaNB
set_option linter.all false
namespace Go.Proofs.Ytdmengbemonkaaa
open Go Go.Flow

theorem Ext.setRow {w : World} {g : Nat} {cur : Array Value} {t : TypeId} {fz : Nat × Nat} (c2 : Array Value) (h : w.heap[g]? = some (.cells cur t fz)) : Ext (fun k => k = g) w (w.setRow g c2) :=
  ⟨rfl, rfl, rfl, by simp [World.setRow], fun k hk hn => by simp [World.setRow, Array.getElem?_modify]; intro h; exact absurd h.symm hn⟩

theorem run_clear {P : Program} {t e : TypeId} {i : TypeInfo} {z : Value} (ht : P.underlying t = some (.slice e)) (hi : P.info? e = some i) (hz : i.zero = some z) (w : World) (g off n c : Nat) (cur : Array Value)
    (hg : w.heap[g]? = some (.cells cur e (0, 0))) (hfit : off + n * z.cells.size ≤ cur.size) (h1 : ∀ u ∈ (Builtin.zeroCells z.cells n).toList, u.oneCell' = true) (ty : TypeId) :
    (Builtin.clear_ #[t] ty #[.slice (some ⟨g, off, none⟩) n c]).run P w = .ok (.tuple #[]) (w.setRow g (cur.toList.take off ++ (Builtin.zeroCells z.cells n).toList ++ cur.toList.drop (off + n * z.cells.size)).toArray) := by
  have hl : (Builtin.zeroCells z.cells n).toList.length = n * z.cells.size := by rw [Array.length_toList, size_zeroCells]
  have hst := run_storeCells_at P g off e (Builtin.zeroCells z.cells n).toList 0 cur w hg (by rw [hl]; simpa using hfit) h1
  simp only [Nat.add_zero, hl] at hst
  cases n with
  | zero =>
    have : (Builtin.zeroCells z.cells 0).toList = [] := by simp [Builtin.zeroCells]
    rw [this] at hst ⊢
    simp only [List.append_nil, Nat.zero_mul, Nat.add_zero, List.take_append_drop] at hst ⊢
    have e2 : w.setRow g cur.toList.toArray = w := by rw [Array.toArray_toList]; exact setRow_self w g cur e (0, 0) hg
    rw [e2]
    simp [Builtin.clear_, run_underlying ht]
  | succ n =>
    simp [Builtin.clear_, run_underlying ht, zeroValue, typeInfo, hi, hz, hst]

/-- the two writes of Delete, in a block by itself -/
theorem del_append (w1 : World) (g i m cap : Nat) (cur : Array Value) (hh1 : w1.heap[g]? = some (.cells cur 29 (0, 0))) (him : i ≤ m) (hmc : m + 1 ≤ cap) (hcs : cur.size = cap * 2)
    (hone : ∀ u ∈ cur.toList.take ((m + 1) * 2), u.oneCell' = true) (ty : TypeId) :
    (Builtin.append_ #[25, 25] ty #[.slice (subA (some ⟨g, 0, none⟩) 0 cap 2) (i - 0) (cap - 0), .slice (subA (some ⟨g, 0, none⟩) (i + 1) cap 2) (m + 1 - (i + 1)) (cap - (i + 1))]).run T.C.P w1 =
      .ok (.slice (some ⟨g, 0, none⟩) m cap) (w1.setRow g (cur.toList.take (i * 2) ++ (cur.toList.drop ((i + 1) * 2)).take ((m - i) * 2) ++ cur.toList.drop (m * 2)).toArray) := by
  obtain ⟨inf, i1, i2, i3, i4⟩ := (T.C.tyOk 29 T.i29 rfl).info
  have hU : T.C.P.underlying 25 = some (.slice 29) := Try.underlying25
  have i2 : inf.size = 2 := i2
  have hmi : m + 1 - (i + 1) = m - i := by omega
  rw [hmi]
  let news := (cur.toList.drop ((i + 1) * 2)).take ((m - i) * 2)
  have hnl : news.length = (m - i) * 2 := by
    simp only [news, List.length_take, List.length_drop, Array.length_toList, hcs]
    omega
  have hnews : ∀ j u, news[j]? = some u → cur[(i + 1) * 2 + j]? = some u ∧ j < (m - i) * 2 := by
    intro j u hj
    have hjl := (List.getElem?_eq_some_iff.1 hj).1
    rw [hnl] at hjl
    simp only [news] at hj
    rw [List.getElem?_take_of_lt (by omega), List.getElem?_drop] at hj
    exact ⟨by simpa using hj, hjl⟩
  have hone2 : ∀ u ∈ news, u.oneCell' = true := by
    intro u hu
    obtain ⟨j, hj, rfl⟩ := List.getElem_of_mem hu
    obtain ⟨h1, h2⟩ := hnews j _ (List.getElem?_eq_getElem hj)
    refine hone _ (List.mem_iff_getElem?.2 ⟨(i + 1) * 2 + j, ?_⟩)
    rw [List.getElem?_take_of_lt (by omega)]
    simpa using h1
  have e0 : subA (some ⟨g, 0, none⟩) 0 cap 2 = some ⟨g, 0, none⟩ := by
    unfold subA; split
    · rfl
    · simp [bid_add]
  rw [e0]
  have key : ∀ a, (news = [] ∨ a = ⟨g, (i + 1) * 2, none⟩) → (Builtin.append_ #[25, 25] ty #[.slice (some ⟨g, 0, none⟩) i cap, .slice (some a) (m - i) (cap - (i + 1))]).run T.C.P w1 =
      .ok (.slice (some ⟨g, 0, none⟩) m cap) (w1.setRow g (cur.toList.take (i * 2) ++ news ++ cur.toList.drop (m * 2)).toArray) := by
    intro a ha
    have := run_append_room (P := T.C.P) w1 25 ty 29 inf hU i1 g i cap cur hh1 a (m - i) (cap - (i + 1)) news (by rw [hnl, i2]) (by
      intro j u hj
      rcases ha with ha | rfl
      · rw [ha] at hj; simp at hj
      · rw [bid_add]; simp only [World.cell?, hh1]
        simpa using (hnews j u hj).1) hone2 (by omega) (by rw [i2, hnl, hcs]; omega)
    rw [i2, hnl, show i + (m - i) = m by omega, show i * 2 + (m - i) * 2 = m * 2 by omega] at this
    exact this
  unfold subA
  split
  · exact key _ (.inl (List.eq_nil_of_length_eq_zero (by rw [hnl]; omega)))
  · rw [Option.map_some, bid_add, Nat.zero_add]
    exact key _ (.inr rfl)

theorem zero29 (z : Value) (inf : TypeInfo) (hi : T.C.P.info? 29 = some inf) (hz : inf.zero = some z) : z.cells = #[.int .i64 0, .slice none 0 0] := by
  obtain ⟨inf', i1, i2, i3, i4⟩ := (T.C.tyOk 29 T.i29 rfl).info
  rw [hi] at i1
  injection i1 with i1
  subst i1
  rw [hz] at i4
  simpa [T.i29] using i4

theorem del_clear (w2 : World) (g m cap : Nat) (c1 : List Value) (hh2 : w2.heap[g]? = some (.cells c1.toArray 29 (0, 0))) (hmc : m + 1 ≤ cap) (hcs : c1.length = cap * 2) (ty : TypeId) :
    (Builtin.clear_ #[25] ty #[.slice (subA (some ⟨g, 0, none⟩) m cap 2) (m + 1 - m) (cap - m)]).run T.C.P w2 =
      .ok (.tuple #[]) (w2.setRow g (c1.take (m * 2) ++ [Value.int .i64 0, Value.slice none 0 0] ++ c1.drop (m * 2 + 2)).toArray) := by
  obtain ⟨inf, i1, i2, i3, i4⟩ := (T.C.tyOk 29 T.i29 rfl).info
  obtain ⟨z, hz, hzc⟩ := Option.map_eq_some_iff.1 i4
  have hz2 := zero29 z inf i1 hz
  have hU : T.C.P.underlying 25 = some (.slice 29) := Try.underlying25
  have e0 : subA (some ⟨g, 0, none⟩) m cap 2 = some ⟨g, m * 2, none⟩ := by
    unfold subA; rw [if_neg (by omega), Option.map_some, bid_add, Nat.zero_add]
  have hzz : (Builtin.zeroCells z.cells 1).toList = [Value.int .i64 0, Value.slice none 0 0] := by
    rw [hz2]; simp [Builtin.zeroCells, List.range_succ]
  rw [e0, show m + 1 - m = 1 by omega]
  have := run_clear (P := T.C.P) hU i1 hz w2 g (m * 2) 1 (cap - m) c1.toArray hh2 (by rw [hz2]; simp only [List.size_toArray, hcs]; show m * 2 + 1 * 2 ≤ _; omega) (by rw [hzz]; intro u hu; simp at hu; rcases hu with rfl | rfl <;> rfl) ty
  rw [hzz, hz2] at this
  exact this

theorem Segs.one' {α : Type} {d : Kind α} {w : World} {F : Nat → Prop} {xs : List α} {cells : List Value} (h : Segs d w F xs cells) (hl : cells.length = xs.length * d.sz) (h0 : 0 < d.sz) : ∀ u ∈ cells, u.oneCell' = true := by
  intro u hu
  obtain ⟨j, hj, rfl⟩ := List.getElem_of_mem hu
  have hj2 : j / d.sz < xs.length := Nat.div_lt_of_lt_mul (by rw [Nat.mul_comm]; omega)
  have hr := h (j / d.sz) _ (List.getElem?_eq_getElem hj2)
  refine all1_spec _ (d.one hr) _ ?_
  rw [List.mem_iff_getElem?]
  have := Nat.mod_lt j h0
  have e : j / d.sz * d.sz + j % d.sz = j := Nat.div_add_mod' j d.sz
  refine ⟨j % d.sz, ?_⟩
  rw [List.getElem?_take_of_lt this, List.getElem?_drop, e, List.getElem?_eq_getElem hj]

theorem Segs.erase {α : Type} {d : Kind α} {w : World} {F : Nat → Prop} {xs : List α} {cells : List Value} (h : Segs d w F xs cells) (hl : cells.length = xs.length * d.sz) (i : Nat) (hi : i < xs.length) :
    Segs d w F (xs.eraseIdx i) (cells.take (i * d.sz) ++ cells.drop ((i + 1) * d.sz)) := by
  have hil : (i + 1) * d.sz ≤ cells.length := by rw [hl]; exact Nat.mul_le_mul_right _ hi
  have hil2 : i * d.sz ≤ cells.length := Nat.le_trans (Nat.mul_le_mul_right _ (Nat.le_succ i)) hil
  intro j x hj
  rw [List.getElem?_eraseIdx] at hj
  split at hj
  · rename_i hji
    have h1 : j * d.sz + d.sz ≤ i * d.sz := by rw [← Nat.succ_mul]; exact Nat.mul_le_mul_right _ hji
    rw [List.drop_append_of_le_length (by rw [List.length_take]; omega), List.take_append_of_le_length (by rw [List.length_drop, List.length_take]; omega), List.drop_take, List.take_take]
    rw [show min d.sz (i * d.sz - j * d.sz) = d.sz by omega]
    exact h j x hj
  · rename_i hji
    have h1 : i * d.sz ≤ j * d.sz := Nat.mul_le_mul_right _ (by omega)
    rw [List.drop_append, List.drop_eq_nil_of_le (by rw [List.length_take]; omega), List.nil_append, List.drop_drop, List.length_take, Nat.min_eq_left hil2]
    have e : (i + 1) * d.sz + (j * d.sz - i * d.sz) = (j + 1) * d.sz := by rw [Nat.succ_mul, Nat.succ_mul]; omega
    rw [e]
    exact h _ _ hj

set_option maxHeartbeats 1000000 in
theorem delete_c (w : World) (B F : Nat → Prop) (v : Value) (xs : List Mail) (i : Nat) (ho : Own kMail 29 w B F v xs) (hi : i < xs.length) :
    Calls Try.prog 18 #[v, .int .i64 i, .int .i64 (i + 1 : Nat)] w fun e w' => ∃ v', e = .returned v' ∧ Ext B w w' ∧ Own kMail 29 w' B F v' (xs.eraseIdx i) := by
  obtain ⟨cells, q1, q2, q3, q4⟩ := ho
  obtain ⟨hcl, ⟨rfl, h0⟩ | ⟨g, cap, cur, rfl, _, hh, hnc, hcm, hcs, htake⟩⟩ := q1
  · omega
  have hgB := q4 g (by simp [Value.ownBlock])
  have h1c := Segs.one' q2 hcl (by decide)
  have hse := Segs.erase q2 hcl i hi
  obtain ⟨m, hm⟩ : ∃ m, xs.length = m + 1 := ⟨xs.length - 1, by omega⟩
  have hle : (xs.eraseIdx i).length = m := by rw [List.length_eraseIdx, if_pos hi]; omega
  rw [hm] at hi hcl hnc htake q3 ⊢
  have hcm' : cap ≤ 9223372036854775807 := by simpa [maxLen] using hcm
  have hcs : cur.size = cap * 2 := hcs
  have htake : cur.toList.take ((m + 1) * 2) = cells := htake
  have hcl : cells.length = (m + 1) * 2 := hcl
  rw [← htake] at h1c
  have hd1 : ∀ w1 : World, w1.heap[g]? = some (.cells cur 29 (0, 0)) → _ := fun w1 h => del_append w1 g i m cap cur h (by omega) hnc hcs h1c 25
  obtain ⟨c1, hc1⟩ : ∃ c1, c1 = cur.toList.take (i * 2) ++ (cur.toList.drop ((i + 1) * 2)).take ((m - i) * 2) ++ cur.toList.drop (m * 2) := ⟨_, rfl⟩
  rw [← hc1] at hd1
  have hl1 : c1.length = cap * 2 := by
    rw [hc1]; simp only [List.length_append, List.length_take, List.length_drop, Array.length_toList, hcs]; omega
  have hd2 : ∀ w1 : World, w1.heap[g]? = some (.cells c1.toArray 29 (0, 0)) → _ := fun w1 h => del_clear w1 g m cap c1 h hnc hl1 0
  obtain ⟨c2, hc2⟩ : ∃ c2, c2 = c1.take (m * 2) ++ [Value.int .i64 0, Value.slice none 0 0] ++ c1.drop (m * 2 + 2) := ⟨_, rfl⟩
  rw [← hc2] at hd2
  have b1 : (0 : Int) ≤ (i : Int) := by omega
  have b2 : (i : Int) ≤ ((i + 1 : Nat) : Int) := by omega
  have b3 : ((i + 1 : Nat) : Int) ≤ ((m + 1 : Nat) : Int) := by omega
  have b4 : ((m + 1 : Nat) : Int) ≤ (cap : Int) := by omega
  have b5 : (0 : Int) ≤ ((i + 1 : Nat) : Int) := by omega
  have b6 : ((i : Nat) : Int) ≤ (cap : Int) := by omega
  have b7 : (0 : Int) ≤ ((m : Nat) : Int) := by omega
  have b8 : ((m : Nat) : Int) ≤ ((m + 1 : Nat) : Int) := by omega
  have b9 : decide ((i : Int) = ((i + 1 : Nat) : Int)) = false := by simp; omega
  have hl2 : c2.length = cap * 2 := by
    rw [hc2]; simp only [List.length_append, List.length_take, List.length_drop, List.length_cons, List.length_nil, hl1]; omega
  have htl : (cur.toList.take ((m + 1) * 2)).take (i * 2) ++ (cur.toList.take ((m + 1) * 2)).drop ((i + 1) * 2) = c2.take (m * 2) := by
    have r1 : c2.take (m * 2) = c1.take (m * 2) := by
      rw [hc2, List.append_assoc, List.take_append_of_le_length (by rw [List.length_take]; omega), List.take_take, Nat.min_self]
    have r2 : c1.take (m * 2) = cur.toList.take (i * 2) ++ (cur.toList.drop ((i + 1) * 2)).take ((m - i) * 2) := by
      rw [hc1, List.take_append_of_le_length (by simp only [List.length_append, List.length_take, List.length_drop, Array.length_toList, hcs]; omega)]
      rw [List.take_of_length_le (by simp only [List.length_append, List.length_take, List.length_drop, Array.length_toList, hcs]; omega)]
    rw [r1, r2, List.take_take, Nat.min_eq_left (by omega), List.drop_take, show (m + 1) * 2 - (i + 1) * 2 = (m - i) * 2 by omega]
  have hfin : ∀ w3 : World, w3.heap[g]? = some (.cells c2.toArray 29 (0, 0)) → Segs kMail w3 F xs cells → Own kMail 29 w3 B F (.slice (some ⟨g, 0, none⟩) m cap) (xs.eraseIdx i) := by
    intro w3 h3 hs3
    have hcl' : cells.length = xs.length * 2 := by rw [hcl, hm]
    refine ⟨_, ⟨?_, .inr ⟨g, cap, c2.toArray, by rw [hle], Nat.zero_le _, h3, by rw [hle]; omega, hcm, by rw [List.size_toArray]; exact hl2, ?_⟩⟩, Segs.erase hs3 hcl' i (by omega), by rw [hle]; omega, fun k hk => ?_⟩
    · have := hcl'
      rw [List.length_append, List.length_take, List.length_drop, hle]
      show min (i * 2) cells.length + (cells.length - (i + 1) * 2) = m * 2
      omega
    · rw [hle]
      show c2.take (m * 2) = cells.take (i * 2) ++ cells.drop ((i + 1) * 2)
      rw [← htl, htake]
    · have : g = k := by simpa [Value.ownBlock] using hk
      subst this; exact hgB
  apply calls_of_vc T.C 18 Try.f18 _ [.slice (some ⟨g, 0, none⟩) (m + 1) cap, .int .i64 i, .int .i64 (i + 1 : Nat)] w B _ Try.func18 rfl rfl
  refine ⟨⟨b1, b2, b3, b4⟩, ?_⟩
  refine if_no b9 ?_
  refine draw_ev 6 [[], [], [0, 1], [], [], [3, 4], [0, 1, 2, 3, 4, 5], [0, 1, 2, 3, 4, 5, 6]] [0, 1, 2, 3, 4, 5, 6, 7] (by kernel_rfl) (by kernel_rfl) (by kernel_rfl) ?_
  refine ⟨⟨Int.le_refl 0, b1, b6, Int.le_refl _⟩, ⟨b5, b3, b4, Int.le_refl _⟩, ?_⟩
  refine gen_ev [] fun w1 h1 => ?_
  have hh1 : w1.heap[g]? = some (.cells cur 29 (0, 0)) := by rw [(h1.extNo trivial).keep g (Array.getElem?_eq_some_iff.1 hh).1 (fun h => h)]; exact hh
  have hx1 := h1.extNo trivial
  clear h1
  refine ⟨fun k => k = g, .slice (some ⟨g, 0, none⟩) m cap, w1.setRow g c1.toArray, fun k _ hk => .inl (hk ▸ hgB.1), trivial, append_run rfl rfl rfl (hd1 w1 hh1), Ext.setRow c1.toArray hh1, ?_⟩
  refine ⟨⟨b7, b8, b4, Int.le_refl _⟩, ?_⟩
  have hg2 : (w1.setRow g c1.toArray).heap[g]? = some (.cells c1.toArray 29 (0, 0)) := setRow_heap w1 g cur _ 29 _ hh1
  refine gen_ev [] fun w2 h2 => ?_
  have hh2 : w2.heap[g]? = some (.cells c1.toArray 29 (0, 0)) := by rw [(h2.extNo trivial).keep g (Array.getElem?_eq_some_iff.1 hg2).1 (fun h => h)]; exact hg2
  have hx2 := h2.extNo trivial
  clear h2
  refine ⟨fun k => k = g, .tuple #[], w2.setRow g c2.toArray, fun k _ hk => .inl (hk ▸ hgB.1), trivial, clear_run rfl rfl (hd2 w2 hh2), Ext.setRow c2.toArray hh2, ?_⟩
  refine JoinP.mk fun w3 h3 => ⟨_, rfl, h3.ext0, ?_⟩
  have hx3 := h3.extNo trivial
  clear h3
  have hg3 : (w2.setRow g c2.toArray).heap[g]? = some (.cells c2.toArray 29 (0, 0)) := setRow_heap w2 g _ _ 29 _ hh2
  refine hfin w3 (by rw [hx3.keep g (Array.getElem?_eq_some_iff.1 hg3).1 (fun h => h)]; exact hg3) (fun j x hj => kMail.move (q2 j x hj) fun b hb hl => ?_)
  have hbg : b ≠ g := fun e => hgB.2 (e ▸ hb)
  have s1 := hx1.size
  have s2 : w1.heap.size ≤ (w1.setRow g c1.toArray).heap.size := (Ext.setRow c1.toArray hh1).size
  have s3 := hx2.size
  have s4 : w2.heap.size ≤ (w2.setRow g c2.toArray).heap.size := (Ext.setRow c2.toArray hh2).size
  rw [hx3.keep b (by omega) (fun h => h), (Ext.setRow c2.toArray hh2).keep b (by omega) hbg, hx2.keep b (by omega) (fun h => h), (Ext.setRow c1.toArray hh1).keep b (by omega) hbg, hx1.keep b hl (fun h => h)]
end Go.Proofs.Ytdmengbemonkaaa
