/- OWN WORK. Flow, part G: a slice of one's own, written in place. -/
import Derived.Test.YtdmengbemonkaaaFlowF
set_option linter.unusedVariables false
set_option linter.unusedSimpArgs false
namespace Go.Flow
open Go

theorem Ext.setRow {w : World} {g : Nat} {cur : Array Value} {t : TypeId} {fz : Nat × Nat} (c2 : Array Value) (h : w.heap[g]? = some (.cells cur t fz)) : Ext (fun k => k = g) w (w.setRow g c2) :=
  ⟨rfl, rfl, rfl, by simp [World.setRow], fun k hk hn => by simp [World.setRow, Array.getElem?_modify]; intro h; exact absurd h.symm hn⟩

theorem run_clear {P : Program} {t e : TypeId} {i : TypeInfo} {z : Value} (ht : P.underlying t = some (.slice e)) (hi : P.info? e = some i) (hz : i.zero = some z) (w : World) (g off n c : Nat) (cur : Array Value)
    (hg : w.heap[g]? = some (.cells cur e (0, 0))) (hfit : off + n * z.cells.size ≤ cur.size) (h1 : ∀ u ∈ (Builtin.zeroCells z.cells n).toList, u.oneCell' = true) (ty : TypeId) :
    (Builtin.clear_ #[t] ty #[.slice (some ⟨g, off, none⟩) n c]).run P w = .ok (.tuple #[]) (w.setRow g (cur.toList.take off ++ (Builtin.zeroCells z.cells n).toList ++ cur.toList.drop (off + n * z.cells.size)).toArray) := by
  have hl : (Builtin.zeroCells z.cells n).toList.length = n * z.cells.size := by rw [Array.length_toList, size_zeroCells]
  have hst := run_storeCells_at P g off e (Builtin.zeroCells z.cells n).toList 0 cur w hg (by rw [hl]; simpa using hfit) h1
  simp only [Nat.add_zero, hl] at hst
  cases n with
  | zero =>
    have : (Builtin.zeroCells z.cells 0).toList = [] := by simp [Builtin.zeroCells]
    rw [this] at hst ⊢
    simp only [List.append_nil, Nat.zero_mul, Nat.add_zero, List.take_append_drop] at hst ⊢
    have e2 : w.setRow g cur.toList.toArray = w := by rw [Array.toArray_toList]; exact setRow_self w g cur e (0, 0) hg
    rw [e2]
    simp [Builtin.clear_, run_underlying ht]
  | succ n =>
    simp [Builtin.clear_, run_underlying ht, zeroValue, typeInfo, hi, hz, hst]

theorem Segs.one' {α : Type} {d : Kind α} {w : World} {F : Nat → Prop} {xs : List α} {cells : List Value} (h : Segs d w F xs cells) (hl : cells.length = xs.length * d.sz) (h0 : 0 < d.sz) : ∀ u ∈ cells, u.oneCell' = true := by
  intro u hu
  obtain ⟨j, hj, rfl⟩ := List.getElem_of_mem hu
  have hj2 : j / d.sz < xs.length := Nat.div_lt_of_lt_mul (by rw [Nat.mul_comm]; omega)
  have hr := h (j / d.sz) _ (List.getElem?_eq_getElem hj2)
  refine all1_spec _ (d.one hr) _ ?_
  rw [List.mem_iff_getElem?]
  have := Nat.mod_lt j h0
  have e : j / d.sz * d.sz + j % d.sz = j := Nat.div_add_mod' j d.sz
  refine ⟨j % d.sz, ?_⟩
  rw [List.getElem?_take_of_lt this, List.getElem?_drop, e, List.getElem?_eq_getElem hj]

section
variable {α : Type} {d : Kind α} {e : TypeId} {w w' : World} {B B' F F' : Nat → Prop} {xs : List α} {g n c : Nat}
theorem Own.rep (h : Own d e w B F (.slice (some ⟨g, 0, none⟩) n c) xs) : xs.length = n ∧ n ≤ c ∧ c ≤ maxLen ∧ n ≤ 140737488355328 ∧ B g ∧ ¬ F g ∧ ∃ cur : List Value, w.heap[g]? = some (.cells cur.toArray e (0, 0)) ∧ cur.length = c * d.sz ∧ Segs d w F xs (cur.take (n * d.sz)) := by
  obtain ⟨cells, ⟨q0, q1⟩, q2, q3, q4⟩ := h
  rcases q1 with ⟨h1, _⟩ | ⟨g', cap, cur, h1, _, hh, hnc, hcm, hcs, ht⟩
  · cases h1
  · injection h1 with h1 h2 h3
    injection h1 with h1
    injection h1 with h1
    subst h1; subst h2; subst h3
    have hb := q4 g (by simp [Value.ownBlock])
    refine ⟨rfl, hnc, hcm, q3, hb.1, hb.2, cur.toList, by simpa using hh, by simpa using hcs, ?_⟩
    rw [ht]; exact q2
theorem Own.of_rep (hl : xs.length = n) (hnc : n ≤ c) (hcm : c ≤ maxLen) (hn : n ≤ 140737488355328) (hB : B g) (hF : ¬ F g) {cur : List Value} (hh : w.heap[g]? = some (.cells cur.toArray e (0, 0))) (hc : cur.length = c * d.sz) (hs : Segs d w F xs (cur.take (n * d.sz))) :
    Own d e w B F (.slice (some ⟨g, 0, none⟩) n c) xs := by
  subst hl
  refine ⟨cur.take (xs.length * d.sz), ⟨?_, .inr ⟨g, c, cur.toArray, rfl, Nat.zero_le _, hh, hnc, hcm, by simpa using hc, by simp⟩⟩, hs, hn, fun k hk => ?_⟩
  · rw [List.length_take, hc, Nat.min_eq_left (Nat.mul_le_mul_right _ hnc)]
  · have : g = k := by simpa [Value.ownBlock] using hk
    subst this; exact ⟨hB, hF⟩
theorem Own.elem (h : Own d e w B F (.slice (some ⟨g, 0, none⟩) n c) xs) {j : Nat} {x : α} (hj : xs[j]? = some x) : ∃ cs, d.rep w F cs x ∧ CellsAt w ⟨g, j * d.sz, none⟩ cs := by
  obtain ⟨hl, hnc, hcm, hn, hB, hF, cur, hh, hc, hs⟩ := h.rep
  refine ⟨_, hs j x hj, fun i u hu => ?_⟩
  rw [List.getElem?_take] at hu
  split at hu
  · rw [List.getElem?_drop, List.getElem?_take] at hu
    split at hu
    · rw [bid_add]; simpa [World.cell?, hh] using hu
    · cases hu
  · cases hu
/-- a beginning of it -/
theorem Own.take (h : Own d e w B F (.slice (some ⟨g, 0, none⟩) n c) xs) {i : Nat} (hi : i ≤ n) : Own d e w B F (.slice (some ⟨g, 0, none⟩) i c) (xs.take i) := by
  obtain ⟨hl, hnc, hcm, hn, hB, hF, cur, hh, hc, hs⟩ := h.rep
  refine Own.of_rep (by rw [List.length_take]; omega) (by omega) hcm (by omega) hB hF hh hc (fun j x hj => ?_)
  rw [List.getElem?_take] at hj
  split at hj
  · rename_i hji
    have := hs j x hj
    have h1 : j * d.sz + d.sz ≤ i * d.sz := by rw [← Nat.succ_mul]; exact Nat.mul_le_mul_right _ hji
    have h2 : i * d.sz ≤ n * d.sz := Nat.mul_le_mul_right _ hi
    rw [List.drop_take, List.take_take, Nat.min_eq_left (by omega)] at this ⊢
    exact this
  · cases hj
theorem Segs.set {cells cs : List Value} {j : Nat} {y : α} (h : Segs d w F xs cells) (hl : cells.length = xs.length * d.sz) (hj : j < xs.length) (hy : d.rep w F cs y) : Segs d w F (xs.set j y) (setL cells (j * d.sz) cs) := by
  have hcs := d.len hy
  have h1 : j * d.sz + d.sz ≤ cells.length := by rw [hl, ← Nat.succ_mul]; exact Nat.mul_le_mul_right _ hj
  rw [setL_eq _ _ _ (by omega), hcs]
  intro k x hk
  rw [List.getElem?_set] at hk
  split at hk
  · rename_i hjk
    subst hjk
    simp only [hj, if_true, Option.some.injEq] at hk
    subst hk
    rw [List.append_assoc, List.drop_append, List.drop_eq_nil_of_le (by rw [List.length_take]; omega), List.nil_append, List.length_take, Nat.min_eq_left (by omega), Nat.sub_self, List.drop_zero, List.take_append_of_le_length (by omega), List.take_of_length_le (by omega)]
    exact hy
  · rename_i hjk
    have := h k x hk
    rcases Nat.lt_or_gt_of_ne hjk with hlt | hgt
    · have h2 : j * d.sz + d.sz ≤ k * d.sz := by rw [← Nat.succ_mul]; exact Nat.mul_le_mul_right _ hlt
      rw [List.drop_append, List.drop_eq_nil_of_le (by rw [List.length_append, List.length_take]; omega), List.nil_append, List.drop_drop, List.length_append, List.length_take, Nat.min_eq_left (by omega), hcs]
      rw [show j * d.sz + d.sz + (k * d.sz - (j * d.sz + d.sz)) = k * d.sz by omega]
      exact this
    · have h2 : k * d.sz + d.sz ≤ j * d.sz := by rw [← Nat.succ_mul]; exact Nat.mul_le_mul_right _ hgt
      rw [List.append_assoc, List.drop_append_of_le_length (by rw [List.length_take]; omega), List.take_append_of_le_length (by rw [List.length_drop, List.length_take]; omega), List.drop_take, List.take_take, Nat.min_eq_left (by omega)]
      exact this
end

section
variable {C : Ctx} {E : Env} {s : St} {u : World} {α : Type} {d : Kind α} {G : List (Nat × Bool)} {o : Oper} {x y : Operand} {T e : TypeId} {it ie : TyI} {K : Value → List Box → World → Prop}
/-- s[j] = v, in a slice of one's own -/
theorem set_ev (d : Kind α) (dead : List Nat) (he : C.ty e = some ie) (hsz : ie.size = d.sz) (hs0 : 0 < d.sz) (ho : o.op = .store e x y) {g j n c : Nat} {cs : List Value} {v : Value} (hx : s.eg G x = .pointer (some ((⟨g, 0, none⟩ : Addr).add (j * d.sz)))) (hy : s.eg G y = v) (hv : v.cells.toList = cs)
    (h : ∀ w, At E s u w → ∃ (B F : Nat → Prop) (xs : List α) (y : α), Own d e w B F (.slice (some ⟨g, 0, none⟩) n c) xs ∧ j < n ∧ d.rep w F cs y ∧ okS E w (fun k => k = g) ∧ liveAll (fun i => ¬ i = g) (killL s.b dead) ∧
      ∀ w', Ext (fun k => k = g) w w' → Own d e w' B F (.slice (some ⟨g, 0, none⟩) n c) (xs.set j y) → K undef (killL s.b dead) w') : GenP C E s u (execOp (s.eg G) o) K := by
  refine gen_evU dead fun w hat => ?_
  obtain ⟨B, F, xs, y', h1, h2, h3, h4, h5, h6⟩ := h w hat
  obtain ⟨hl, hnc, hcm, hn, hB, hF, cur, hh, hc, hs⟩ := h1.rep
  have hcs := d.len h3
  have hfit : j * d.sz + d.sz ≤ c * d.sz := by rw [← Nat.succ_mul]; exact Nat.mul_le_mul_right _ (by omega)
  obtain ⟨w', r1, r2, r3, r4⟩ := run_storeCells_box (P := C.P) g e cs 0 (j * d.sz) cur w hh (by omega) (all1_spec _ (d.one h3))
  refine ⟨fun k => k = g, w', h4, h5, ?_, r3, h6 w' r3 (Own.of_rep (by rw [List.length_set]; exact hl) hnc hcm hn hB hF r2 (by rw [Nat.add_zero, setL_length (by omega)]; exact hc) ?_)⟩
  · have hvs : v.cells.size = ie.size := by rw [← Array.length_toList, hv, hcs, hsz]
    simp [execOp, ho, hx, hy, Instr.storeAt, Instr.sureAddr, storeVar, run_size he, hvs, hv, bid_add, r1]
  · have hs' := Segs.set (cs := cs) (j := j) (y := y') (w := w') (F := F) (fun k x hk => d.move (hs k x hk) (fun b hb hbl => r3.keep b hbl (fun e => hF (e ▸ hb)))) (by rw [List.length_take, hc, hl]; exact Nat.min_eq_left (Nat.mul_le_mul_right _ hnc)) (by omega) (d.move h3 (fun b hb hbl => r3.keep b hbl (fun e => hF (e ▸ hb))))
    have h7 : j * d.sz + d.sz ≤ n * d.sz := by rw [← Nat.succ_mul]; exact Nat.mul_le_mul_right _ h2
    have h8 : n * d.sz ≤ c * d.sz := Nat.mul_le_mul_right _ hnc
    have e1 : (setL cur (j * d.sz) cs).take (n * d.sz) = setL (cur.take (n * d.sz)) (j * d.sz) cs := by
      rw [setL_eq _ _ _ (by omega), setL_eq _ _ _ (by rw [List.length_take]; omega), hcs]
      rw [List.take_append, List.take_of_length_le (by rw [List.length_append, List.length_take]; omega), List.length_append, List.length_take, Nat.min_eq_left (by omega), hcs]
      rw [List.take_take, Nat.min_eq_left (by omega), List.drop_take]
    rw [Nat.add_zero, e1]
    exact hs'
/-- clear(s[i:]), in a slice of one's own: what lies ahead of i stays -/
theorem clear_ev (d : Kind α) (dead : List Nat) (hT : C.ty T = some it) (hTd : it.desc = .slice e) (he : C.ty e = some ie) (hsz : ie.size = d.sz) (hs0 : 0 < d.sz) (hz1 : all1 ie.zero = true) (ho : o.op = .call { callee := .builtin .clear, args := #[x], argTypes := #[T] })
    {g i n c : Nat} (hx : s.eg G x = .slice (subA (some ⟨g, 0, none⟩) i c d.sz) (n - i) (c - i))
    (h : ∀ w, At E s u w → ∃ (B F : Nat → Prop) (xs : List α), Own d e w B F (.slice (some ⟨g, 0, none⟩) n c) xs ∧ i ≤ n ∧ okS E w (fun k => k = g) ∧ liveAll (fun i => ¬ i = g) (killL s.b dead) ∧
      ∀ w', Ext (fun k => k = g) w w' → Own d e w' B F (.slice (some ⟨g, 0, none⟩) i c) (xs.take i) → K (.tuple #[]) (killL s.b dead) w') : GenP C E s u (execOp (s.eg G) o) K := by
  refine gen_ev dead fun w hat => ?_
  obtain ⟨B, F, xs, h1, h2, h4, h5, h6⟩ := h w hat
  obtain ⟨hl, hnc, hcm, hn, hB, hF, cur, hh, hc, hs⟩ := (h1.take h2).rep
  obtain ⟨_, hnc', _, _, _, _, _, _, _, _⟩ := h1.rep
  obtain ⟨dd, hd1, hd2, hd3⟩ := run_und hT
  rw [hTd] at hd2
  obtain rfl := fits_slice hd2
  obtain ⟨inf, i1, i2, i3, i4⟩ := (C.tyOk e ie he).info
  obtain ⟨z, hz, hzc⟩ := Option.map_eq_some_iff.1 i4
  have hzl := (C.tyOk e ie he).len
  have hzs : z.cells.size = d.sz := by rw [hzc]; simp [hzl, hsz]
  have hzz : ∀ m, ∀ u ∈ (Builtin.zeroCells z.cells m).toList, u.oneCell' = true := by
    intro m u hu
    simp only [Builtin.zeroCells, Array.toList_map, List.mem_map] at hu
    obtain ⟨k, hk, rfl⟩ := hu
    have hkl : k % z.cells.size < z.cells.size := Nat.mod_lt _ (by rw [hzs]; exact hs0)
    rw [getElem!_pos z.cells _ hkl]
    exact all1_spec _ hz1 _ (by rw [← Array.getElem_toList]; simp only [hzc]; exact List.getElem_mem ..)
  have hic : i * d.sz + (n - i) * d.sz = n * d.sz := by rw [← Nat.add_mul]; congr 1; omega
  have hnc2 : n * d.sz ≤ c * d.sz := Nat.mul_le_mul_right _ hnc'
  -- the address
  obtain ⟨off, hoff, hio⟩ : ∃ off, subA (some ⟨g, 0, none⟩) i c d.sz = some ⟨g, off, none⟩ ∧ (n - i = 0 ∨ off = i * d.sz) ∧ off + (n - i) * d.sz ≤ cur.length := by
    unfold subA
    split
    · exact ⟨0, rfl, .inl (by omega), by rw [show n - i = 0 by omega]; omega⟩
    · exact ⟨i * d.sz, by rw [Option.map_some, bid_add, Nat.zero_add], .inr rfl, by omega⟩
  have hrun := run_clear (P := C.P) hd3 i1 hz w g off (n - i) (c - i) cur.toArray hh (by rw [hzs]; simpa using hio.2) (hzz _) o.type
  rw [hzs] at hrun
  obtain ⟨c2, hc2⟩ : ∃ c2, c2 = cur.toArray.toList.take off ++ (Builtin.zeroCells z.cells (n - i)).toList ++ cur.toArray.toList.drop (off + (n - i) * d.sz) := ⟨_, rfl⟩
  rw [← hc2] at hrun
  have hx3 := Ext.setRow c2.toArray hh
  have hh2 : (w.setRow g c2.toArray).heap[g]? = some (.cells c2.toArray e (0, 0)) := setRow_heap w g _ _ e _ hh
  have hzn : (Builtin.zeroCells z.cells (n - i)).toList.length = (n - i) * d.sz := by rw [Array.length_toList, size_zeroCells, hzs]
  simp only [List.toList_toArray] at hc2
  refine ⟨fun k => k = g, .tuple #[], _, h4, h5, clear_run ho (by rw [hx, hoff]) hrun, hx3, h6 _ hx3 (Own.of_rep hl hnc hcm hn hB hF hh2 ?_ ?_)⟩
  · rw [hc2]; simp only [List.length_append, List.length_take, List.length_drop, hzn]; omega
  · have e1 : c2.take (i * d.sz) = cur.take (i * d.sz) := by
      rcases hio.1 with h0 | rfl
      · have hz0 : (Builtin.zeroCells z.cells (n - i)).toList = [] := List.eq_nil_of_length_eq_zero (by rw [hzn, h0]; simp)
        rw [hc2, hz0, List.append_nil, h0, Nat.zero_mul, Nat.add_zero, List.take_append_drop]
      · rw [hc2, List.append_assoc, List.take_append_of_le_length (by rw [List.length_take]; omega), List.take_take, Nat.min_self]
    rw [e1]
    exact fun j x hj => d.move (hs j x hj) (fun b hb hbl => hx3.keep b hbl (fun e => hF (e ▸ hb)))
end
end Go.Flow
