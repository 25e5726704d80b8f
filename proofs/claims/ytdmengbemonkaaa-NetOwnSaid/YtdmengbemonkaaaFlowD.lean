/- OWN WORK. Flow, part D: what code asks is enough: calls. -/
import Derived.Test.YtdmengbemonkaaaFlowC
import Derived.Laws.CopyRow
import Derived.OrdersHeld
set_option linter.unusedVariables false
set_option linter.unusedSimpArgs false
namespace Go.Flow
open Go

structure Rel (E : Env) (n : Nat) (s : St) (u : World) (a : Act) (w : World) : Prop where
  tmp : ∀ k, a.tmps.getD k undef = (s.t k).val s.b s.cs
  size : a.tmps.size = n
  defers : a.defers = []
  nodup : (s.b.map Box.id).Nodup
  lt : ∀ bx ∈ s.b, bx.id < w.heap.size
  wf : s.wf
  at_ : At E s u w

section
variable {C : Ctx} {E : Env} {n : Nat} {s : St} {u : World} {a : Act} {w : World}

theorem Rel.eval (h : Rel E n s u a w) (x : Operand) : a.eval x = (s.sv x).val s.b s.cs := by
  cases x with
  | tmp t => exact h.tmp t
  | const v => rfl
  | global g => rfl
  | func f => rfl
theorem Rel.evalG (h : Rel E n s u a w) {G : List (Nat × Bool)} (hG : holdB s.cs G = true) : a.eval = s.eg G := by
  funext x
  rw [h.eval, eg_val hG]
theorem getD_set (t : Array Value) (d k : Nat) (x : Value) (hd : d < t.size) : (t.setIfInBounds d x).getD k undef = bif Nat.beq k d then x else t.getD k undef := by
  rw [Array.getD_eq_getD_getElem?, Array.getD_eq_getD_getElem?, Array.getElem?_setIfInBounds]
  by_cases h : d = k
  · subst h
    simp [hd]
  · have : Nat.beq k d = false := by
      cases hb : Nat.beq k d
      · rfl
      · exact absurd (Nat.eq_of_beq_eq_true hb).symm h
    rw [if_neg h, this]; rfl
theorem Rel.put (h : Rel E n s u a w) {d : Option Nat} (hd : okDst n d = true) {x : SV} (hx : x.ok s.b.length s.cs.length) : Rel E n (s.put d x) u (a.put d (x.val s.b s.cs)) w := by
  cases d with
  | none => exact h
  | some d =>
    have hlt : d < a.tmps.size := by rw [h.size]; exact Nat.blt_eq.mp hd
    refine ⟨fun k => ?_, ?_, h.defers, h.nodup, h.lt, fun k => ?_, ⟨h.at_.box, h.at_.fresh, h.at_.ext, h.at_.ext0⟩⟩
    · show (a.tmps.setIfInBounds d _).getD k undef = _
      rw [getD_set _ _ _ _ hlt]
      show _ = (cond (Nat.beq k d) x (s.t k)).val s.b s.cs
      cases Nat.beq k d
      · exact h.tmp k
      · rfl
    · show (a.tmps.setIfInBounds d _).size = n
      rw [Array.size_setIfInBounds]; exact h.size
    · show (cond (Nat.beq k d) x (s.t k)).ok _ _
      cases Nat.beq k d
      · exact h.wf k
      · exact hx

/-- new boxes and conditions -/
theorem Rel.more (h : Rel E n s u a w) {b : List Box} {cs : List Bool} {w' : World} (hn : ((s.b ++ b).map Box.id).Nodup) (hlt : ∀ bx ∈ s.b ++ b, bx.id < w'.heap.size) (hat : At E { t := s.t, b := s.b ++ b, cs := s.cs ++ cs } u w') :
    Rel E n { t := s.t, b := s.b ++ b, cs := s.cs ++ cs } u a w' := by
  refine ⟨fun k => ?_, h.size, h.defers, hn, hlt, fun k => ?_, hat⟩
  · rw [h.tmp]; exact (SV.val_ext (h.wf k) b cs).symm
  · exact SV.ok_mono (h.wf k) (by simp) (by simp)

/-- a new block that is a box -/
theorem Rel.box (h : Rel E n s u a w) {bx : Box} (hb : bx.id = w.heap.size) (hlv : bx.live = true) : Rel E n (withB s (s.b ++ [bx])) u a (w.alloc (.cells bx.cs.toArray bx.ty)) := by
  have hlt := h.lt
  have := Rel.more (cs := []) (b := [bx]) (w' := w.alloc (.cells bx.cs.toArray bx.ty)) h ?_ ?_ ⟨?_, ?_, ?_, ?_⟩
  · rw [List.append_nil] at this; exact this
  · rw [List.map_append, List.nodup_append]
    refine ⟨h.nodup, by simp, ?_⟩
    intro x hx y hy
    obtain ⟨z, hz, rfl⟩ := List.mem_map.1 hx
    simp only [List.map_cons, List.map_nil, List.mem_singleton] at hy
    subst hy
    have := hlt z hz
    omega
  · intro x hx
    rcases List.mem_append.1 hx with hx | hx
    · have := hlt x hx; simp; omega
    · obtain rfl := List.mem_singleton.1 hx
      rw [hb]; simp
  · intro x hx hl
    rcases List.mem_append.1 hx with hx | hx
    · rw [Go.RowKit.Below.heap_alloc _ _ _ (hlt x hx)]; exact h.at_.box x hx hl
    · obtain rfl := List.mem_singleton.1 hx
      rw [hb]; exact heap_alloc_new _ _
  · intro x hx
    rcases List.mem_append.1 hx with hx | hx
    · exact h.at_.fresh x hx
    · obtain rfl := List.mem_singleton.1 hx
      rw [hb]; exact h.at_.ext0.size
  · refine h.at_.ext.trans' (Ext.alloc w _) (fun x hx => ?_) (fun _ _ h => h.elim)
    obtain ⟨bx', hm, hl, hx⟩ := hx
    exact ⟨bx', List.mem_append_left _ hm, hl, hx⟩
  · exact h.at_.ext0.trans (Ext.alloc w _).of_no

theorem setC_same : ∀ (cs : List Bool) (k : Nat) (b : Bool), cnd cs k = b → setC cs k b = cs
  | [], _, _, _ => rfl
  | _ :: _, 0, _, h => by simp only [cnd] at h; subst h; rfl
  | _ :: r, k + 1, b, h => by simp only [setC]; rw [setC_same r k b h]
theorem setG_same : ∀ (G : List (Nat × Bool)) (cs : List Bool), holdB cs G = true → setG cs G = cs
  | [], _, _ => rfl
  | g :: r, cs, h => by
    simp only [holdB, Bool.and_eq_true, beq_iff_eq] at h
    simp only [setG]
    rw [setC_same cs g.1 g.2 h.1]
    exact setG_same r cs h.2

theorem okS.old {S : Nat → Prop} (h : okS E w S) : ∀ x, x < w.heap.size → S x → E.S0 x ∨ E.w0.heap.size ≤ x := by
  unfold okS at h
  split at h
  · exact h
  · exact fun x hx hs => absurd hs (h x hx)
theorem okS.grow {S : Nat → Prop} {w' : World} (h : okS E w S) (hg : E.grow = true) (hx : Ext S w w') : Ext no w w' := by
  unfold okS at h
  rw [hg] at h
  exact hx.mono fun x hx hs => h x hx hs
/-- behind an event -/
theorem Rel.event (h : Rel E n s u a w) {b' : List Box} {w' : World} {S : Nat → Prop} (hS : ∀ x, x < w.heap.size → S x → E.S0 x ∨ E.w0.heap.size ≤ x) (hx : Ext S w w') (hb : Boxes s.b b' w') : Rel E n (withB s b') w' a w' := by
  have hlen : b'.length = s.b.length := by have := congrArg List.length hb.same; simpa using this
  have hids : b'.map Box.id = s.b.map Box.id := by
    have := congrArg (List.map Prod.fst) hb.same
    simpa [Function.comp_def] using this
  have hbid : ∀ (l m : List Box), l.map Box.id = m.map Box.id → ∀ i, bid l i = bid m i := by
    intro l
    induction l with
    | nil => intro m hm i; cases m with
      | nil => rfl
      | cons x r => simp at hm
    | cons y r ih => intro m hm i; cases m with
      | nil => simp at hm
      | cons x q =>
        simp only [List.map_cons, List.cons.injEq] at hm
        cases i with
        | zero => exact hm.1
        | succ i => exact ih q hm.2 i
  have hval : ∀ x : PV, x.val b' s.cs = x.val s.b s.cs := by
    intro x
    cases x <;> simp only [PV.val, hbid _ _ hids]
  refine ⟨fun k => ?_, h.size, h.defers, by show (b'.map Box.id).Nodup; rw [hids]; exact h.nodup, ?_, fun k => ?_, ⟨hb.box, ?_, Ext.refl _ _, ?_⟩⟩
  · rw [h.tmp]
    show (s.t k).val s.b s.cs = (s.t k).val b' s.cs
    obtain ⟨G, x⟩ := s.t k
    rw [SV.val_w, SV.val_w, hval]
  · intro bx hm
    have : bx.id ∈ b'.map Box.id := List.mem_map_of_mem hm
    rw [hids] at this
    obtain ⟨y, hy, he⟩ := List.mem_map.1 this
    have := h.lt y hy
    have := hx.size
    omega
  · show (s.t k).ok b'.length s.cs.length
    rw [hlen]; exact h.wf k
  · intro bx hm
    have : bx.id ∈ b'.map Box.id := List.mem_map_of_mem hm
    rw [hids] at this
    obtain ⟨y, hy, he⟩ := List.mem_map.1 this
    rw [← he]; exact h.at_.fresh y hy
  · refine h.at_.ext0.trans' hx (fun _ h => h) (fun x hlt hs => ?_)
    rcases hS x (Nat.lt_of_lt_of_le hlt h.at_.ext0.size) hs with h1 | h1
    · exact h1
    · exact absurd hlt (by omega)
theorem boxes_same (h : Rel E n s u a w) {S : Nat → Prop} {w' : World} (hx : Ext S w w') (hd : ∀ bx ∈ s.b, bx.live = true → ¬ S bx.id) : Boxes s.b s.b w' :=
  ⟨rfl, fun bx hm hl => by
    have hb := h.at_.box bx hm hl
    rw [hx.keep _ (Array.getElem?_eq_some_iff.1 hb).1 (hd bx hm hl)]; exact hb⟩

/-! ### operations that make or turn memory -/
variable {ops : Array Oper} {Q : Exit → Act → World → Prop} {o : Oper} {K : SV → List Box → World → Prop}

/-- what is to be shown of each: behind the operation, some answer -/
def EOk (C : Ctx) (E : Env) (n : Nat) (s : St) (o : Oper) (a : Act) (w : World) (K : SV → List Box → World → Prop) (Q : Exit → Act → World → Prop) : Prop :=
  ∀ next : Act → World → Prop, (∀ x b' u' v w', K x b' u' → (∀ k, (withB s b').t k = s.t k) → Rel E n (withB s b') u' a w' → x.ok b'.length s.cs.length → x.val b' s.cs = v → next (a.put o.dst v) w') → o.wp C.P a w next Q

theorem all1_spec : ∀ (l : List Value), all1 l = true → ∀ v ∈ l, v.oneCell' = true
  | [], _, v, hv => by cases hv
  | x :: r, h, v, hv => by
    simp only [all1, Bool.and_eq_true] at h
    rcases List.mem_cons.1 hv with rfl | hv
    · cases v <;> simp_all [fits1, Value.oneCell']
    · exact all1_spec r h.2 v hv

/-- stores into a block -/
theorem run_storeCells_box {P : Program} (g : Nat) (t : TypeId) : ∀ (vs : List Value) (i off : Nat) (cs : List Value) (w : World), w.heap[g]? = some (.cells cs.toArray t (0, 0)) → off + i + vs.length ≤ cs.length → (∀ v ∈ vs, v.oneCell' = true) →
    ∃ w', (storeCells ⟨g, off, none⟩ vs i).run P w = .ok () w' ∧ w'.heap[g]? = some (.cells (setL cs (off + i) vs).toArray t (0, 0)) ∧ Ext (fun b => b = g) w w' ∧ w'.heap.size = w.heap.size
  | [], i, off, cs, w, hg, hl, _ => by
    refine ⟨w, by simp [storeCells], ?_, Ext.refl _ _, rfl⟩
    rw [setL_eq _ _ _ (by simpa using hl)]; simpa using hg
  | v :: vs, i, off, cs, w, hg, hl, h1 => by
    have hlt : off + i < cs.length := by simp at hl; omega
    have hc : w.cell? ⟨g, off + i, none⟩ = some cs[off + i] := by simp [World.cell?, hg, hlt]
    have hf : w.frozen? ⟨g, off + i, none⟩ = false := by simp [World.frozen?, hg]
    have hgl : g < w.heap.size := (Array.getElem?_eq_some_iff.1 hg).1
    have hg2 : (w.setCell ⟨g, off + i, none⟩ v).heap[g]? = some (.cells (cs.set (off + i) v).toArray t (0, 0)) := by
      simp only [World.setCell, Array.getElem?_modify, if_true, hg, Option.map_some]
      simp
    obtain ⟨w', h2, h3, h4, h5⟩ := run_storeCells_box (P := P) g t vs (i + 1) off (cs.set (off + i) v) _ hg2 (by simp at hl ⊢; omega) (fun u hu => h1 u (by simp [hu]))
    refine ⟨w', ?_, ?_, ?_, ?_⟩
    · simp only [storeCells, Sem.run_bind, bid_add]
      rw [run_store _ _ _ _ _ (h1 v (by simp)), hc]
      simp only [hf, Bool.false_eq_true, if_false, Result.andThen_ok]
      exact h2
    · rw [h3]
      congr 3
      rw [setL_eq _ _ _ (by simp at hl ⊢; omega), setL_eq _ _ _ (by simp at hl ⊢; omega)]
      rw [show off + (i + 1) = off + i + 1 by omega]
      rw [List.take_succ_eq_append_getElem (by simp; omega)]
      simp only [List.getElem_set_self, List.take_set, List.length_cons, List.append_assoc, List.cons_append, List.nil_append]
      rw [List.set_eq_of_length_le (by simp; omega)]
      congr 3
      rw [List.drop_set_of_lt (by omega)]
      rw [show off + i + 1 + vs.length = off + i + (vs.length + 1) by omega]
    · exact (Ext.setCell w ⟨g, off + i, none⟩ v).trans h4
    · rw [h5]; simp [World.setCell]

theorem modB_get : ∀ (l : List Box) (i : Nat) (f : List Value → List Value) (bx : Box), nth l i = some bx → (modB l i f).map (fun x => (x.id, x.ty)) = l.map (fun x => (x.id, x.ty)) ∧
    ∀ x ∈ modB l i f, x = ⟨bx.id, bx.ty, f bx.cs, bx.live⟩ ∨ (x ∈ l ∧ (l.map Box.id).Nodup → x.id ≠ bx.id ∨ x = ⟨bx.id, bx.ty, f bx.cs, bx.live⟩) ∧ (x ∈ l ∨ x = ⟨bx.id, bx.ty, f bx.cs, bx.live⟩)
  | [], _, _, _, h => by simp [nth] at h
  | y :: r, 0, f, bx, h => by
    simp only [nth, Option.some.injEq] at h
    subst h
    refine ⟨rfl, fun x hx => ?_⟩
    simp only [modB, List.mem_cons] at hx
    rcases hx with rfl | hx
    · exact .inl rfl
    · refine .inr ⟨fun ⟨_, hnd⟩ => .inl ?_, .inl (by simp [hx])⟩
      simp only [List.map_cons, List.nodup_cons] at hnd
      intro he
      exact hnd.1 (by rw [← he]; exact List.mem_map_of_mem hx)
  | y :: r, i + 1, f, bx, h => by
    simp only [nth] at h
    obtain ⟨h1, h2⟩ := modB_get r i f bx h
    refine ⟨by simp only [modB, List.map_cons, h1], fun x hx => ?_⟩
    simp only [modB, List.mem_cons] at hx
    have hbm : bx ∈ r := by rw [nth_get] at h; exact List.mem_of_getElem? h
    rcases hx with rfl | hx
    · refine .inr ⟨fun ⟨_, hnd⟩ => .inl ?_, .inl (by simp)⟩
      simp only [List.map_cons, List.nodup_cons] at hnd
      intro he
      exact hnd.1 (by rw [he]; exact List.mem_map_of_mem hbm)
    · rcases h2 x hx with h3 | ⟨h3, h4⟩
      · exact .inl h3
      · rcases h4 with h4 | h4
        · refine .inr ⟨fun ⟨_, hnd⟩ => h3 ⟨h4, ?_⟩, .inl (by simp [h4])⟩
          simp only [List.map_cons, List.nodup_cons] at hnd
          exact hnd.2
        · exact .inl h4

theorem modB_len : ∀ (l : List Box) (i : Nat) (f : List Value → List Value), (modB l i f).length = l.length
  | [], _, _ => rfl
  | _ :: _, 0, _ => rfl
  | _ :: r, i + 1, f => by simp [modB, modB_len r i f]
theorem bid_modB : ∀ (l : List Box) (i : Nat) (f : List Value → List Value) (j : Nat), bid (modB l i f) j = bid l j
  | [], _, _, _ => rfl
  | _ :: _, 0, _, 0 => rfl
  | _ :: _, 0, _, _ + 1 => rfl
  | _ :: _, _ + 1, _, 0 => rfl
  | _ :: r, i + 1, f, j + 1 => by simp only [modB, bid]; exact bid_modB r i f j
theorem bid_last : ∀ (l : List Box) (bx : Box), bid (l ++ [bx]) l.length = bx.id
  | [], _ => rfl
  | _ :: r, bx => by simp only [List.cons_append, List.length_cons, bid]; exact bid_last r bx

theorem modB_mem : ∀ (l : List Box) (i : Nat) (f : List Value → List Value), ∀ y ∈ l, y.live = true → ∃ z ∈ modB l i f, z.live = true ∧ z.id = y.id
  | [], _, _, _, h, _ => absurd h List.not_mem_nil
  | x :: r, 0, f, y, h, hl => by
    rcases List.mem_cons.1 h with rfl | h
    · exact ⟨⟨y.id, y.ty, f y.cs, y.live⟩, by simp [modB], hl, rfl⟩
    · exact ⟨y, by simp [modB, h], hl, rfl⟩
  | x :: r, i + 1, f, y, h, hl => by
    rcases List.mem_cons.1 h with rfl | h
    · exact ⟨y, by simp [modB], hl, rfl⟩
    · obtain ⟨z, hz, h1, h2⟩ := modB_mem r i f y h hl
      exact ⟨z, by simp [modB, hz], h1, h2⟩
theorem Rel.boxset (h : Rel E n s u a w) {k : Nat} {bx : Box} (hk : nth s.b k = some bx) (hlv : bx.live = true) {f : List Value → List Value} {w' : World} (hsz : w'.heap.size = w.heap.size) (hw : w'.heap[bx.id]? = some (.cells (f bx.cs).toArray bx.ty (0, 0)))
    (hx : Ext (fun b => b = bx.id) w w') : Rel E n (withB s (modB s.b k f)) u a w' := by
  obtain ⟨h1, h2⟩ := modB_get s.b k f bx hk
  have hids : (modB s.b k f).map Box.id = s.b.map Box.id := by
    have := congrArg (List.map Prod.fst) h1
    simpa [Function.comp_def] using this
  have hbm : bx ∈ s.b := by rw [nth_get] at hk; exact List.mem_of_getElem? hk
  have hval : ∀ x : PV, x.val (modB s.b k f) s.cs = x.val s.b s.cs := by
    intro x
    cases x <;> simp only [PV.val, bid_modB]
  refine ⟨fun j => ?_, h.size, h.defers, by show ((modB s.b k f).map Box.id).Nodup; rw [hids]; exact h.nodup, ?_, fun j => ?_, ⟨?_, ?_, ?_, ?_⟩⟩
  · rw [h.tmp]
    show (s.t j).val s.b s.cs = (s.t j).val (modB s.b k f) s.cs
    obtain ⟨G, x⟩ := s.t j
    rw [SV.val_w, SV.val_w, hval]
  · intro x hx'
    have : x.id ∈ (modB s.b k f).map Box.id := List.mem_map_of_mem hx'
    rw [hids] at this
    obtain ⟨y, hy, he⟩ := List.mem_map.1 this
    have := h.lt y hy
    omega
  · show (s.t j).ok (modB s.b k f).length s.cs.length
    rw [modB_len]; exact h.wf j
  · intro x hx' hl
    rcases h2 x hx' with rfl | ⟨h3, h4⟩
    · exact hw
    · rcases h4 with h4 | rfl
      · rcases h3 ⟨h4, h.nodup⟩ with h5 | rfl
        · rw [hx.keep _ (Array.getElem?_eq_some_iff.1 (h.at_.box x h4 hl)).1 h5]; exact h.at_.box x h4 hl
        · exact hw
      · exact hw
  · intro x hx'
    have : x.id ∈ (modB s.b k f).map Box.id := List.mem_map_of_mem hx'
    rw [hids] at this
    obtain ⟨y, hy, he⟩ := List.mem_map.1 this
    rw [← he]; exact h.at_.fresh y hy
  · have hmem : ∀ y ∈ s.b, y.live = true → ∃ z ∈ modB s.b k f, z.live = true ∧ z.id = y.id := modB_mem s.b k f
    refine h.at_.ext.trans' hx (fun x hx => ?_) (fun x _ hx => ?_)
    · obtain ⟨y, hy, hl, he⟩ := hx
      obtain ⟨z, hz, hzl, hze⟩ := hmem y hy hl
      exact ⟨z, hz, hzl, hze.trans he⟩
    · subst hx
      exact hmem bx hbm hlv
  · refine h.at_.ext0.trans' hx (fun _ h => h) (fun x hlt hs => ?_)
    subst hs
    have := h.at_.fresh bx hbm
    omega

theorem catParts_length {size : Nat} : ∀ (ps : List (Nat × Operand)) (i : Nat) (l : List Value) (G : List (Nat × Bool)), catParts s G size i ps = some l → l.length = ps.length * size
  | [], _, l, _, h => by simp only [catParts, Option.some.injEq] at h; subst h; simp
  | x :: r, i, l, G, h => by
    simp only [catParts] at h
    split at h
    · cases h
    · split at h
      · cases h
      · rename_i hl
        split at h
        · cases h
        · rename_i q hq
          simp only [Option.some.injEq] at h
          subst h
          have := catParts_length r (i + 1) q G hq
          have hl' := Nat.eq_of_beq_eq_true hl
          rw [List.length_append, hl', this, List.length_cons, Nat.add_mul]; omega

theorem fill_cat {size : Nat} (hs : 0 < size ∨ True) : ∀ (ps : List (Nat × Operand)) (i : Nat) (l : List Value) (G : List (Nat × Bool)) (pre mid : List Value), catParts s G size i ps = some l → pre.length = i * size → mid.length = l.length →
    Instr.fill (fun i => some (i * size, size)) (pre ++ mid).toArray (ps.map fun x => (x.1, s.eg G x.2)) = some (pre ++ l).toArray
  | [], i, l, G, pre, mid, h, hp, hm => by
    simp only [catParts, Option.some.injEq] at h
    subst h
    have : mid = [] := List.eq_nil_of_length_eq_zero (by simpa using hm)
    subst this
    rfl
  | x :: r, i, l, G, pre, mid, h, hp, hm => by
    simp only [catParts] at h
    split at h
    · cases h
    · rename_i hi
      split at h
      · cases h
      · rename_i hl
        split at h
        · cases h
        · rename_i q hq
          simp only [Option.some.injEq] at h
          subst h
          have hl' := Nat.eq_of_beq_eq_true hl
          have hi' := Nat.eq_of_beq_eq_true hi
          have hsz : (s.eg G x.2).cells.size = size := by rw [← hl']; simp
          simp only [List.map_cons, Instr.fill, hi']
          rw [if_neg (by
            simp only [hsz, ne_eq, not_true_eq_false, Bool.or_eq_true, decide_eq_true_eq, decide_false, Bool.false_or, not_or, Nat.not_lt]
            simp only [List.size_toArray, List.length_append] at *
            omega)]
          have hmid : mid = mid.take size ++ mid.drop size := (List.take_append_drop _ _).symm
          have hfs := fill_step size (pre ++ mid).toArray (s.eg G x.2).cells.toList pre (mid.drop size) (mid.take size) (by
            rw [List.length_take, hl']; simp only [List.length_append] at hm; omega) (by rw [List.append_assoc, ← hmid])
          rw [hp] at hfs
          simp only [Array.toArray_toList] at hfs
          rw [hfs]
          have := fill_cat hs r (i + 1) q G (pre ++ (s.eg G x.2).cells.toList) (mid.drop size) hq (by rw [List.length_append, hl', hp, Nat.add_mul]; omega) (by
            simp only [List.length_append, List.length_drop] at *; omega)
          rw [this]
          simp

theorem wp_value {v : Value} {w' : World} {next : Act → World → Prop} (hr : (execOp a.eval o).run C.P w = .ok (.value v) w') (h : next (a.put o.dst v) w') : o.wp C.P a w next Q := by
  unfold Oper.wp; rw [hr]; exact h
theorem wp_skip' {w' : World} {next : Act → World → Prop} (hr : (execOp a.eval o).run C.P w = .ok .skip w') (h : next (a.put o.dst undef) w') : o.wp C.P a w next Q := by
  unfold Oper.wp; rw [hr]; exact h

theorem gen_ok {G : List (Nat × Bool)} (h : genE C E G s u o K) (hr : Rel E n s u a w) (hG : holdB s.cs G = true) (next : Act → World → Prop)
    (hn : ∀ x b' u' w', K x b' u' → Rel E n (withB s b') u' a w' → x.ok b'.length s.cs.length → (E.grow = true → (∀ T a v, o.op ≠ .store T a v) → Ext no w w') → next (a.put o.dst (x.val b' s.cs)) w') : o.wp C.P a w next Q := by
  obtain ⟨h⟩ := h
  obtain ⟨S, nx, v, w', hS, hrun, hcase, hx, b', hb, hK⟩ := h w hr.at_
  have hfin := hn _ b' w' w' hK (hr.event hS.old hx hb) ⟨fun _ hg => absurd hg List.not_mem_nil, trivial⟩ (fun hg _ => hS.grow hg hx)
  rcases hcase with rfl | ⟨rfl, rfl⟩
  · exact wp_value (by rw [hr.evalG hG]; exact hrun) hfin
  · exact wp_skip' (by rw [hr.evalG hG]; exact hrun) hfin

theorem e_ok {G : List (Nat × Bool)} (h : vcE C E G s u o K) (hr : Rel E n s u a w) (hG : holdB s.cs G = true) (next : Act → World → Prop)
    (hn : ∀ x b' u' w', K x b' u' → Rel E n (withB s b') u' a w' → x.ok b'.length s.cs.length → (E.grow = true → (∀ T a v, o.op ≠ .store T a v) → Ext no w w') → next (a.put o.dst (x.val b' s.cs)) w') : o.wp C.P a w next Q := by
  have hev := hr.evalG hG
  have hle : u.heap.size ≤ w.heap.size := hr.at_.ext.size
  unfold vcE at h
  simp only [lenK_eq, egF_eq, frcL_eq, Nat.add_zero] at h
  split at h
  · rename_i T ho
    split at h
    case h_2 => exact h.elim
    rename_i i hi
    obtain ⟨z, hz, hzc⟩ := run_zero hi
    have hrel := hr.box (bx := ⟨w.heap.size, T, i.zero, true⟩) rfl rfl
    have := hn _ _ _ _ (h w.heap.size hle) hrel ⟨fun _ hg => absurd hg List.not_mem_nil, by simp [PV.ok]⟩ (fun _ _ => Ext.alloc _ _)
    refine wp_value (v := .pointer (some ⟨w.heap.size, 0, none⟩)) (w' := w.alloc (.cells i.zero.toArray T)) ?_ ?_
    · simp [execOp, ho, Instr.alloc, hz, newVar, newRow, hzc]
    · have e : (SV0 (.p s.b.length 0)).val (s.b ++ [⟨w.heap.size, T, i.zero, true⟩]) s.cs = .pointer (some ⟨w.heap.size, 0, none⟩) := by simp only [SV0, SV.val, PV.val, bid_last]
      rw [← e]; exact this
  · rename_i T x ho
    have hrel := hr.box (bx := ⟨w.heap.size, T, (s.eg G x).cells.toList, true⟩) rfl rfl
    have := hn _ _ _ _ (h w.heap.size hle) hrel ⟨fun _ hg => absurd hg List.not_mem_nil, by simp [PV.ok]⟩ (fun _ _ => Ext.alloc _ _)
    refine wp_value (v := .pointer (some ⟨w.heap.size, 0, none⟩)) (w' := w.alloc (.cells (s.eg G x).cells.toList.toArray T)) ?_ ?_
    · simp [execOp, ho, Instr.box, newVar, newRow, hev]
    · have e : (SV0 (.p s.b.length 0)).val (s.b ++ [⟨w.heap.size, T, (s.eg G x).cells.toList, true⟩]) s.cs = .pointer (some ⟨w.heap.size, 0, none⟩) := by simp only [SV0, SV.val, PV.val, bid_last]
      rw [← e]; exact this
  · rename_i T m parts ho
    split at h
    case h_2 => exact h.elim
    rename_i i hi
    split at h
    case h_2 => exact h.elim
    rename_i e he
    split at h
    case h_2 => exact h.elim
    rename_i ie hie
    split at h
    case h_2 => exact h.elim
    rename_i hc
    split at h
    case h_2 => exact h.elim
    rename_i cells hcells
    simp only [Bool.and_eq_true] at hc
    have hlen := Nat.eq_of_beq_eq_true hc.1
    have hbd := Nat.le_of_ble_eq_true hc.2
    have hcl := catParts_length _ _ _ _ hcells
    rw [hlen] at hcl
    obtain ⟨d, hd1, hd2, _⟩ := run_und hi
    rw [he] at hd2
    obtain rfl := fits_slice hd2
    obtain ⟨z, hz, hzc⟩ := run_zero hie
    have hrel := hr.box (bx := ⟨w.heap.size, e, cells, true⟩) rfl rfl
    have := hn _ _ _ _ (h w.heap.size hle) hrel ⟨fun _ hg => absurd hg List.not_mem_nil, trivial⟩ (fun _ _ => Ext.alloc _ _)
    refine wp_value (v := .slice (some ⟨w.heap.size, 0, none⟩) m m) (w' := w.alloc (.cells cells.toArray e)) ?_ this
    have hfill : ∀ z : Array Value, Instr.fill (fun i => some (i * ie.size, ie.size)) ((Array.range (m * ie.size)).map (z[· % z.size]!)) (parts.toList.map fun x => (x.1, s.eg G x.2)) = some cells.toArray := by
      intro z
      have := fill_cat (s := s) (.inr trivial) parts.toList 0 cells G [] ((Array.range (m * ie.size)).map (z[· % z.size]!)).toList hcells (by simp) (by simp [hcl])
      rw [List.nil_append, Array.toArray_toList] at this
      exact this
    simp only [execOp, ho, hev, Instr.buildSlice, Sem.run_bind, hd1, Result.andThen_ok, run_size hie]
    rw [if_neg (by omega)]
    have hparts : (parts.map fun x => (x.1, s.eg G x.2)).toList = parts.toList.map fun x => (x.1, s.eg G x.2) := by simp
    by_cases h0 : m * ie.size = 0
    · have h1 := hfill #[]
      rw [h0] at h1
      simp only [h0, if_true, pure_bind, Sem.run_bind, Result.andThen_ok, Sem.run_pure, hparts, h1, newRow]
      rfl
    · simp only [h0, if_false, Sem.run_bind, hz, Result.andThen_ok, Sem.run_pure, hparts, hfill, newRow]
      rfl
  · rename_i T ad x ho
    split at h
    case h_2 => exact h.elim
    rename_i i hi
    have store : ∀ (k off : Nat) (bx : Box), live s.b k = some bx → all1 (s.eg G x).cells.toList = true → (s.eg G x).cells.toList.length = i.size → off + i.size ≤ bx.cs.length → s.eg G ad = .pointer (some ⟨bid s.b k, off, none⟩) →
        K (SV0 (.v undef)) (modB s.b k fun cs => setL cs off (s.eg G x).cells.toList) u → o.wp C.P a w next Q := by
      intro k off bx hk h1 hl hfit hp hK
      obtain ⟨hk, hlv⟩ := live_spec hk
      have hbm : bx ∈ s.b := by rw [nth_get] at hk; exact List.mem_of_getElem? hk
      obtain ⟨w', hrun, hcell, hx, hsz0⟩ := run_storeCells_box (P := C.P) bx.id bx.ty (s.eg G x).cells.toList 0 off bx.cs w (hr.at_.box bx hbm hlv) (by rw [hl]; omega) (all1_spec _ h1)
      have hrel := hr.boxset hk hlv hsz0 (f := fun cs => setL cs off (s.eg G x).cells.toList) hcell hx
      have := hn _ _ _ _ hK hrel ⟨fun _ hg => absurd hg List.not_mem_nil, trivial⟩ (fun _ hs => absurd ho (hs _ _ _))
      refine wp_skip' (w' := w') ?_ this
      have hsz : (s.eg G x).cells.size = i.size := by rw [← hl]; simp
      rw [bid_get _ _ _ hk] at hp
      simp only [execOp, ho, hev, Instr.storeAt, hp, Instr.sureAddr, storeVar, Sem.run_bind, Sem.run_pure, Result.andThen_ok, run_size hi, hsz, ne_eq, not_true_eq_false, if_false]
      simp [hrun]
    split at h
    · rename_i k off hx
      have hp : s.eg G ad = .pointer (some ⟨bid s.b k, off, none⟩) := by unfold St.eg; rw [hx]; rfl
      split at h
      case h_2 => exact h.elim
      rename_i bx hbx
      split at h
      case h_2 => exact h.elim
      rename_i hc
      simp only [Bool.and_eq_true] at hc
      exact store k off bx hbx hc.1.1 (Nat.eq_of_beq_eq_true hc.1.2) (Nat.le_of_ble_eq_true hc.2) hp h
    · rename_i k off hx
      have hp : s.eg G ad = .pointer (some ⟨bid s.b k, off, none⟩) := by unfold St.eg; rw [hx]; rfl
      split at h
      case h_2 => exact h.elim
      rename_i bx hbx
      split at h
      case h_2 => exact h.elim
      rename_i hc
      simp only [Bool.and_eq_true] at hc
      exact store k off bx hbx hc.1 (Nat.eq_of_beq_eq_true hc.2) h.1 hp h.2
    · exact gen_ok h hr hG next hn
  · rename_i c ho
    split at h
    · rename_i f hf
      split at h
      case h_2 => exact h.elim
      rename_i k first caps hfv
      split at h
      case h_2 => exact h.elim
      rename_i hk
      obtain ⟨h⟩ := h
      obtain ⟨S, hS, hc⟩ := h w hr.at_
      obtain ⟨g, hg1, hg2, hg3⟩ := C.fnOk k hk
      have hfv' : s.eg G f = .func (.func k) first caps := eg_v hfv
      have hrun : (execOp a.eval o).run C.P w = .ok (.enter k (first.toList ++ evs s G c.args.toList ++ caps.toList).toArray) w := by
        have e : (first ++ c.args.map (s.eg G) ++ caps) = (first.toList ++ evs s G c.args.toList ++ caps.toList).toArray := by
          apply Array.ext'
          simp [evs]
        simp only [execOp, ho, hev, resolve, hf, hfv', Deferred.ofValue, invoke, callFunc, pure_bind, Sem.run_bind, Sem.run_pure, run_program, Result.andThen_ok, hg1, hg2, hg3, Bool.false_eq_true, if_false, ← e]
      unfold Oper.wp
      rw [hrun]
      refine hc.mono ?_
      rintro e w' ⟨v, b', rfl, hx, hb, hK⟩
      exact hn _ b' w' w' hK (hr.event hS.old hx hb) ⟨fun _ hg => absurd hg List.not_mem_nil, trivial⟩ (fun hg _ => hS.grow hg hx)
    · exact gen_ok h hr hG next hn
  · exact gen_ok h hr hG next hn

/-! ### one operation, many, code -/
theorem not_hold {cs : List Bool} {G : List (Nat × Bool)} (h : holdB cs G = false) : ¬ hold cs G := fun h' => by rw [(hold_iff cs G).1 h'] at h; cases h

/-- under a path: what a guard wants is what the path says -/
theorem g_ok {G : List (Nat × Bool)} {KS : St → World → Prop} (hw : Region.wanted o (yielded ops a.tmps) = holdB s.cs G) (hd : okDst n o.dst = true) (hGn : ∀ g ∈ G, g.1 < s.cs.length)
    (h : vcG C E n o G s u KS) (hr : Rel E n s u a w)
    (next : Act → World → Prop) (hn : ∀ s' u' a' w', KS s' u' → Rel E n s' u' a' w' → (E.grow = true → (∀ T a v, o.op ≠ .store T a v) → Ext no w w') → next a' w') :
    if Region.wanted o (yielded ops a.tmps) = true then o.wp C.P a w next Q else next (a.put o.dst undef) w := by
  rw [hw]
  unfold vcG at h
  simp only [frc_eq, putK_eq, withBK_eq, csK_eq] at h
  split at h
  · rename_i hq
    obtain ⟨x, hR, hok, hrun⟩ := vcQ_ok hq hr.wf h
    have hrel := hr.put hd (x := .w G x) ⟨hGn, hok⟩
    have := hn _ _ _ _ hR hrel (fun _ _ => Ext.refl _ _)
    cases hG : holdB s.cs G
    · rw [if_neg (by simp)]
      rw [SV.val_w, hG] at this
      exact this
    · rw [if_pos rfl]
      rw [SV.val_w, hG] at this
      exact wp_value (by rw [hr.evalG hG]; exact hrun hG w hr.at_) this
  · split at h
    · simp only [holdB, if_true]
      refine e_ok h hr rfl next fun x b' u' w' hK hrel hok hg => ?_
      exact hn _ _ _ _ hK (hrel.put hd hok) hg
    · obtain ⟨h⟩ | ⟨h⟩ := h
      · rename_i hn2
        cases hG : holdB s.cs G
        · rw [if_neg (by simp)]
          exact hn _ _ _ _ (hn2 (not_hold hG)) (hr.put hd (x := SV0 (.v undef)) ⟨fun _ hg => absurd hg List.not_mem_nil, trivial⟩) (fun _ _ => Ext.refl _ _)
        · rw [if_pos rfl]
          have hy := h ((hold_iff _ _).2 hG)
          rw [setG_same _ _ hG] at hy
          refine e_ok (s := s) hy hr hG next fun x b' u' w' hK hrel hok hg => ?_
          exact hn _ _ _ _ hK (hrel.put hd hok) hg
      · split at h
        case h_2 => exact h.elim
        rename_i c ho
        split at h
        case h_2 => exact h.elim
        rename_i f hf
        split at h
        case h_2 => exact h.elim
        rename_i k first caps hfv
        split at h
        case h_2 => exact h.elim
        rename_i hk
        obtain ⟨v, hc, hK⟩ := h
        have evt : ∀ w', Ext no w w' → Rel E n s w' a w' := fun w' hx => hr.event (S := no) (fun _ _ h => h.elim) hx (boxes_same hr hx (fun _ _ _ h => h))
        cases hG : holdB s.cs G
        · rw [if_neg (by simp)]
          have hrel := (evt w (Ext.refl _ _)).put hd (x := .w G (.v v)) ⟨hGn, trivial⟩
          rw [SV.val_w, hG] at hrel
          exact hn _ _ _ _ (hK w hr.at_) hrel (fun _ _ => Ext.refl _ _)
        · rw [if_pos rfl]
          obtain ⟨g, hg1, hg2, hg3⟩ := C.fnOk k hk
          have hev := hr.evalG hG
          have hfv' : s.eg G f = .func (.func k) first caps := eg_v hfv
          have hrun : (execOp a.eval o).run C.P w = .ok (.enter k (first.toList ++ evs s G c.args.toList ++ caps.toList).toArray) w := by
            have e : (first ++ c.args.map (s.eg G) ++ caps) = (first.toList ++ evs s G c.args.toList ++ caps.toList).toArray := by
              apply Array.ext'
              simp [evs]
            simp only [execOp, ho, hev, resolve, hf, hfv', Deferred.ofValue, invoke, callFunc, pure_bind, Sem.run_bind, Sem.run_pure, run_program, Result.andThen_ok, hg1, hg2, hg3, Bool.false_eq_true, if_false, ← e]
          unfold Oper.wp
          rw [hrun]
          refine (hc ((hold_iff _ _).2 hG) w hr.at_).mono ?_
          rintro e w' ⟨rfl, hx⟩
          have hrel := (evt w' hx).put hd (x := .w G (.v v)) ⟨hGn, trivial⟩
          rw [SV.val_w, hG] at hrel
          have hat : At E s u w' := ⟨(evt w' hx).at_.box, (evt w' hx).at_.fresh, hr.at_.ext.trans hx.of_no, (evt w' hx).at_.ext0⟩
          exact hn _ _ _ _ (hK w' hat) hrel (fun _ _ => hx)

theorem holdB_append (cs : List Bool) : ∀ (G : List (Nat × Bool)) (g : Nat × Bool), holdB cs (G ++ [g]) = (holdB cs G && (cnd cs g.1 == g.2))
  | [], g => by simp [holdB]
  | x :: r, g => by simp only [List.cons_append, holdB, holdB_append cs r g, Bool.and_assoc]

/-! ### a region that draws its order -/
section
variable {P : Program} {m : Nat}
def Closed (ops : Array Oper) (l : Array Bool) : Prop := ∀ j o, ops[j]? = some o → l.getD j false = true → ∀ e ∈ o.after, Region.binds .any e = true → l.getD e.on false = true
inductive Anc (ops : Array Oper) : Nat → Nat → Prop
  | edge {j : Nat} {o : Oper} {e : Edge} (h : ops[j]? = some o) (he : e ∈ o.after) (hb : Region.binds .any e = true) : Anc ops j e.on
  | step {j i : Nat} {o : Oper} {e : Edge} (h : ops[j]? = some o) (he : e ∈ o.after) (hb : Region.binds .any e = true) (h2 : Anc ops e.on i) : Anc ops j i
theorem Anc.of_listed {l : Array Bool} (hc : Closed ops l) {j i : Nat} (h : Anc ops j i) : l.getD j false = true → l.getD i false = true := by
  induction h with
  | edge h he hb => exact fun hj => hc _ _ h hj _ he hb
  | step h he hb _ ih => exact fun hj => ih (hc _ _ h hj _ he hb)
theorem Anc.of_ready {l : Array Bool} (hc : Closed ops l) {j i : Nat} (h : Anc ops j i) (hr : j ∈ Region.ready .any ops l) : l.getD i false = true := by
  obtain ⟨_, o, ho, hall⟩ := mem_ready.1 hr
  cases h with
  | edge h he hb => rw [h] at ho; injection ho with ho; subst ho; exact hall _ he hb
  | step h he hb h2 => rw [h] at ho; injection ho with ho; subst ho; exact h2.of_listed hc (hall _ he hb)
theorem Closed.set {l : Array Bool} (hc : Closed ops l) {j : Nat} (hr : j ∈ Region.ready .any ops l) : Closed ops (l.setIfInBounds j true) := by
  intro k o hk hl e he hb
  by_cases hkj : j = k
  · subst hkj
    obtain ⟨_, o', ho', hall⟩ := mem_ready.1 hr
    rw [hk] at ho'; injection ho' with ho'; subst ho'
    exact getD_set_true (hall e he hb)
  · rw [getD_set_ne false hkj] at hl
    exact getD_set_true (hc k o hk hl e he hb)

def wpAnyG (P : Program) (ops : Array Oper) (Q : Exit → Act → World → Prop) (m : Nat) : Nat → Array Bool → Act → World → Prop
  | 0, l, a, w => Region.ready .any ops l = [] ∧ Q .normal a w
  | f + 1, l, a, w => (Region.ready .any ops l = [] → Q .normal a w) ∧ ∀ i ∈ Region.ready .any ops l, wpOp P ops Q i (fun a' w' => (i < m → Ext no w w') ∧ wpAnyG P ops Q m f (l.setIfInBounds i true) a' w') a w
theorem wpAny_of_G : ∀ (f : Nat) (l : Array Bool) (a : Act) (w : World), wpAnyG P ops Q m f l a w → wpAny P .any ops Q f l a w
  | 0, _, _, _, h => h
  | f + 1, _, _, _, h => ⟨h.1, fun i hi => wpOp_mono (fun a' w' h' => wpAny_of_G f _ a' w' h'.2) (h.2 i hi)⟩

theorem wpAnyG_first {i : Nat} {oi : Oper} {v : Value} (hi : ops[i]? = some oi) (hsel : ∀ (j : Nat) (o : Oper) cs b, ops[j]? = some o → o.op ≠ .select cs b)
    (hQ : ∀ c a w, Q (.panic c) (a.put oi.dst v) w → Q (.panic c) a w) (him : i < m) (hlate : ∀ j, m ≤ j → j < ops.size → Anc ops j i) :
    ∀ (f : Nat) (l : Array Bool) (a : Act) (w : World), Closed ops l →
      (∀ j oj, ops[j]? = some oj → j ≠ i → l.getD j true = false → (∀ e ∈ oj.after, Region.binds .any e = true → e.on ≠ i) → oi.apart ops oj = true) →
      i ∈ Region.ready .any ops l → YieldsIf P ops (Ext no w) oi v a → wpAnyG P ops Q m f (l.setIfInBounds i true) (a.put oi.dst v) w → wpAnyG P ops Q m (f + 1) l a w := by
  intro f
  induction f with
  | zero =>
    intro l a w hc _ hr hy H
    refine ⟨fun h => (by rw [h] at hr; cases hr), fun j hj => ?_⟩
    by_cases hji : j = i
    · subst hji; exact hy.wpOp hi (Ext.refl _ _) ⟨fun _ => Ext.refl _ _, H⟩
    · have := ready_mono hj hji
      rw [H.1] at this
      cases this
  | succ f ih =>
    intro l a w hc hfree hr hy H
    refine ⟨fun h => (by rw [h] at hr; cases hr), fun j hj => ?_⟩
    by_cases hji : j = i
    · subst hji; exact hy.wpOp hi (Ext.refl _ _) ⟨fun _ => Ext.refl _ _, H⟩
    · obtain ⟨hjun, oj, hoj, hall⟩ := mem_ready.1 hj
      have hiun := (mem_ready.1 hr).1
      have hiun' : l.getD i false = false := by
        rcases Nat.lt_or_ge i l.size with h' | h'
        · simp [h'] at hiun ⊢; exact hiun
        · simp [Array.getElem?_eq_none h']
      have hjm : j < m := by
        rcases Nat.lt_or_ge j m with h | h
        · exact h
        · have := (hlate j h (Array.getElem?_eq_some_iff.1 hoj).1).of_ready hc hj
          rw [hiun'] at this; cases this
      have h1 := H.2 j (ready_mono hj hji)
      have hnot : ∀ e ∈ oj.after, Region.binds .any e = true → e.on ≠ i := fun e he hb heq => by
        have h1 := hall e he hb
        rw [heq, hiun'] at h1
        cases h1
      have h2 := wpOp_putIf hoj (hfree j oj hoj hji hjun hnot) (fun cs b => hsel i oi cs b hi) (fun cs b => hsel j oj cs b hoj) hQ hy h1
      have hfree' : ∀ k ok, ops[k]? = some ok → k ≠ i → (l.setIfInBounds j true).getD k true = false → (∀ e ∈ ok.after, Region.binds .any e = true → e.on ≠ i) → oi.apart ops ok = true := fun k ok hk hki hun hno => by
        refine hfree k ok hk hki ?_ hno
        by_cases hjk : j = k
        · subst hjk; exact hjun
        · rw [getD_set_ne true hjk] at hun; exact hun
      refine wpOp_mono (fun a' w' h3 => ?_) h2
      have hx := h3.2.1 hjm
      refine ⟨fun _ => hx, ih (l.setIfInBounds j true) a' w' (hc.set hj) hfree' (ready_mono hr (Ne.symm hji)) ?_ ?_⟩
      · rcases h3.1 with ⟨hw, hv⟩ | hn
        · exact .inl ⟨hw, fun w'' hx' => hv w'' (hx.trans hx')⟩
        · exact .inr hn
      · rw [Array.setIfInBounds_comm _ _ hji]
        exact h3.2.2

theorem ancOk_spec {A : List (List Nat)} (h : ancOk ops m A = true) : ∀ j, m ≤ j → j < ops.size → ∀ i, i < m → Anc ops j i := by
  unfold ancOk at h
  simp only [Bool.and_eq_true] at h
  obtain ⟨⟨hlen, h1⟩, h2⟩ := h
  have hlen := Nat.eq_of_beq_eq_true hlen
  rw [List.all_eq_true] at h1 h2
  have key : ∀ j, j < ops.size → ∀ l, A[j]? = some l → ∀ i ∈ l, Anc ops j i := by
    intro j
    induction j using Nat.strongRecOn with
    | _ j ih =>
      intro hj l hl i hi
      have h3 := h1 j (List.mem_range.2 hj)
      have hoj : ops[j]? = some ops[j] := Array.getElem?_eq_getElem hj
      rw [hoj, hl] at h3
      simp only at h3
      rw [List.all_eq_true] at h3
      have h4 := h3 i hi
      rw [Array.any_eq_true'] at h4
      obtain ⟨e, he, hb⟩ := h4
      simp only [Bool.and_eq_true, Bool.or_eq_true, beq_iff_eq] at hb
      rcases hb.2 with rfl | hb2
      · exact .edge hoj he hb.1
      · split at hb2
        · rename_i l' hl'
          simp only [Bool.and_eq_true] at hb2
          have hlt : e.on < j := Nat.blt_eq.mp hb2.1
          exact .step hoj he hb.1 (ih e.on hlt (by omega) l' hl' i (by simpa using hb2.2))
        · cases hb2
  intro j hm hj i hi
  have h3 := h2 j (List.mem_range.2 hj)
  rw [Bool.or_eq_true] at h3
  rcases h3 with h3 | h3
  · have h5 : j < m := Nat.blt_eq.mp h3
    omega
  · have hl : A[j]? = some (A[j]'(by omega)) := List.getElem?_eq_getElem (by omega)
    rw [hl] at h3
    simp only at h3
    rw [List.all_eq_true] at h3
    exact key j hj _ hl i (by simpa using h3 i (List.mem_range.2 hi))
end

theorem Rel.env (h : Rel E n s u a w) (g : Bool) : Rel ⟨E.w0, E.S0, g⟩ n s u a w := ⟨h.tmp, h.size, h.defers, h.nodup, h.lt, h.wf, ⟨h.at_.box, h.at_.fresh, h.at_.ext, h.at_.ext0⟩⟩
theorem Rel.env' {g : Bool} (h : Rel ⟨E.w0, E.S0, g⟩ n s u a w) : Rel E n s u a w := ⟨h.tmp, h.size, h.defers, h.nodup, h.lt, h.wf, ⟨h.at_.box, h.at_.fresh, h.at_.ext, h.at_.ext0⟩⟩

/-- what only looks gives its value in every later world -/
theorem gq_ok {G : List (Nat × Bool)} {KS : St → World → Prop} (hq : isQ C o.op = true) (hw : Region.wanted o (yielded ops a.tmps) = holdB s.cs G) (hd : okDst n o.dst = true) (hGn : ∀ g ∈ G, g.1 < s.cs.length)
    (h : vcG C E n o G s u KS) (hr : Rel E n s u a w) : ∃ s' v, KS s' u ∧ Rel E n s' u (a.put o.dst v) w ∧ YieldsIf C.P ops (Ext no w) o v a := by
  unfold vcG at h
  simp only [frc_eq, putK_eq, withBK_eq, csK_eq] at h
  rw [hq] at h
  obtain ⟨x, hR, hok, hrun⟩ := vcQ_ok hq hr.wf h
  have hrel := hr.put hd (x := .w G x) ⟨hGn, hok⟩
  refine ⟨_, _, hR, hrel, ?_⟩
  rw [SV.val_w]
  cases hG : holdB s.cs G
  · exact .inr ⟨by rw [hw, hG], rfl⟩
  · refine .inl ⟨by rw [hw, hG], fun w' hx => ?_⟩
    rw [hr.evalG hG]
    refine hrun hG w' ⟨fun bx hm hl => ?_, hr.at_.fresh, hr.at_.ext.trans hx.of_no, hr.at_.ext0.trans hx.of_no⟩
    rw [hx.keep _ (hr.lt bx hm) (fun h => h)]
    exact hr.at_.box bx hm hl

/-- the guard of an operation, and the state behind it -/
theorem guard_ok {KS : St → World → Prop} (h : vcOp C E n ops.toList o s u KS) (hr : Rel E n s u a w) : okDst n o.dst = true ∧ ∃ G s', (∀ g ∈ G, g.1 < s'.cs.length) ∧ Region.wanted o (yielded ops a.tmps) = holdB s'.cs G ∧ vcG C E n o G s' u KS ∧ Rel E n s' u a w := by
  unfold vcOp at h
  rw [frcS_eq] at h
  simp only [lenK_eq, Nat.add_zero, frcG_eq, addC_eq] at h
  split at h
  · exact h.elim
  rename_i hd
  refine ⟨hd, ?_⟩
  split at h
  · rename_i hg
    exact ⟨[], s, fun _ hg => absurd hg List.not_mem_nil, by simp [Region.wanted, hg, holdB], h, hr⟩
  · rename_i gd hg
    split at h
    · exact h.elim
    rename_i og hog
    split at h
    · exact h.elim
    rename_i d hdst
    rw [nth_get, Array.getElem?_toList] at hog
    -- what the guard's slot says
    have want : ∀ (G : List (Nat × Bool)) (c : Bool), (s.t d).val s.b s.cs = (bif holdB s.cs G then .bool c else undef) → Region.wanted o (yielded ops a.tmps) = (holdB s.cs G && (c == gd.2)) := by
      intro G c hv
      have h1 := hr.tmp d
      rw [hv] at h1
      have hy : yielded ops a.tmps gd.1 = match a.tmps[d]? with | some (.bool b) => some b | _ => none := by
        simp only [yielded, hog, Option.bind_some, hdst]
        cases a.tmps[d]? with
        | none => rfl
        | some v => cases v <;> rfl
      simp only [Region.wanted, hg, hy]
      rw [Array.getD_eq_getD_getElem?] at h1
      cases hG : holdB s.cs G
      · rw [hG] at h1
        simp only [cond_false] at h1
        cases ht : a.tmps[d]? with
        | none => simp
        | some v => rw [ht] at h1; simp only [Option.getD_some] at h1; subst h1; simp [undef]
      · rw [hG] at h1
        simp only [cond_true] at h1
        cases ht : a.tmps[d]? with
        | none => rw [ht] at h1; simp [undef] at h1
        | some v => rw [ht] at h1; simp only [Option.getD_some] at h1; subst h1; cases c <;> cases gd.2 <;> simp
    have hwfd := hr.wf d
    split at h
    · rename_i G k ht
      rw [ht] at hwfd
      have hw := want G (cnd s.cs k) (by rw [ht, SV.val_w]; rfl)
      refine ⟨G ++ [(k, gd.2)], s, ?_, by rw [hw, holdB_append], h, hr⟩
      intro g hg'
      rcases List.mem_append.1 hg' with hg' | hg'
      · exact hwfd.1 g hg'
      · rw [List.mem_singleton.1 hg']; exact hwfd.2
    · rename_i G c ht
      rw [ht] at hwfd
      have hw := want G c (by rw [ht, SV.val_w]; rfl)
      have hG' : holdB (s.cs ++ [c]) G = holdB s.cs G := holdB_ext hwfd.1
      have hr' : Rel E n { t := upd s.t d (.w G (.c s.cs.length)), b := s.b, cs := s.cs ++ [c] } u a w := by
        have h0 := hr.more (b := []) (cs := [c]) (w' := w) (by rw [List.append_nil]; exact hr.nodup) (by rw [List.append_nil]; exact hr.lt) (by rw [List.append_nil]; exact ⟨hr.at_.box, hr.at_.fresh, hr.at_.ext, hr.at_.ext0⟩)
        rw [List.append_nil] at h0
        refine ⟨fun j => ?_, h0.size, h0.defers, h0.nodup, h0.lt, fun j => ?_, ⟨hr.at_.box, hr.at_.fresh, hr.at_.ext, hr.at_.ext0⟩⟩
        · rw [h0.tmp]
          show (s.t j).val s.b (s.cs ++ [c]) = (cond (Nat.beq j d) (SV.w G (.c s.cs.length)) (s.t j)).val s.b (s.cs ++ [c])
          cases hj : Nat.beq j d
          · rfl
          · obtain rfl := Nat.eq_of_beq_eq_true hj
            rw [ht, cond_true, SV.val_w, SV.val_w]
            simp only [PV.val, cnd_last]
        · show (cond (Nat.beq j d) (SV.w G (.c s.cs.length)) (s.t j)).ok s.b.length (s.cs ++ [c]).length
          cases hj : Nat.beq j d
          · exact h0.wf j
          · exact ⟨fun g hg => by have := hwfd.1 g hg; simp; omega, by simp [PV.ok]⟩
      refine ⟨G ++ [(s.cs.length, gd.2)], _, ?_, ?_, h, hr'⟩
      rotate_left
      · rw [hw, holdB_append]
        simp only [hG', cnd_last]
      · intro g hg'
        rcases List.mem_append.1 hg' with hg' | hg'
        · have := hwfd.1 g hg'; simp; omega
        · rw [List.mem_singleton.1 hg']; simp
    · exact h.elim


theorem op_ok {KS : St → World → Prop} (h : vcOp C E n ops.toList o s u KS) (hr : Rel E n s u a w) (next : Act → World → Prop) (hn : ∀ s' u' a' w', KS s' u' → Rel E n s' u' a' w' → (E.grow = true → (∀ T a v, o.op ≠ .store T a v) → Ext no w w') → next a' w') :
    if Region.wanted o (yielded ops a.tmps) = true then o.wp C.P a w next Q else next (a.put o.dst undef) w := by
  obtain ⟨hd, G, s', hGn, hw, hv, hr'⟩ := guard_ok h hr
  exact g_ok hw hd hGn hv hr' next hn

theorem opFree_spec {m i : Nat} (h : opFree ops m i = true) (ho : ops[i]? = some o) : i < m → ∀ T a v, o.op ≠ .store T a v := by
  intro him T x y hst
  unfold opFree at h
  rw [ho] at h
  simp only [hst, Nat.blt_eq.mpr him] at h
  cases h
theorem plan_ok {m : Nat} {K : St → World → Prop} (hs : Region.noSelect ops = true) (hlate : ∀ j, m ≤ j → j < ops.size → ∀ i, i < m → Anc ops j i) (hQ : ∀ c a w, ¬ Q (.panic c) a w)
    (hn : ∀ s' u' a' w', K s' u' → Rel E n s' u' a' w' → Q .normal a' w') : ∀ (plan : Plan) (f : Nat) (l : Array Bool) (s : St) (u : World) (a : Act) (w : World), planOk C ops m plan f l = true → Closed ops l →
    vcPlan C E n ops.toList m plan s u K → Rel E n s u a w →
    (plan.isAlt = false → wpAnyG C.P ops Q m f l a w) ∧ (∀ g, f = g + 1 → ∀ i ∈ plan.heads, i ∈ Region.ready .any ops l → wpOp C.P ops Q i (fun a' w' => (i < m → Ext no w w') ∧ wpAnyG C.P ops Q m g (l.setIfInBounds i true) a' w') a w)
  | .nil, f, l, s, u, a, w, hp, _, h, hr => by
    simp only [planOk, Bool.and_eq_true, List.isEmpty_iff] at hp
    obtain ⟨h0, hp⟩ := hp
    obtain rfl := Nat.eq_of_beq_eq_true h0
    exact ⟨fun _ => ⟨hp, hn _ _ _ _ h hr⟩, fun _ _ i hi => absurd hi List.not_mem_nil⟩
  | .stop, f, l, s, u, a, w, hp, _, h, hr => ⟨fun h => (by simp [Plan.isAlt] at h), fun _ _ i hi => absurd hi List.not_mem_nil⟩
  | .one i r, f, l, s, u, a, w, hp, hc, h, hr => by
    refine ⟨fun _ => ?_, fun _ _ i hi => absurd hi List.not_mem_nil⟩
    simp only [planOk] at hp
    split at hp
    · cases hp
    rename_i f
    simp only [Bool.and_eq_true] at hp
    obtain ⟨hp1, hA, hp2⟩ := hp
    replace hA : r.isAlt = false := by simpa using hA
    replace h : (match nth ops.toList i with | none => False | some o => vcOp C ⟨E.w0, E.S0, Nat.blt i m⟩ n ops.toList o s u fun s' u' => vcPlan C E n ops.toList m r s' u' K) := h
    split at h
    · exact h.elim
    rename_i o ho
    rw [nth_get, Array.getElem?_toList] at ho
    rw [ho] at hp1
    simp only at hp1
    split at hp1
    · rename_i hq
      simp only [Bool.and_eq_true] at hq hp1
      have him : i < m := Nat.blt_eq.mp hq.1
      obtain ⟨hd, G, s', hGn, hw, hv, hr'⟩ := guard_ok h (hr.env _)
      obtain ⟨s2, v, hK, hr2, hy⟩ := gq_ok hq.2 hw hd hGn hv hr'
      have hready : i ∈ Region.ready .any ops l := by simpa using hp1.2
      have ih := plan_ok hs hlate hQ hn r f (l.setIfInBounds i true) s2 u _ w hp2 (hc.set hready) hK hr2.env'
      have ih' : wpAnyG C.P ops Q m f (l.setIfInBounds i true) (a.put o.dst v) w := ih.1 hA
      exact wpAnyG_first ho (Region.noSelect_spec hs) (fun c a w h => absurd h (hQ c _ w)) him (fun j hm hj => hlate j hm hj i him) f l a w hc (Region.free_spec ho hp1.1) hready hy ih'
    · simp only [Bool.and_eq_true, beq_iff_eq] at hp1
      have hready := hp1.1
      refine ⟨fun h0 => absurd (hready ▸ h0) (by simp), fun j hj => ?_⟩
      rw [hready, List.mem_singleton] at hj
      subst hj
      unfold wpOp
      simp only [ho]
      have hop := op_ok (Q := Q) h (hr.env _) (fun a' w' => (j < m → Ext no w w') ∧ wpAnyG C.P ops Q m f (l.setIfInBounds j true) a' w') fun s' u' a' w' hK hr' hg => by
        refine ⟨fun hjm => hg (Nat.blt_eq.mpr hjm) (opFree_spec hp1.2 ho hjm), ?_⟩
        exact (plan_ok hs hlate hQ hn r f _ s' u' a' w' hp2 (hc.set (by rw [hready]; simp)) hK hr'.env').1 hA
      split at hop
      · rename_i hwt; rw [if_pos hwt]; exact .inl hop
      · rename_i hwt; rw [if_neg hwt]; exact hop
  | .alt i r rest, f, l, s, u, a, w, hp, hc, h, hr => by
    refine ⟨fun h => (by simp [Plan.isAlt] at h), fun g hg j hj hjr => ?_⟩
    subst hg
    simp only [planOk, Bool.and_eq_true] at hp
    obtain ⟨⟨⟨hp0, hA⟩, hp2⟩, hp3⟩ := hp
    replace hA : r.isAlt = false := by simpa using hA
    replace h : (match nth ops.toList i with | none => False | some o => vcOp C ⟨E.w0, E.S0, Nat.blt i m⟩ n ops.toList o s u fun s' u' => vcPlan C E n ops.toList m r s' u' K) ∧ vcPlan C E n ops.toList m rest s u K := h
    obtain ⟨h, h'⟩ := h
    rcases List.mem_cons.1 hj with rfl | hj
    · split at h
      · exact h.elim
      rename_i o ho
      rw [nth_get, Array.getElem?_toList] at ho
      unfold wpOp
      simp only [ho]
      have hop := op_ok (Q := Q) h (hr.env _) (fun a' w' => (j < m → Ext no w w') ∧ wpAnyG C.P ops Q m g (l.setIfInBounds j true) a' w') fun s' u' a' w' hK hr' hg => by
        refine ⟨fun hjm => hg (Nat.blt_eq.mpr hjm) (opFree_spec hp0 ho hjm), ?_⟩
        exact (plan_ok hs hlate hQ hn r g _ s' u' a' w' hp2 (hc.set hjr) hK hr'.env').1 hA
      split at hop
      · rename_i hwt; rw [if_pos hwt]; exact .inl hop
      · rename_i hwt; rw [if_neg hwt]; exact hop
    · exact (plan_ok hs hlate hQ hn rest (g + 1) l s u a w hp3 hc h' hr).2 g rfl j hj hjr
  | .fork p, f, l, s, u, a, w, hp, hc, h, hr => by
    refine ⟨fun _ => ?_, fun _ _ i hi => absurd hi List.not_mem_nil⟩
    cases p with
    | alt i0 r rest =>
      simp only [planOk, Bool.and_eq_true, beq_iff_eq, true_and] at hp
      obtain ⟨hp1, hp2⟩ := hp
      have ih := (plan_ok hs hlate hQ hn (.alt i0 r rest) f l s u a w (by simp only [planOk, Bool.and_eq_true]; exact hp2) hc h hr).2
      cases f with
      | zero => simp at hp2
      | succ g =>
        refine ⟨fun h0 => ?_, fun i hi => ih g rfl i (hp1 ▸ hi) hi⟩
        rw [h0] at hp1
        simp [Plan.heads] at hp1
    | _ => simp [planOk] at hp

theorem updL_val (b : List Box) (s2 : St) (g : Nat → Value) (hg : ∀ k, g k = (s2.t k).val s2.b s2.cs) : ∀ (l : List (Nat × PV)), slotsOK b s2 l → ∀ k, ((updL (fun k => SV0 (.v (g k))) l) k).val b [] = (s2.t k).val s2.b s2.cs
  | [], _, k => hg k
  | [x], h, k => by
    simp only [updL, upd]
    cases hk : Nat.beq k x.1
    · exact hg k
    · rw [Nat.eq_of_beq_eq_true hk]; exact h.symm
  | x :: y :: r, h, k => by
    have ih := updL_val b s2 g hg (y :: r) h.2 k
    simp only [updL, upd] at *
    cases hk : Nat.beq k x.1
    · exact ih
    · rw [Nat.eq_of_beq_eq_true hk]; exact h.1.symm
theorem updL_ok (nb : Nat) (g : Nat → Value) : ∀ (l : List (Nat × PV)), slWf nb l = true → ∀ k, ((updL (fun k => SV0 (.v (g k))) l) k).ok nb 0
  | [], _, k => ⟨fun _ h => absurd h List.not_mem_nil, trivial⟩
  | x :: r, h, k => by
    simp only [slWf, Bool.and_eq_true] at h
    have ih := updL_ok nb g r h.2 k
    simp only [updL, upd]
    cases hk : Nat.beq k x.1
    · exact ih
    · refine ⟨fun _ h => absurd h List.not_mem_nil, ?_⟩
      obtain ⟨h1, _⟩ := h
      cases hx : x.2 <;> rw [hx] at h1
      · trivial
      · exact Nat.blt_eq.mp h1
      · exact Nat.blt_eq.mp h1
      · cases h1
/-- from where ways meet on -/
theorem Rel.weak {s' : St} (hr : Rel E n s u a w) (hv : ∀ k, (s'.t k).val s'.b s'.cs = (s.t k).val s.b s.cs) (hp : s'.b <+: s.b) (hwf : s'.wf) : Rel E n s' w a w := by
  obtain ⟨more, hp⟩ := hp
  have hsub : ∀ bx ∈ s'.b, bx ∈ s.b := fun bx hm => by rw [← hp]; exact List.mem_append_left _ hm
  refine ⟨fun k => (hr.tmp k).trans (hv k).symm, hr.size, hr.defers, ?_, fun bx hm => hr.lt bx (hsub bx hm), hwf, ⟨fun bx hm => hr.at_.box bx (hsub bx hm), fun bx hm => hr.at_.fresh bx (hsub bx hm), Ext.refl _ _, hr.at_.ext0⟩⟩
  have := hr.nodup
  rw [← hp, List.map_append] at this
  exact (List.nodup_append.1 this).1
theorem cut_ok {γ : Type} {sl : γ → List (Nat × PV)} {bx : γ → List Box} {I : γ → World → Prop} (hwf : ∀ x, slWf (bx x).length (sl x) = true) (h : Cut E sl bx I s u) (hr : Rel E n s u a w) :
    ∃ x, ∃ g : Nat → Value, I x w ∧ Rel E n ⟨updL (fun k => SV0 (.v (g k))) (sl x), bx x, []⟩ w a w := by
  obtain ⟨x, h1, h2, h3⟩ := h w hr.at_
  exact ⟨x, fun k => (s.t k).val s.b s.cs, h3, hr.weak (updL_val _ _ _ (fun _ => rfl) _ h1) h2 (updL_ok _ _ _ (hwf x))⟩
theorem draw_ok' {K : St → World → Prop} {m : Nat} {A : List (List Nat)} {plan : Plan} (h1 : Region.noSelect ops = true) (h2 : ancOk ops m A = true) (h3 : planTop C ops m plan = true)
    (h4 : vcPlan C E n ops.toList m plan s u K) (hr : Rel E n s u a w) (hQ : ∀ c a w, ¬ Q (.panic c) a w) (hn : ∀ s' u' a' w', K s' u' → Rel E n s' u' a' w' → Q .normal a' w') :
    wpAny C.P .any ops Q ops.size (Array.replicate ops.size false) a { w with drawn := w.drawn + 1 } := by
  refine wpAny_of_G (m := m) _ _ _ _ ?_
  simp only [planTop, Bool.and_eq_true] at h3
  obtain ⟨hA, h3⟩ := h3
  have hr' : Rel E n s u a { w with drawn := w.drawn + 1 } := ⟨hr.tmp, hr.size, hr.defers, hr.nodup, hr.lt, hr.wf, ⟨hr.at_.box, hr.at_.fresh, hr.at_.ext.trans (Ext.drew w).of_no, hr.at_.ext0.trans (Ext.drew w).of_no⟩⟩
  refine (plan_ok h1 (ancOk_spec h2) hQ hn plan ops.size (Array.replicate ops.size false) s u a _ h3 (by
    intro j o hj hl
    rcases Nat.lt_or_ge j ops.size with h | h
    · simp [h] at hl
    · simp [h] at hl) h4 hr').1 (by simpa using hA)
theorem draw_ok {K : St → World → Prop} (h : DrawP C E n ops s u K) (hr : Rel E n s u a w) (hQ : ∀ c a w, ¬ Q (.panic c) a w) (hn : ∀ s' u' a' w', K s' u' → Rel E n s' u' a' w' → Q .normal a' w') :
    wpAny C.P .any ops Q ops.size (Array.replicate ops.size false) a { w with drawn := w.drawn + 1 } := by
  cases h with
  | mk m A plan h1 h2 h3 h4 => exact draw_ok' h1 h2 h3 h4 hr hQ hn
  | join γ sl bx I hwf m A plan h1 h2 h3 h4 k =>
    refine draw_ok' h1 h2 h3 h4 hr hQ fun s' u' a' w' hc hr' => ?_
    obtain ⟨x, g, hI, hr2⟩ := cut_ok hwf hc hr'
    exact hn _ _ _ _ (k x g w' hI) hr2

theorem ops_ok : ∀ (l : List Oper) (s : St) (u : World) (a : Act) (w : World) (KS : St → World → Prop), vcOps C E n ops.toList l s u KS → Rel E n s u a w →
    (∀ s' u' a' w', KS s' u' → Rel E n s' u' a' w' → Q .normal a' w') → wpList C.P ops Q l a w
  | [], s, u, a, w, KS, h, hr, hn => wpList_nil (hn _ _ _ _ h hr)
  | o :: r, s, u, a, w, KS, h, hr, hn => by
    refine wpList_step fun K hK => ?_
    exact op_ok h hr K fun s' u' a' w' hv hr' _ => hK _ _ (ops_ok r s' u' a' w' KS hv hr' hn)

theorem wp_loop_rel {P : Program} {c : Code} {Q : Exit → Act → World → Prop} {a : Act} {w : World} {I : Nat → Act → World → Prop} {m : Nat} (h0 : I m a w)
    (round : ∀ m a w, I m a w → c.wp P (Exit.then (fun a' w' => ∃ m', m' < m ∧ I m' a' w') Q) a w) : (Code.loop c).wp P Q a w := by
  intro b k cs
  have key : ∀ n, ∀ m, m ≤ n → ∀ a w, I m a w → ∃ e a' w', Q e a' w' ∧ Arrives P (lone (b.at a (.code c :: .inLoop c :: k)) cs w) b k cs e a' w' := by
    intro n
    induction n with
    | zero =>
      intro m hm a w hI
      obtain ⟨e, a1, w1, hq, harr⟩ := round m a w hI b (.inLoop c :: k) cs
      cases e with
      | normal => obtain ⟨m', hlt, _⟩ := hq; omega
      | _ => exact ⟨_, a1, w1, hq, .pass (x := .inLoop c) rfl (fun _ _ => .inl (by simp)) harr⟩
    | succ n ih =>
      intro m hm a w hI
      obtain ⟨e, a1, w1, hq, harr⟩ := round m a w hI b (.inLoop c :: k) cs
      cases e with
      | normal =>
        obtain ⟨m', hlt, hI1⟩ := hq
        obtain ⟨e2, a2, w2, hq2, harr2⟩ := ih m' (by omega) a1 w1 hI1
        exact ⟨e2, a2, w2, hq2, .of_steps (Steps.trans harr (.one step_inLoop)) harr2⟩
      | _ => exact ⟨_, a1, w1, hq, .pass (x := .inLoop c) rfl (fun _ _ => .inl (by simp)) harr⟩
  obtain ⟨e, a', w', hq, harr⟩ := key m m (Nat.le_refl _) a w h0
  exact ⟨e, a', w', hq, .of_steps (.one step_loop) harr⟩

/-- what is left of a run: the three ways out -/
def Out (E : Env) (n : Nat) (N : KT) (X : Nat → KT) (R : KT) : Exit → Act → World → Prop
  | .normal, a, w => ∃ s u, N s u ∧ Rel E n s u a w
  | .exit id, a, w => ∃ s u, X id s u ∧ Rel E n s u a w
  | .ret, a, w => ∃ s u, R s u ∧ Rel E n s u a w
  | _, _, _ => False

theorem vc_ok : ∀ (c : Code) (N : KT) (X : Nat → KT) (R : KT) (s : St) (u : World) (a : Act) (w : World), vc C E n c N X R s u → Rel E n s u a w → c.wp C.P (Out E n N X R) a w := by
  intro c
  induction c with
  | skip => intro N X R s u a w h hr; exact wp_skip ⟨s, u, h, hr⟩
  | region id ops d =>
    intro N X R s u a w h hr
    cases d with
    | false =>
      rw [vc_list] at h
      refine wp_region_list (ops_ok _ _ _ _ _ N h hr fun s' u' a' w' hv hr' => ⟨s', u', hv, hr'⟩)
    | true =>
      rw [vc_draw] at h
      exact wp_region_any C.mix (draw_ok h hr (fun _ _ _ h => h) fun s' u' a' w' hv hr' => ⟨s', u', hv, hr'⟩)
  | seq x y ihx ihy =>
    intro N X R s u a w h hr
    rw [vc_seq] at h
    refine wp_seq (Code.wp_mono (fun e a' w' ho => ?_) (ihx _ _ _ _ _ _ _ h hr))
    cases e with
    | normal => obtain ⟨s', u', hv, hr'⟩ := ho; exact ihy _ _ _ _ _ _ _ hv hr'
    | exit id => exact ho
    | ret => exact ho
    | goto l => exact ho
    | panic c => exact ho
    | outgrown => exact ho
  | cond x p q ihp ihq =>
    intro N X R s u a w h hr
    simp only [vc_cond] at h
    have hx : a.eval x = s.eg [] x := congrFun (hr.evalG (G := []) rfl) x
    have go : ∀ t : Bool, s.eg [] x = .bool t → IfP E t (fun N' => vc C E n p N' X R s u) (fun N' => vc C E n q N' X R s u) N → (Code.cond x p q).wp C.P (Out E n N X R) a w := by
      rintro t ht (h | ⟨γ, sl, bx, I, hwf, h, k⟩)
      · refine wp_cond_split (t := t) (hx.trans ht) (fun ht => ihp _ _ _ _ _ _ _ (h.1 ht) hr) (fun ht => ihq _ _ _ _ _ _ _ (h.2 ht) hr)
      · have go : ∀ e a' w', Out E n (Cut E sl bx I) X R e a' w' → Out E n N X R e a' w' := by
          intro e a' w' ho
          cases e with
          | normal =>
            obtain ⟨s2, u2, hc, hr2⟩ := ho
            obtain ⟨x, g, hI, hr3⟩ := cut_ok hwf hc hr2
            exact ⟨_, _, k x g w' hI, hr3⟩
          | _ => exact ho
        exact wp_cond_split (t := t) (hx.trans ht) (fun ht => Code.wp_mono go (ihp _ _ _ _ _ _ _ (h.1 ht) hr)) (fun ht => Code.wp_mono go (ihq _ _ _ _ _ _ _ (h.2 ht) hr))
    split at h
    · rename_i t ht; exact go t (eg_v ht) h
    · rename_i k hk; rw [cndK_eq] at h; exact go _ (by unfold St.eg; rw [hk]; rfl) h
    · exact h.elim
  | block id x ih =>
    intro N X R s u a w h hr
    rw [vc_block] at h
    refine wp_block (Code.wp_mono (fun e a' w' ho => ?_) (ih _ _ _ _ _ _ _ h hr))
    cases e with
    | normal => exact ho
    | exit id' =>
      obtain ⟨s', u', hv, hr'⟩ := ho
      simp only [Exit.inBlock]
      by_cases hid : id' = id
      · rw [if_pos hid]
        subst hid
        rw [show Nat.beq id' id' = true from Nat.beq_refl id'] at hv
        exact ⟨s', u', hv, hr'⟩
      · rw [if_neg hid]
        have : Nat.beq id' id = false := by
          cases hb : Nat.beq id' id
          · rfl
          · exact absurd (Nat.eq_of_beq_eq_true hb) hid
        rw [this] at hv
        exact ⟨s', u', hv, hr'⟩
    | ret => exact ho
    | goto l => exact ho
    | panic c => exact ho
    | outgrown => exact ho
  | loop x ih =>
    intro N X R s u a w h hr
    simp only [vc_loop] at h
    obtain ⟨γ, sl, bx, I, μ, hwf, h0, round⟩ := h
    have weak : ∀ (s s' : St) (u : World) (a : Act) (w : World), Rel E n s u a w → (∀ k, (s'.t k).val s'.b s'.cs = (s.t k).val s.b s.cs) → s'.b <+: s.b → s'.wf → Rel E n s' w a w := by
      intro s s' u a w hr hv hp hwf
      obtain ⟨more, hp⟩ := hp
      have hsub : ∀ bx ∈ s'.b, bx ∈ s.b := fun bx hm => by rw [← hp]; exact List.mem_append_left _ hm
      refine ⟨fun k => (hr.tmp k).trans (hv k).symm, hr.size, hr.defers, ?_, fun bx hm => hr.lt bx (hsub bx hm), hwf, ⟨fun bx hm => hr.at_.box bx (hsub bx hm), fun bx hm => hr.at_.fresh bx (hsub bx hm), Ext.refl _ _, hr.at_.ext0⟩⟩
      have := hr.nodup
      rw [← hp, List.map_append] at this
      exact (List.nodup_append.1 this).1
    obtain ⟨x0, h1, h2, h3⟩ := h0 w hr.at_
    have canon : ∀ (s : St) (u : World) (a : Act) (w : World) (y : γ), Rel E n s u a w → slotsOK (bx y) s (sl y) → bx y <+: s.b → ∃ g : Nat → Value, Rel E n ⟨updL (fun k => SV0 (.v (g k))) (sl y), bx y, []⟩ w a w := fun s u a w y hr h1 h2 =>
      ⟨fun k => (s.t k).val s.b s.cs, weak _ _ _ _ _ hr (updL_val _ _ _ (fun _ => rfl) _ h1) h2 (updL_ok _ _ _ (hwf y))⟩
    obtain ⟨g0, hr0⟩ := canon _ _ _ _ _ hr h1 h2
    refine wp_loop_rel (I := fun m a w => ∃ y g, I y w ∧ μ y = m ∧ Rel E n ⟨updL (fun k => SV0 (.v (g k))) (sl y), bx y, []⟩ w a w) ⟨x0, g0, h3, rfl, hr0⟩ ?_
    rintro m a w ⟨y, g, hI, rfl, hr⟩
    refine Code.wp_mono (fun e a' w' ho => ?_) (ih _ _ _ _ _ _ _ (round y g w hI) hr)
    cases e with
    | normal =>
      obtain ⟨s2, u2, hK, hr2⟩ := ho
      obtain ⟨z, h1, h2, h3, h4⟩ := hK w' hr2.at_
      obtain ⟨g', hr'⟩ := canon _ _ _ _ _ hr2 h1 h2
      exact ⟨_, h4, z, g', h3, rfl, hr'⟩
    | exit id => exact ho
    | ret => exact ho
    | goto l => exact ho
    | panic c => exact ho
    | outgrown => exact ho
  | exit id => intro N X R s u a w h hr; exact wp_exit ⟨s, u, h, hr⟩
  | ret => intro N X R s u a w h hr; exact wp_ret ⟨s, u, h, hr⟩
  | _ => intro N X R s u a w h hr; exact h.elim

/-! ### a function -/
def resSem (tmps : Array Value) : ResultVar → Sem Value
  | .tmp t => pure (tmps.getD t undef)
  | .cell b t => do loadVar t (← asAddr (tmps.getD b undef))
theorem results_eq (fn : Func) (tmps : Array Value) : results fn tmps = (do
    let vs ← fn.results.mapM (resSem tmps)
    pure (if h : vs.size = 1 then vs[0] else .tuple vs)) := by
  unfold results
  congr 1
theorem resSem_cell {tmps : Array Value} {b : Tmp} {T : TypeId} {P : Program} {a : Addr} (h : tmps.getD b undef = .pointer (some a)) (w : World) : (resSem tmps (.cell b T)).run P w = (loadVar T a).run P w := by
  simp [resSem, h, asAddr]
theorem res_ok {fn : Func} (hr : Rel E n s u a w) : ∀ (rs : List ResultVar) (l : List Value), resV C s rs = some l →
    (rs.mapM (resSem a.tmps)).run C.P w = .ok l w
  | [], l, h => by simp only [resV, Option.some.injEq] at h; subst h; rfl
  | .tmp t :: rs, l, h => by
    simp only [resV] at h
    split at h
    · cases h
    · rename_i q hq
      injection h with h
      subst h
      have := res_ok (fn := fn) hr rs q hq
      simp only [List.mapM_cons, Sem.run_bind, Sem.run_pure, Result.andThen_ok, this]
      rw [show resSem a.tmps (.tmp t) = pure (a.tmps.getD t undef) from rfl, hr.tmp t]
      rw [show (s.eg [] (.tmp t)) = (s.t t).val s.b s.cs from eg_val (G := []) rfl (.tmp t)]
      simp only [Sem.run_pure, Result.andThen_ok, this]
  | .cell b T :: rs, l, h => by
    simp only [resV] at h
    split at h
    · rename_i k hk
      split at h
      · cases h
      · rename_i bx hbx
        obtain ⟨hbx, hlv⟩ := live_spec hbx
        split at h
        case h_2 => cases h
        rename_i i hi
        split at h
        · cases h
        · rename_i q hq
          have := res_ok (fn := fn) hr rs q hq
          have hv : a.tmps.getD b undef = .pointer (some ⟨bx.id, 0, none⟩) := by
            have := hr.eval (.tmp b)
            have e : (s.sv (.tmp b)).val s.b s.cs = .pointer (some ⟨bid s.b k, 0, none⟩) := by
              have h2 := eg_val (s := s) (G := []) rfl (.tmp b)
              rw [← h2]; unfold St.eg; rw [hk]; rfl
            rw [e, bid_get _ _ _ hbx] at this
            exact this
          have hm : bx ∈ s.b := by rw [nth_get] at hbx; exact List.mem_of_getElem? hbx
          have hcell := hr.at_.box bx hm hlv
          have hag := run_isAgg hi w
          split at h
          · rename_i hb
            split at h
            case h_2 => cases h
            rename_i hl
            injection h with h
            subst h
            have hc : CellsAt w ⟨bx.id, 0, none⟩ bx.cs := fun j v hj => by rw [bid_add]; simp [World.cell?, hcell, hj]
            have hrun := run_loadCells_at (P := C.P) hc
            rw [Nat.eq_of_beq_eq_true hl] at hrun
            simp only [List.mapM_cons, Sem.run_bind, Sem.run_pure, Result.andThen_ok, this, resSem_cell hv, loadVar, hag, hb, if_true, run_size hi, hrun]
          · rename_i hb
            split at h
            case h_2 => cases h
            rename_i v hcs
            injection h with h
            subst h
            have hc : w.cell? ⟨bx.id, 0, none⟩ = some v := by simp [World.cell?, hcell, hcs]
            simp only [List.mapM_cons, Sem.run_bind, Sem.run_pure, Result.andThen_ok, this, resSem_cell hv, loadVar, hag, hb, Bool.false_eq_true, if_false, run_load, hc]
    · cases h

theorem fin_ok {fn : Func} {R : Ending → World → Prop} (h : Fin C E fn R s u) (hr : Rel E n s u a w) : a.defers = [] ∧ ∃ v, (results fn a.tmps).run C.P w = .ok v w ∧ R (.returned v) w := by
  unfold Fin at h
  split at h
  · exact h.elim
  rename_i l hl
  refine ⟨hr.defers, resOne l, ?_, h.out w hr.at_⟩
  have := res_ok (C := C) (fn := fn) hr fn.results.toList l hl
  rw [results_eq, ← Array.toArray_toList (xs := fn.results), List.mapM_toArray]
  simp only [Sem.run_bind, Sem.run_map, this, Result.andThen_ok]
  rcases l with _ | ⟨v, _ | ⟨v2, r⟩⟩ <;> rfl

theorem calls_of_vc (C : Ctx) (f : Nat) (fn : Func) (code : Code) (args : List Value) (w0 : World) (S0 : Nat → Prop) (R : Ending → World → Prop)
    (hf : C.P.funcs[f]? = some fn) (hb : fn.body = some code) (hn : Nat.ble args.length fn.ntmps = true)
    (h : vc C ⟨w0, S0, false⟩ fn.ntmps code (Fin C ⟨w0, S0, false⟩ fn R) (fun _ _ _ => False) (Fin C ⟨w0, S0, false⟩ fn R) ⟨initT args, [], []⟩ w0) : Calls C.P f args.toArray w0 R := by
  have hle := Nat.le_of_ble_eq_true hn
  have hi : ∀ (l : List Value) (k : Nat), (initT l k) = SV0 (.v (l[k]?.getD undef)) := by
    intro l
    induction l with
    | nil => intro k; rfl
    | cons x r ih => intro k; cases k with
      | zero => rfl
      | succ k => simp only [initT, ih]; simp
  refine calls_of_wp hf hb (Code.wp_mono (fun e a' w' ho => ?_) (vc_ok _ _ _ _ _ _ _ _ h ?_))
  · cases e with
    | normal => obtain ⟨s, u, h, hr⟩ := ho; exact fin_ok h hr
    | ret => obtain ⟨s, u, h, hr⟩ := ho; exact fin_ok h hr
    | exit id => obtain ⟨_, _, h, _⟩ := ho; exact h
    | goto l => exact ho
    | panic c => exact ho.elim
    | outgrown => exact ho.elim
  · refine ⟨fun k => ?_, by simp; omega, rfl, List.nodup_nil, fun _ h => absurd h List.not_mem_nil, fun k => ?_, ⟨fun _ h => absurd h List.not_mem_nil, fun _ h => absurd h List.not_mem_nil, Ext.refl _ _, Ext.refl _ _⟩⟩
    · show (args.toArray ++ Array.replicate _ undef).getD k undef = (initT args k).val [] []
      rw [hi, Array.getD_eq_getD_getElem?, Array.getElem?_append]
      simp only [SV0, SV.val, PV.val, List.size_toArray, List.getElem?_toArray]
      split
      · rfl
      · rename_i hk
        rw [List.getElem?_eq_none (by omega)]
        simp only [Option.getD_none, Array.getElem?_replicate]
        split <;> rfl
    · show (initT args k).ok 0 0
      rw [hi]; exact ⟨fun _ hg => absurd hg List.not_mem_nil, trivial⟩
end
end Go.Flow
