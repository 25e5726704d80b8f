/- OWN WORK. Flow, part C: what a quiet operation asks is enough. -/
import Derived.Test.YtdmengbemonkaaaFlowB
import Derived.Laws.Tables
import Derived.Laws.Entries
import Derived.Laws.BytesString
set_option linter.unusedVariables false
set_option linter.unusedSimpArgs false
namespace Go.Flow
open Go

section
variable {C : Ctx} {w : World}
theorem run_und {t : TypeId} {i : TyI} (h : C.ty t = some i) : ∃ d, (∀ w, (underlying t).run C.P w = .ok d w) ∧ i.desc.fits d ∧ C.P.underlying t = some d := by
  obtain ⟨d, hd, hf⟩ := (C.tyOk t i h).und
  exact ⟨d, fun w => run_underlying hd w, hf, hd⟩
theorem run_size {t : TypeId} {i : TyI} (h : C.ty t = some i) (w : World) : (sizeOf t).run C.P w = .ok i.size w := by
  obtain ⟨inf, h1, h2, _⟩ := (C.tyOk t i h).info
  simp [sizeOf, typeInfo, h1, h2]
theorem run_zero {t : TypeId} {i : TyI} (h : C.ty t = some i) : ∃ z, (∀ w, (zeroValue t).run C.P w = .ok z w) ∧ z.cells = i.zero.toArray := by
  obtain ⟨inf, h1, _, _, h2⟩ := (C.tyOk t i h).info
  obtain ⟨z, hz, hz'⟩ := Option.map_eq_some_iff.1 h2
  exact ⟨z, fun w => by simp [zeroValue, typeInfo, h1, hz], hz'⟩
theorem fits_slice {e : TypeId} {d : TypeDesc} (h : (TyD.slice e).fits d) : d = .slice e := by
  cases d <;> simp [TyD.fits] at h
  subst h; rfl
theorem fits_arr {n : Nat} {e : TypeId} {d : TypeDesc} (h : (TyD.arr n e).fits d) : d = .array n e := by
  cases d <;> simp [TyD.fits] at h
  obtain ⟨rfl, rfl⟩ := h; rfl
theorem fits_ptr {e : TypeId} {d : TypeDesc} (h : (TyD.ptr e).fits d) : d = .pointer e := by
  cases d <;> simp [TyD.fits] at h
  subst h; rfl
theorem fits_string {d : TypeDesc} (h : TyD.string.fits d) : d = .string := by
  cases d <;> simp [TyD.fits] at h
  rfl
theorem fits_bool {d : TypeDesc} (h : TyD.bool.fits d) : d = .bool := by
  cases d <;> simp [TyD.fits] at h
  rfl
theorem fits_int {k : IntKind} {d : TypeDesc} (h : (TyD.int k).fits d) : d = .int k := by
  cases d <;> simp [TyD.fits] at h
  subst h; rfl
theorem fits_struct {fs : List (Nat × TypeId)} {d : TypeDesc} (h : (TyD.struct fs).fits d) : ∃ gs, d = .struct gs ∧ fs = gs.toList.map (fun f => (f.offset, f.type)) := by
  cases d <;> simp [TyD.fits] at h
  exact ⟨_, rfl, h⟩
def aggD : TypeDesc → Bool
  | .struct _ => true
  | .array _ _ => true
  | _ => false
theorem agg_of {y : TyD} {d : TypeDesc} (h : y.fits d) : aggD d = y.agg := by
  cases y <;> cases d <;> simp_all [TyD.fits, TyD.agg, aggD]
theorem run_isAgg {t : TypeId} {i : TyI} (h : C.ty t = some i) (w : World) : (isAgg t).run C.P w = .ok i.desc.agg w := by
  obtain ⟨d, h1, h2, _⟩ := run_und h
  have h3 := agg_of h2
  simp only [isAgg, Sem.run_bind, h1, Result.andThen_ok]
  rw [← h3]
  cases d <;> simp [aggD]
end

/-! ### lists -/
theorem nth_get {α : Type} : ∀ (l : List α) (i : Nat), nth l i = l[i]?
  | [], i => by simp [nth]
  | _ :: _, 0 => by simp [nth]
  | _ :: r, i + 1 => by simp [nth, nth_get r i]
theorem bid_get : ∀ (l : List Box) (i : Nat) (bx : Box), nth l i = some bx → bid l i = bx.id
  | [], _, _, h => by simp [nth] at h
  | _ :: _, 0, _, h => by simp [nth] at h; subst h; rfl
  | _ :: r, i + 1, bx, h => by simp only [nth] at h; simp only [bid]; exact bid_get r i bx h
theorem live_spec {l : List Box} {i : Nat} {bx : Box} (h : live l i = some bx) : nth l i = some bx ∧ bx.live = true := by
  unfold live at h
  split at h
  · rename_i y hy
    split at h
    · rename_i hl
      injection h with h
      subst h
      exact ⟨hy, hl⟩
    · cases h
  · cases h
theorem bid_append : ∀ (l m : List Box) (i : Nat), i < l.length → bid (l ++ m) i = bid l i
  | [], _, _, h => by simp at h
  | _ :: _, _, 0, _ => rfl
  | _ :: r, m, i + 1, h => by simp only [List.cons_append, bid]; exact bid_append r m i (by simpa using h)
theorem cnd_append : ∀ (l m : List Bool) (i : Nat), i < l.length → cnd (l ++ m) i = cnd l i
  | [], _, _, h => by simp at h
  | _ :: _, _, 0, _ => rfl
  | _ :: r, m, i + 1, h => by simp only [List.cons_append, cnd]; exact cnd_append r m i (by simpa using h)
theorem cnd_last : ∀ (l : List Bool) (c : Bool), cnd (l ++ [c]) l.length = c
  | [], _ => rfl
  | _ :: r, c => by simp only [List.cons_append, List.length_cons, cnd]; exact cnd_last r c

theorem holdB_ext {cs m : List Bool} : ∀ {G : List (Nat × Bool)}, (∀ g ∈ G, g.1 < cs.length) → holdB (cs ++ m) G = holdB cs G
  | [], _ => rfl
  | g :: r, h => by
    simp only [holdB]
    rw [cnd_append _ _ _ (h g (by simp)), holdB_ext (fun g hg => h g (by simp [hg]))]
theorem PV.val_ext {x : PV} {b : List Box} {cs : List Bool} (h : x.ok b.length cs.length) (b' : List Box) (cs' : List Bool) : x.val (b ++ b') (cs ++ cs') = x.val b cs := by
  cases x with
  | v x => rfl
  | p i off => simp only [PV.val]; rw [bid_append _ _ _ h]
  | q i off => simp only [PV.val]; rw [bid_append _ _ _ h]
  | c k => simp only [PV.val]; rw [cnd_append _ _ _ h]
theorem SV.val_ext {x : SV} {b : List Box} {cs : List Bool} (h : x.ok b.length cs.length) (b' : List Box) (cs' : List Bool) : x.val (b ++ b') (cs ++ cs') = x.val b cs := by
  obtain ⟨G, y⟩ := x
  rw [SV.val_w, SV.val_w, holdB_ext h.1, PV.val_ext h.2]
theorem PV.ok_mono {x : PV} {nb nc nb' nc' : Nat} (h : x.ok nb nc) (h1 : nb ≤ nb') (h2 : nc ≤ nc') : x.ok nb' nc' := by
  cases x <;> simp only [PV.ok] at * <;> omega
theorem SV.ok_mono {x : SV} {nb nc nb' nc' : Nat} (h : x.ok nb nc) (h1 : nb ≤ nb') (h2 : nc ≤ nc') : x.ok nb' nc' := by
  obtain ⟨G, y⟩ := x
  exact ⟨fun g hg => Nat.lt_of_lt_of_le (h.1 g hg) h2, PV.ok_mono h.2 h1 h2⟩
theorem sv_ok {s : St} (h : s.wf) (x : Operand) : (s.sv x).ok s.b.length s.cs.length := by
  cases x with
  | tmp t => exact h t
  | const v => exact ⟨fun _ hg => absurd hg List.not_mem_nil, trivial⟩
  | global g => exact ⟨fun _ hg => absurd hg List.not_mem_nil, trivial⟩
  | func f => exact ⟨fun _ hg => absurd hg List.not_mem_nil, trivial⟩
theorem peel_ok {s : St} {G : List (Nat × Bool)} {y : SV} (h : y.ok s.b.length s.cs.length) : (peel s G y).ok s.b.length s.cs.length := by
  obtain ⟨A, x⟩ := y
  cases A with
  | nil => exact h.2
  | cons g r =>
    simp only [peel]
    cases subG (g :: r) G
    · trivial
    · exact h.2
theorem pg_ok {s : St} (h : s.wf) (G : List (Nat × Bool)) (x : Operand) : (s.pg G x).ok s.b.length s.cs.length := peel_ok (sv_ok h x)
theorem peel_val {s : St} {G : List (Nat × Bool)} {y : SV} (hG : holdB s.cs G = true) : (peel s G y).val s.b s.cs = y.val s.b s.cs := by
  obtain ⟨A, x⟩ := y
  cases A with
  | nil => rfl
  | cons g r =>
    rw [SV.val_w]
    simp only [peel]
    cases h : subG (g :: r) G
    · rfl
    · rw [holdB_sub h hG]; rfl
theorem eg_val {s : St} {G : List (Nat × Bool)} (hG : holdB s.cs G = true) (x : Operand) : s.eg G x = (s.sv x).val s.b s.cs := peel_val hG

/-! ### an operation that looks at the world at most -/
section
variable {C : Ctx} {E : Env} {G : List (Nat × Bool)} {s : St} {u : World} {o : Oper} {R : PV → Prop}

/-- what is to be shown of each -/
def QOk (C : Ctx) (E : Env) (G : List (Nat × Bool)) (s : St) (u : World) (o : Oper) (R : PV → Prop) : Prop :=
  ∃ x : PV, R x ∧ x.ok s.b.length s.cs.length ∧ (holdB s.cs G = true → ∀ w, At E s u w → (execOp (s.eg G) o).run C.P w = .ok (.value (x.val s.b s.cs)) w)

theorem pureQ_ok (h : pureQ C s G o R) : QOk C E G s u o R := by
  unfold pureQ at h
  split at h
  · rename_i x hx
    rw [frcV_eq] at h
    exact ⟨.v x, h, trivial, fun _ w _ => pureV_run C.P _ _ hx w⟩
  · exact h.elim

theorem eg_v {x : Operand} {v : Value} (h : s.pg G x = .v v) : s.eg G x = v := by unfold St.eg; rw [h]; rfl

theorem pick_ok {c a b : Operand} (ho : o.op = .pick c a b) (h : vcPick s G c a b R) : QOk C E G s u o R := by
  have key : ∀ (t : Bool) (x y : PV), (pickV t s.b s.cs x y).val s.b s.cs = bif t then x.val s.b s.cs else y.val s.b s.cs := by
    intro t x y
    unfold pickV
    split
    · rename_i p hp
      split
      · rename_i q hq
        rw [hp, hq]
        cases t <;> rfl
      · rfl
    · rfl
  have okk : ∀ (t : Bool) (x y : PV), (pickV t s.b s.cs x y).ok s.b.length s.cs.length := by
    intro t x y
    unfold pickV
    split
    · split <;> trivial
    · trivial
  unfold vcPick at h
  simp only [cndK_eq] at h
  split at h
  · rename_i k hk
    refine ⟨_, h, okk _ _ _, fun hG w _ => ?_⟩
    rw [key]
    have hc : s.eg G c = .bool (cnd s.cs k) := by unfold St.eg; rw [hk]; rfl
    simp only [execOp, ho, hc, asBool, Sem.run_bind, Sem.run_pure, Result.andThen_ok]
    have hold2 : ∀ b', cnd s.cs k = b' → holdB s.cs (G ++ [(k, b')]) = true := by
      intro b' hb
      have : ∀ (G : List (Nat × Bool)), holdB s.cs G = true → holdB s.cs (G ++ [(k, b')]) = true := by
        intro G
        induction G with
        | nil => intro _; simp [holdB, hb]
        | cons g r ih => intro hg; simp only [holdB, Bool.and_eq_true, List.cons_append] at *; exact ⟨hg.1, ih hg.2⟩
      exact this G hG
    cases ht : cnd s.cs k
    · simp only [Bool.false_eq_true, if_false, cond_false]
      rw [eg_val hG, ← eg_val (hold2 false ht)]; rfl
    · simp only [if_true, cond_true]
      rw [eg_val hG, ← eg_val (hold2 true ht)]; rfl
  · rename_i t ht
    refine ⟨_, h, okk _ _ _, fun hG w _ => ?_⟩
    rw [key]
    simp only [execOp, ho, eg_v ht, asBool, Sem.run_bind, Sem.run_pure, Result.andThen_ok]
    cases t <;> rfl
  · exact h.elim

theorem field_ok {T : TypeId} {x : Operand} {k : Nat} (ho : o.op = .fieldAddr T x k) (hwf : s.wf) (h : vcField C s G T x k R) : QOk C E G s u o R := by
  unfold vcField at h
  split at h
  case h_2 => exact h.elim
  rename_i i hi
  split at h
  case h_2 => exact h.elim
  rename_i fs hfs
  split at h
  case h_2 => exact h.elim
  rename_i f hf
  split at h
  case h_2 => exact h.elim
  rename_i fi hfi
  split at h
  · exact h.elim
  rename_i sz hsz
  obtain ⟨d, hd1, hd2, _⟩ := run_und hi
  rw [hfs] at hd2
  obtain ⟨gs, rfl, hgs⟩ := fits_struct hd2
  rw [nth_get, hgs] at hf
  obtain ⟨fld, hfl⟩ : ∃ fld, gs[k]? = some fld ∧ (fld.offset, fld.type) = f := by
    rw [List.getElem?_map] at hf
    obtain ⟨fld, h1, h2⟩ := Option.map_eq_some_iff.1 hf
    exact ⟨fld, by simpa using h1, h2⟩
  obtain ⟨hk, rfl⟩ := hfl
  have hs0 : ∀ w, (sizeOf fld.type).run C.P w = .ok (sz + 1) w := fun w => by rw [run_size hfi, hsz]
  have run : ∀ (a : Addr) (w : World), s.eg G x = .pointer (some a) → (execOp (s.eg G) o).run C.P w = .ok (.value (.pointer (some (a.add fld.offset)))) w := by
    intro a w ha
    simp [execOp, ho, Instr.fieldAt, hd1, hk, ha, Instr.sureAddr, fieldPlace, hs0]
  split at h
  · rename_i j o' hx
    have hok := pg_ok hwf G x
    rw [hx] at hok
    refine ⟨_, h, hok, fun _ w _ => ?_⟩
    rw [run ⟨bid s.b j, o', none⟩ w (by unfold St.eg; rw [hx]; rfl)]
    simp only [PV.val, Addr.add]
    split
    · rename_i h0; rw [h0, Nat.add_zero]
    · rfl
  · rename_i j o' hx
    have hok := pg_ok hwf G x
    rw [hx] at hok
    refine ⟨_, h, hok, fun _ w _ => ?_⟩
    rw [run ⟨bid s.b j, o', none⟩ w (by unfold St.eg; rw [hx]; rfl)]
    simp only [PV.val, Addr.add]
    split
    · rename_i h0; rw [h0, Nat.add_zero]
    · rfl
  · rename_i a hx
    exact ⟨_, h, trivial, fun _ w _ => run a w (eg_v hx)⟩
  · exact h.elim

theorem bid_add (g o' n : Nat) : (⟨g, o', none⟩ : Addr).add n = ⟨g, o' + n, none⟩ := by
  simp only [Addr.add]; split
  · rename_i h0; rw [h0, Nat.add_zero]
  · rfl

theorem indexAddr_ok {T : TypeId} {x ix : Operand} (ho : o.op = .indexAddr T x ix) (hwf : s.wf) (h : vcIndexAddr C s G T x ix R) : QOk C E G s u o R := by
  unfold vcIndexAddr at h
  split at h
  case h_2 => exact h.elim
  rename_i i hi
  obtain ⟨d, hd1, hd2, _⟩ := run_und hi
  split at h
  · rename_i e he
    rw [he] at hd2
    obtain rfl := fits_slice hd2
    split at h
    case h_2 => exact h.elim
    rename_i ie hie
    split at h
    case h_2 => exact h.elim
    rename_i A len cap hx
    split at h
    case h_2 => exact h.elim
    rename_i kk j hj
    refine ⟨_, h.2, trivial, fun hG w _ => ?_⟩
    obtain ⟨hA, h0, h1⟩ := h.1.get hG
    obtain ⟨a, rfl⟩ := Option.isSome_iff_exists.1 hA
    simp [execOp, ho, Instr.indexAt, eg_v hx, eg_v hj, asIntOf, hd1, run_size hie, h0, h1, PV.val, adr]
  · rename_i n e he
    rw [he] at hd2
    obtain rfl := fits_arr hd2
    split at h
    case h_2 => exact h.elim
    rename_i ie hie
    have run : ∀ (a : Addr) (kk : IntKind) (j : Int) (w : World), s.eg G x = .pointer (some a) → s.eg G ix = .int kk j → 0 ≤ j → j < n → (execOp (s.eg G) o).run C.P w = .ok (.value (.pointer (some (a.add (j.toNat * ie.size))))) w := by
      intro a kk j w ha hj h0 h1
      simp [execOp, ho, Instr.indexAt, ha, hj, asIntOf, hd1, run_size hie, h0, h1, Instr.sureAddr]
    have hok := pg_ok hwf G x
    split at h
    · rename_i kk j
      split at h
      case h_2 => exact h.elim
      rename_i hlt
      have hjn : (j : Int) < n := by have := Nat.blt_eq.mp hlt; omega
      have hj : s.eg G (.const (.int kk (.ofNat j))) = .int kk (.ofNat j) := rfl
      split at h
      · rename_i k off hx
        rw [hx] at hok
        refine ⟨_, h, hok, fun _ w _ => ?_⟩
        rw [run ⟨bid s.b k, off, none⟩ kk _ w (by unfold St.eg; rw [hx]; rfl) hj (by simp) hjn, bid_add]; rfl
      · rename_i k off hx
        rw [hx] at hok
        refine ⟨_, h, hok, fun _ w _ => ?_⟩
        rw [run ⟨bid s.b k, off, none⟩ kk _ w (by unfold St.eg; rw [hx]; rfl) hj (by simp) hjn, bid_add]; rfl
      · rename_i a hx
        exact ⟨_, h, trivial, fun _ w _ => run a kk _ w (eg_v hx) hj (by simp) hjn⟩
      · exact h.elim
    · split at h
      case h_2 => exact h.elim
      rename_i kk j hj
      split at h
      · rename_i k off hx
        rw [hx] at hok
        refine ⟨_, h.2, hok, fun hG w _ => ?_⟩
        obtain ⟨h0, h1⟩ := h.1.get hG
        rw [run ⟨bid s.b k, off, none⟩ kk _ w (by unfold St.eg; rw [hx]; rfl) (eg_v hj) h0 h1, bid_add]; rfl
      · rename_i k off hx
        rw [hx] at hok
        refine ⟨_, h.2, hok, fun hG w _ => ?_⟩
        obtain ⟨h0, h1⟩ := h.1.get hG
        rw [run ⟨bid s.b k, off, none⟩ kk _ w (by unfold St.eg; rw [hx]; rfl) (eg_v hj) h0 h1, bid_add]; rfl
      · rename_i a hx
        refine ⟨_, h.2, trivial, fun hG w _ => ?_⟩
        obtain ⟨h0, h1⟩ := h.1.get hG
        exact run a kk _ w (eg_v hx) (eg_v hj) h0 h1
      · exact h.elim
  · exact h.elim

theorem run_loadCells_at {P : Program} {w : World} {a : Addr} {cs : List Value} (h : CellsAt w a cs) : (loadCells a cs.length).run P w = .ok cs.toArray w :=
  run_loadCells_list w a cs h

theorem boxCells {bx : Box} {w : World} (h : w.heap[bx.id]? = some (.cells bx.cs.toArray bx.ty (0, 0))) (off n : Nat) : CellsAt w ⟨bx.id, off, none⟩ ((bx.cs.drop off).take n) := by
  intro j v hj
  rw [bid_add]
  rw [List.getElem?_take] at hj
  split at hj
  · rw [List.getElem?_drop] at hj
    simp [World.cell?, h, hj]
  · cases hj

theorem load_ok {T : TypeId} {x : Operand} (ho : o.op = .load T x) (h : vcLoad C E s u G T x R) : QOk C E G s u o R := by
  unfold vcLoad at h
  split at h
  case h_2 => exact h.elim
  rename_i i hi
  have hag := run_isAgg hi
  have runA : ∀ (a : Addr) (cs : List Value) (w : World), s.eg G x = .pointer (some a) → i.desc.agg = true → cs.length = i.size → CellsAt w a cs → (execOp (s.eg G) o).run C.P w = .ok (.value (.agg cs.toArray)) w := by
    intro a cs w ha hb hl hc
    have := run_loadCells_at (P := C.P) hc
    rw [hl] at this
    simp [execOp, ho, Instr.loadAt, Instr.sureAddr, ha, loadVar, hag, hb, run_size hi, this]
  have runB : ∀ (a : Addr) (y : Value) (w : World), s.eg G x = .pointer (some a) → i.desc.agg = false → w.cell? a = some y → (execOp (s.eg G) o).run C.P w = .ok (.value y) w := by
    intro a y w ha hb hc
    simp [execOp, ho, Instr.loadAt, Instr.sureAddr, ha, loadVar, hag, hb, hc]
  have box1 : ∀ (k off : Nat) (bx : Box) (w : World), live s.b k = some bx → At E s u w → i.desc.agg = true → off + i.size ≤ bx.cs.length → s.eg G x = .pointer (some ⟨bid s.b k, off, none⟩) →
      (execOp (s.eg G) o).run C.P w = .ok (.value (.agg ((bx.cs.drop off).take i.size).toArray)) w := by
    intro k off bx w hbx hat hb hl hp
    obtain ⟨hbx, hlv⟩ := live_spec hbx
    rw [bid_get _ _ _ hbx] at hp
    have hm : bx ∈ s.b := by rw [nth_get] at hbx; exact List.mem_of_getElem? hbx
    exact runA _ _ w hp hb (by rw [List.length_take, List.length_drop]; omega) (boxCells (hat.box bx hm hlv) off i.size)
  have box2 : ∀ (k off : Nat) (bx : Box) (y : Value) (w : World), live s.b k = some bx → At E s u w → i.desc.agg = false → bx.cs[off]? = some y → s.eg G x = .pointer (some ⟨bid s.b k, off, none⟩) →
      (execOp (s.eg G) o).run C.P w = .ok (.value y) w := by
    intro k off bx y w hbx hat hb hl hp
    obtain ⟨hbx, hlv⟩ := live_spec hbx
    rw [bid_get _ _ _ hbx] at hp
    have hm : bx ∈ s.b := by rw [nth_get] at hbx; exact List.mem_of_getElem? hbx
    refine runB _ _ w hp hb ?_
    simp [World.cell?, hat.box bx hm hlv, hl]
  split at h
  · rename_i k off hx
    have hp : s.eg G x = .pointer (some ⟨bid s.b k, off, none⟩) := by unfold St.eg; rw [hx]; rfl
    split at h
    case h_2 => exact h.elim
    rename_i bx hbx
    split at h
    · rename_i hb
      split at h
      case h_2 => exact h.elim
      rename_i hl
      exact ⟨_, h, trivial, fun _ w hat => box1 k off bx w hbx hat hb (Nat.le_of_ble_eq_true hl) hp⟩
    · rename_i hb
      split at h
      case h_2 => exact h.elim
      rename_i y hy
      rw [nth_get] at hy
      exact ⟨_, h, trivial, fun _ w hat => box2 k off bx y w hbx hat hb hy hp⟩
  · rename_i k off hx
    have hp : s.eg G x = .pointer (some ⟨bid s.b k, off, none⟩) := by unfold St.eg; rw [hx]; rfl
    split at h
    case h_2 => exact h.elim
    rename_i bx hbx
    split at h
    · rename_i hb
      exact ⟨_, h.2, trivial, fun hG w hat => box1 k off bx w hbx hat hb (h.1.get hG) hp⟩
    · rename_i hb
      obtain ⟨y, hy, hR⟩ := h
      exact ⟨_, hR, trivial, fun hG w hat => box2 k off bx y w hbx hat hb (hy.get hG) hp⟩
  · rename_i a hx
    split at h
    · rename_i hb
      obtain ⟨cs, hc, hR⟩ := h
      exact ⟨_, hR, trivial, fun hG w hat => runA a cs w (eg_v hx) hb (hc.get hG).1 ((hc.get hG).2 w hat)⟩
    · rename_i hb
      obtain ⟨y, hc, hR⟩ := h
      exact ⟨_, hR, trivial, fun hG w hat => runB a y w (eg_v hx) hb (hc.get hG w hat)⟩
  · exact h.elim

theorem bound_ok {w : World} {x : Option Operand} {d i : Int} {y : Nat} {code : BoundsCode} (h : bound s G x d = some i) (h0 : 0 ≤ i) (h1 : i ≤ y) (hx : x.isSome = true) :
    ∃ v, x.map (s.eg G) = some v ∧ (Instr.sliceBound v y code).run C.P w = .ok i.toNat w := by
  cases x with
  | none => simp at hx
  | some x =>
    unfold bound at h
    split at h
    · cases ‹_ = none›
    · rename_i z hz
      cases hz
      split at h
      · rename_i kk j hj
        injection h with h
        subst h
        exact ⟨_, rfl, by simp [Instr.sliceBound, eg_v hj, asIntOf, h0, h1]⟩
      · cases h
theorem bound_none {d i : Int} (h : bound s G none d = some i) : i = d := by injection h with h; exact h.symm

theorem sliceBounds_ok {lo hi mx : Option Operand} {l h m : Int} {len cap : Nat} {b : Bool} (hl : bound s G lo 0 = some l) (hh : bound s G hi len = some h) (hm : bound s G mx cap = some m) (hn : mx.isSome = true → hi.isSome = true)
    (h0 : 0 ≤ l) (h1 : l ≤ h) (h2 : h ≤ m) (h3 : m ≤ cap) (w : World) :
    (Instr.sliceBounds b len cap (lo.map (s.eg G)) (hi.map (s.eg G)) (mx.map (s.eg G))).run C.P w = .ok (l.toNat, h.toNat, m.toNat) w := by
  have eh : (h.toNat : Int) = h := by omega
  have em : (m.toNat : Int) = m := by omega
  have low : (lo.map (s.eg G) = none ∧ l = 0) ∨ ∃ v, lo.map (s.eg G) = some v ∧ ∀ (y : Nat) (code : BoundsCode), l ≤ y → (Instr.sliceBound v y code).run C.P w = .ok l.toNat w := by
    cases lo with
    | none => exact .inl ⟨rfl, bound_none hl⟩
    | some x =>
      obtain ⟨v, hv, _⟩ := bound_ok (C := C) (w := w) (y := l.toNat) (code := .sliceB) hl h0 (by omega) rfl
      refine .inr ⟨v, hv, fun y code hy => ?_⟩
      obtain ⟨v', hv', hr⟩ := bound_ok (C := C) (w := w) (y := y) (code := code) hl h0 hy rfl
      rw [hv] at hv'
      injection hv' with hv'
      subst hv'
      exact hr
  cases mx with
  | none =>
    obtain rfl := bound_none hm
    cases hi with
    | none =>
      obtain rfl := bound_none hh
      rcases low with ⟨e, rfl⟩ | ⟨v, e, hr⟩
      · simp [Instr.sliceBounds, e]
      · simp [Instr.sliceBounds, e, hr _ _ h1]
    | some x =>
      obtain ⟨v, hv, hr⟩ := bound_ok (C := C) (w := w) (y := cap) (code := if b then .sliceAcap else .sliceAlen) hh (by omega) (by omega) rfl
      rcases low with ⟨e, rfl⟩ | ⟨v2, e, hr2⟩
      · simp [Instr.sliceBounds, e, hv, hr]
      · simp [Instr.sliceBounds, e, hv, hr, hr2 h.toNat _ (by omega)]
  | some z =>
    cases hi with
    | none => simp at hn
    | some x =>
      obtain ⟨vm, hvm, hrm⟩ := bound_ok (C := C) (w := w) (y := cap) (code := if b then .slice3Acap else .slice3Alen) hm (by omega) (by omega) rfl
      obtain ⟨v, hv, hr⟩ := bound_ok (C := C) (w := w) (y := m.toNat) (code := .slice3B) hh (by omega) (by omega) rfl
      rcases low with ⟨e, rfl⟩ | ⟨v2, e, hr2⟩
      · simp [Instr.sliceBounds, e, hv, hr, hvm, hrm]
      · simp [Instr.sliceBounds, e, hv, hr, hvm, hrm, hr2 h.toNat _ (by omega)]

theorem slice_ok {T : TypeId} {x : Operand} {lo hi mx : Option Operand} (ho : o.op = .slice T x lo hi mx) (hn : mx.isSome = true → hi.isSome = true) (h : vcSlice C s G T x lo hi mx R) : QOk C E G s u o R := by
  unfold vcSlice at h
  split at h
  case h_2 => exact h.elim
  rename_i i hi'
  obtain ⟨d, hd1, hd2, _⟩ := run_und hi'
  split at h
  · rename_i e he
    rw [he] at hd2
    obtain rfl := fits_slice hd2
    split at h
    case h_2 => exact h.elim
    rename_i ie hie
    split at h
    case h_2 => exact h.elim
    rename_i A len cap hx
    split at h
    case h_2 => exact h.elim
    rename_i m hm
    split at h
    case h_2 => exact h.elim
    rename_i hh hhh
    split at h
    case h_2 => exact h.elim
    rename_i l hl
    refine ⟨_, h.2, trivial, fun hG w _ => ?_⟩
    obtain ⟨h0, h1, h2, h3⟩ := h.1.get hG
    have hb := sliceBounds_ok (C := C) (b := true) hl hhh hm hn h0 h1 h2 h3 w
    simp [execOp, ho, Instr.sliceAt, Instr.slice, eg_v hx, hd1, run_size hie, hb, PV.val, subA]
  · rename_i he
    rw [he] at hd2
    obtain rfl := fits_string hd2
    split at h
    · exact h.elim
    split at h
    case h_2 => exact h.elim
    rename_i t hx
    split at h
    case h_2 => exact h.elim
    rename_i hh hhh
    split at h
    case h_2 => exact h.elim
    rename_i l hl
    refine ⟨_, h.2, trivial, fun hG w _ => ?_⟩
    obtain ⟨h0, h1, h2⟩ := h.1.get hG
    have hb := sliceBounds_ok (C := C) (b := false) (mx := none) (m := t.size) hl hhh rfl (by simp) h0 h1 h2 (by omega) w
    simp only [Option.map_none] at hb
    simp [execOp, ho, Instr.sliceAt, Instr.slice, eg_v hx, hd1, hb, PV.val]
  · rename_i n e he
    rw [he] at hd2
    obtain rfl := fits_arr hd2
    split at h
    case h_2 => exact h.elim
    rename_i ie hie
    split at h
    case h_2 => exact h.elim
    rename_i a hx
    split at h
    case h_2 => exact h.elim
    rename_i m hm
    split at h
    case h_2 => exact h.elim
    rename_i hh hhh
    split at h
    case h_2 => exact h.elim
    rename_i l hl
    refine ⟨_, h.2, trivial, fun hG w _ => ?_⟩
    obtain ⟨h0, h1, h2, h3⟩ := h.1.get hG
    have hb := sliceBounds_ok (C := C) (b := false) hl hhh hm hn h0 h1 h2 h3 w
    simp only [execOp, ho, Instr.sliceAt, hx, hd1, Instr.sureAddr, Sem.run_bind, Sem.run_pure, Result.andThen_ok, hb, run_size hie, PV.val, subA]
    split <;> rfl
  · exact h.elim

theorem byRun_ok (h : byRun C E s u G o R) : QOk C E G s u o R := by
  obtain ⟨v, h1, h2⟩ := h
  exact ⟨.v v, h2, trivial, fun hG w hat => h1.get hG w hat⟩
theorem conv_ok {src dst : TypeId} {x : Operand} (ho : o.op = .convert src dst x) (h : vcConv C E s u G o src dst x R) : QOk C E G s u o R := by
  unfold vcConv at h
  split at h
  case h_2 => exact h.elim
  rename_i i hi
  split at h
  case h_2 =>
    rename_i kk he
    split at h
    case h_2 => exact h.elim
    rename_i id hid
    split at h
    case h_2 => exact byRun_ok h
    rename_i k hk
    split at h
    case h_2 => exact h.elim
    rename_i q n hx
    obtain ⟨d, hd1, hd2, _⟩ := run_und hi
    rw [he] at hd2
    obtain rfl := fits_int hd2
    obtain ⟨d', hd1', hd2', _⟩ := run_und hid
    rw [hk] at hd2'
    obtain rfl := fits_int hd2'
    refine ⟨_, h, trivial, fun hG w _ => ?_⟩
    simp [execOp, ho, convert, hd1, hd1', eg_v hx, Conv.intToInt, PV.val]
  case h_3 =>
    rename_i he
    split at h
    case h_2 => exact h.elim
    rename_i id hid
    split at h
    case h_2 => exact byRun_ok h
    rename_i hk
    split at h
    case h_2 => exact h.elim
    rename_i t hx
    obtain ⟨d, hd1, hd2, _⟩ := run_und hi
    rw [he] at hd2
    obtain rfl := fits_string hd2
    obtain ⟨d', hd1', hd2', _⟩ := run_und hid
    rw [hk] at hd2'
    obtain rfl := fits_string hd2'
    refine ⟨_, h, trivial, fun hG w _ => ?_⟩
    simp [execOp, ho, convert, hd1, hd1', eg_v hx, PV.val]
  case h_4 => exact byRun_ok h
  rename_i e he
  split at h
  case h_2 => exact h.elim
  rename_i ie id hie hid
  split at h
  case h_2 => exact h.elim
  rename_i hie2 hid2
  split at h
  case h_2 => exact h.elim
  rename_i A len cap hx
  obtain ⟨bs, hb, hR⟩ := h
  refine ⟨_, hR, trivial, fun hG w hat => ?_⟩
  obtain ⟨hl, hA, hc⟩ := hb.get hG
  obtain ⟨d, hd1, hd2, _⟩ := run_und hi
  rw [he] at hd2
  obtain rfl := fits_slice hd2
  obtain ⟨de, he1, he2, _⟩ := run_und hie
  rw [hie2] at he2
  obtain rfl := fits_int he2
  obtain ⟨dd, hdd1, hdd2, _⟩ := run_und hid
  rw [hid2] at hdd2
  obtain rfl := fits_string hdd2
  simp only [execOp, ho, convert, Sem.run_bind, hd1, hdd1, he1, Result.andThen_ok, eg_v hx, PV.val]
  cases A with
  | none =>
    have h0 : len = 0 := by
      rcases Nat.eq_zero_or_pos len with h0 | h0
      · exact h0
      · simp at hA; omega
    have : bs = [] := List.eq_nil_of_length_eq_zero (by omega)
    subst this
    simp only [Conv.bytesToString, Sem.run_pure, Result.andThen_ok, pure_bind, Sem.run_bind]
    rfl
  | some a =>
    have hcs : CellsAt w a ((bs.map fun b => (b.toNat : Int)).map (Value.int .u8)) := by
      intro j v hj
      rw [List.getElem?_map, List.getElem?_map] at hj
      obtain ⟨n, hn, rfl⟩ := Option.map_eq_some_iff.1 hj
      obtain ⟨b, hb, rfl⟩ := Option.map_eq_some_iff.1 hn
      exact hc w hat j b hb
    have hrun := run_loadCells_at (P := C.P) hcs
    rw [List.length_map, List.length_map, hl] at hrun
    have hs := run_bytesToString (P := C.P) w a len cap _ hrun
    rw [hs]
    have key : ∀ (l : List UInt8) (acc : ByteArray), (l.map fun b => (b.toNat : Int)).foldl (fun r n => r.push (UInt8.ofNat n.toNat)) acc = ⟨acc.data ++ l.toArray⟩ := by
      intro l
      induction l with
      | nil => intro acc; simp
      | cons b l ih =>
        intro acc
        simp only [List.map_cons, List.foldl_cons]
        rw [ih]
        simp [ByteArray.push]
    rw [key]
    simp [ByteArray.empty, ByteArray.emptyWithCapacity]
    rfl

theorem eqIn_slice {P : Program} {T e : TypeId} (hT : ∀ w, (underlying T).run P w = .ok (.slice e) w) (d : Nat) (A : Option Addr) (n c k l : Nat) (w : World) :
    (Op.equalIn (d + 1) T (.slice A n c) (.slice none k l)).run P w = .ok A.isNone w := by
  cases A <;> simp [Op.equalIn, hT]
theorem eqIn_ptr {P : Program} {T e : TypeId} (hT : ∀ w, (underlying T).run P w = .ok (.pointer e) w) (d : Nat) (A : Option Addr) (w : World) :
    (Op.equalIn (d + 1) T (.pointer A) (.pointer none)).run P w = .ok A.isNone w := by
  cases A <;> simp [Op.equalIn, hT]
theorem eq_slice {P : Program} {T e : TypeId} (hT : ∀ w, (underlying T).run P w = .ok (.slice e) w) (A : Option Addr) (n c k l : Nat) (w : World) :
    (Op.equal T (.slice A n c) (.slice none k l)).run P w = .ok A.isNone w := eqIn_slice hT 9999 A n c k l w
theorem eq_ptr {P : Program} {T e : TypeId} (hT : ∀ w, (underlying T).run P w = .ok (.pointer e) w) (A : Option Addr) (w : World) :
    (Op.equal T (.pointer A) (.pointer none)).run P w = .ok A.isNone w := eqIn_ptr hT 9999 A w

theorem eqIn_bool {P : Program} {T : TypeId} (hT : ∀ w, (underlying T).run P w = .ok .bool w) (d : Nat) (a b : Bool) (w : World) :
    (Op.equalIn (d + 1) T (.bool a) (.bool b)).run P w = .ok (a == b) w := by
  simp [Op.equalIn, hT]
theorem eq_bool {P : Program} {T : TypeId} (hT : ∀ w, (underlying T).run P w = .ok .bool w) (a b : Bool) (w : World) :
    (Op.equal T (.bool a) (.bool b)).run P w = .ok (a == b) w := eqIn_bool hT 9999 a b w
theorem eqB_ok {T t' : TypeId} {x y : Operand} {a : Bool} (ho : o.op = .binOp .eql T x y t') (hx : s.eg G x = .bool a) (h : vcEqB C s G T (fun b => b) a y R) : QOk C E G s u o R := by
  unfold vcEqB at h
  split at h
  case h_2 => exact h.elim
  rename_i i hi
  split at h
  case h_2 => exact h.elim
  rename_i e
  split at h
  case h_2 => exact h.elim
  rename_i b hy
  obtain ⟨d, hd1, hd2, _⟩ := run_und hi
  rw [e] at hd2
  obtain rfl := fits_bool hd2
  refine ⟨_, h, trivial, fun hG w _ => ?_⟩
  simp [execOp, ho, hx, hy, eqGuard, binOp, eq_bool hd1, PV.val]
theorem neB_ok {T t' : TypeId} {x y : Operand} {a : Bool} (ho : o.op = .binOp .neq T x y t') (hx : s.eg G x = .bool a) (h : vcEqB C s G T not a y R) : QOk C E G s u o R := by
  unfold vcEqB at h
  split at h
  case h_2 => exact h.elim
  rename_i i hi
  split at h
  case h_2 => exact h.elim
  rename_i e
  split at h
  case h_2 => exact h.elim
  rename_i b hy
  obtain ⟨d, hd1, hd2, _⟩ := run_und hi
  rw [e] at hd2
  obtain rfl := fits_bool hd2
  refine ⟨_, h, trivial, fun hG w _ => ?_⟩
  simp [execOp, ho, hx, hy, eqGuard, binOp, eq_bool hd1, PV.val]
theorem eg_c {x : Operand} {k : Nat} (h : s.pg G x = .c k) : s.eg G x = .bool (cnd s.cs k) := by unfold St.eg; rw [h]; rfl

theorem bin_ok {op : BinOp} {T t' : TypeId} {x y : Operand} (ho : o.op = .binOp op T x y t') (h : vcBin C E s u G o op T x y R) : QOk C E G s u o R := by
  unfold vcBin at h
  split at h
  · split at h
    · exact pureQ_ok h
    · split at h
      case h_2 => exact h.elim
      rename_i k a hx
      split at h
      case h_2 => exact h.elim
      rename_i k' b hy
      obtain ⟨⟨rfl, h1⟩, hR⟩ := h
      refine ⟨_, hR, trivial, fun hG w _ => ?_⟩
      simp [execOp, ho, eg_v hx, eg_v hy, eqGuard, binOp, Op.intDiv, h1.get hG, PV.val]
  · split at h
    · exact pureQ_ok h
    · split at h
      case h_2 => exact h.elim
      rename_i k a hx
      split at h
      case h_2 => exact h.elim
      rename_i k' b hy
      obtain ⟨⟨rfl, h1⟩, hR⟩ := h
      refine ⟨_, hR, trivial, fun hG w _ => ?_⟩
      simp [execOp, ho, eg_v hx, eg_v hy, eqGuard, binOp, Op.intDiv, h1.get hG, PV.val]
  · split at h
    · exact pureQ_ok h
    · split at h
      case h_2 => exact h.elim
      rename_i k a hx
      split at h
      case h_2 => exact h.elim
      rename_i k' b hy
      obtain ⟨h1, hR⟩ := h
      refine ⟨_, hR, trivial, fun hG w _ => ?_⟩
      have h2 : ¬ b < 0 := by have := h1.get hG; omega
      simp [execOp, ho, eg_v hx, eg_v hy, eqGuard, binOp, Op.shift, h2, PV.val]
  · split at h
    · exact pureQ_ok h
    · split at h
      case h_2 => exact h.elim
      rename_i k a hx
      split at h
      case h_2 => exact h.elim
      rename_i k' b hy
      obtain ⟨h1, hR⟩ := h
      refine ⟨_, hR, trivial, fun hG w _ => ?_⟩
      have h2 : ¬ b < 0 := by have := h1.get hG; omega
      simp [execOp, ho, eg_v hx, eg_v hy, eqGuard, binOp, Op.shift, h2, PV.val]
  · split at h
    · rename_i a hx
      split at h
      case h_2 => exact h.elim
      rename_i b hy
      obtain ⟨h1, hR⟩ := h
      refine ⟨_, hR, trivial, fun hG w _ => ?_⟩
      have h2 : ¬ (((a.size + b.size : Nat) : Int) > IntKind.i64.max) := by
        have := h1.get hG
        have e : IntKind.i64.max = 9223372036854775807 := by decide
        rw [e]; omega
      simp only [execOp, ho, eg_v hx, eg_v hy, eqGuard, binOp, Op.stringOp, PV.val, Sem.run_bind, Sem.run_ite, if_neg h2]
      rfl
    · exact pureQ_ok h
  · split at h
    · exact byRun_ok h
    · rename_i a hx
      exact eqB_ok ho (eg_v hx) h
    · rename_i k hx
      rw [cndK_eq] at h
      exact eqB_ok ho (eg_c hx) h
    · rename_i A n c hx
      split at h
      case h_2 => exact h.elim
      rename_i i hi
      split at h
      case h_2 => exact h.elim
      rename_i e he
      split at h
      case h_2 => exact h.elim
      obtain ⟨d, hd1, hd2, _⟩ := run_und hi
      rw [he] at hd2
      obtain rfl := fits_slice hd2
      refine ⟨_, h, trivial, fun hG w _ => ?_⟩
      have hy : ∀ k l : Nat, s.eg G (.const (.slice none k l)) = .slice none k l := fun _ _ => rfl
      simp [execOp, ho, eg_v hx, hy, eqGuard, binOp, eq_slice hd1, PV.val]
    · rename_i A hx
      split at h
      case h_2 => exact h.elim
      rename_i i hi
      split at h
      case h_2 => exact h.elim
      rename_i e he
      split at h
      case h_2 => exact h.elim
      obtain ⟨d, hd1, hd2, _⟩ := run_und hi
      rw [he] at hd2
      obtain rfl := fits_ptr hd2
      refine ⟨_, h, trivial, fun hG w _ => ?_⟩
      have hy : s.eg G (.const (.pointer none)) = .pointer none := rfl
      simp [execOp, ho, eg_v hx, hy, eqGuard, binOp, eq_ptr hd1, PV.val]
    · rename_i j o' hx
      split at h
      case h_2 => exact h.elim
      rename_i i hi
      split at h
      case h_2 => exact h.elim
      rename_i e he
      split at h
      case h_2 => exact h.elim
      obtain ⟨d, hd1, hd2, _⟩ := run_und hi
      rw [he] at hd2
      obtain rfl := fits_ptr hd2
      refine ⟨_, h, trivial, fun hG w _ => ?_⟩
      have hxe : s.eg G x = .pointer (some ⟨bid s.b j, o', none⟩) := by unfold St.eg; rw [hx]; rfl
      have hy : s.eg G (.const (.pointer none)) = .pointer none := rfl
      simp [execOp, ho, hxe, hy, eqGuard, binOp, eq_ptr hd1, PV.val]
    · exact pureQ_ok h
  · split at h
    · exact byRun_ok h
    · rename_i a hx
      exact neB_ok ho (eg_v hx) h
    · rename_i k hx
      rw [cndK_eq] at h
      exact neB_ok ho (eg_c hx) h
    · rename_i A n c hx
      split at h
      case h_2 => exact h.elim
      rename_i i hi
      split at h
      case h_2 => exact h.elim
      rename_i e he
      split at h
      case h_2 => exact h.elim
      obtain ⟨d, hd1, hd2, _⟩ := run_und hi
      rw [he] at hd2
      obtain rfl := fits_slice hd2
      refine ⟨_, h, trivial, fun hG w _ => ?_⟩
      have hy : ∀ k l : Nat, s.eg G (.const (.slice none k l)) = .slice none k l := fun _ _ => rfl
      simp [execOp, ho, eg_v hx, hy, eqGuard, binOp, eq_slice hd1, PV.val]
    · rename_i A hx
      split at h
      case h_2 => exact h.elim
      rename_i i hi
      split at h
      case h_2 => exact h.elim
      rename_i e he
      split at h
      case h_2 => exact h.elim
      obtain ⟨d, hd1, hd2, _⟩ := run_und hi
      rw [he] at hd2
      obtain rfl := fits_ptr hd2
      refine ⟨_, h, trivial, fun hG w _ => ?_⟩
      have hy : s.eg G (.const (.pointer none)) = .pointer none := rfl
      simp [execOp, ho, eg_v hx, hy, eqGuard, binOp, eq_ptr hd1, PV.val]
    · rename_i j o' hx
      split at h
      case h_2 => exact h.elim
      rename_i i hi
      split at h
      case h_2 => exact h.elim
      rename_i e he
      split at h
      case h_2 => exact h.elim
      obtain ⟨d, hd1, hd2, _⟩ := run_und hi
      rw [he] at hd2
      obtain rfl := fits_ptr hd2
      refine ⟨_, h, trivial, fun hG w _ => ?_⟩
      have hxe : s.eg G x = .pointer (some ⟨bid s.b j, o', none⟩) := by unfold St.eg; rw [hx]; rfl
      have hy : s.eg G (.const (.pointer none)) = .pointer none := rfl
      simp [execOp, ho, hxe, hy, eqGuard, binOp, eq_ptr hd1, PV.val]
    · exact pureQ_ok h
  · exact pureQ_ok h

theorem index_ok {T : TypeId} {x ix : Operand} {i : TyI} (ho : o.op = .index T x ix) (hi : C.ty T = some i) (hd : i.desc = .string)
    {t : ByteArray} {kk : IntKind} {j : Int} (hx : s.pg G x = .v (.string t)) (hj : s.pg G ix = .v (.int kk j)) (h : Und s G (0 ≤ j ∧ j < t.size) ∧ R (.v (.int .u8 (byteAt t j.toNat)))) : QOk C E G s u o R := by
  obtain ⟨d, hd1, hd2, _⟩ := run_und hi
  rw [hd] at hd2
  obtain rfl := fits_string hd2
  refine ⟨_, h.2, trivial, fun hG w _ => ?_⟩
  obtain ⟨h0, h1⟩ := h.1.get hG
  have hlt : j.toNat < t.data.toList.length := by rw [Array.length_toList]; show j.toNat < t.size; omega
  have hlt2 : j.toNat < t.size := by omega
  simp only [execOp, ho, Instr.index, eg_v hx, eg_v hj, asIntOf, hd1, Sem.run_bind, Sem.run_pure, Result.andThen_ok, if_pos h0, PV.val]
  have e : t[j.toNat]? = some t[j.toNat] := getElem?_pos t j.toNat hlt2
  rw [e]
  simp only [Sem.run_pure, Result.andThen_ok]
  congr 3
  unfold byteAt
  rw [List.getD_eq_getElem?_getD, List.getElem?_eq_getElem hlt]
  rfl

theorem setL_eq : ∀ (cs : List Value) (off : Nat) (vs : List Value), off + vs.length ≤ cs.length → setL cs off vs = cs.take off ++ vs ++ cs.drop (off + vs.length)
  | cs, 0, vs, _ => by simp [setL]
  | [], off + 1, vs, h => by simp at h
  | c :: cs, off + 1, vs, h => by
    simp only [setL, List.take_succ_cons, List.cons_append]
    rw [setL_eq cs off vs (by simp at h; omega)]
    rw [show off + 1 + vs.length = (off + vs.length) + 1 by omega, List.drop_succ_cons]
theorem setL_length {cs : List Value} {off : Nat} {vs : List Value} (h : off + vs.length ≤ cs.length) : (setL cs off vs).length = cs.length := by
  rw [setL_eq _ _ _ h]; simp; omega

theorem fill_step (size : Nat) (c : Array Value) : ∀ (v : List Value) (pre post mid : List Value), mid.length = v.length → c = (pre ++ mid ++ post).toArray →
    (v.toArray.zipIdx.foldl (fun cs (x, j) => cs.setIfInBounds (pre.length + j) x) c) = (pre ++ v ++ post).toArray := by
  intro v pre post mid hm hc
  have key : ∀ (v mid : List Value) (k : Nat) (pre' : List Value), mid.length = v.length → pre'.length = pre.length + k →
      ((v.zipIdx k).foldl (fun (cs : Array Value) (x : Value × Nat) => cs.setIfInBounds (pre.length + x.2) x.1) (pre' ++ mid ++ post).toArray) = (pre' ++ v ++ post).toArray := by
    intro v
    induction v with
    | nil => intro mid k pre' hm _; have : mid = [] := List.eq_nil_of_length_eq_zero hm; subst this; rfl
    | cons x v ih =>
      intro mid k pre' hm hk
      cases mid with
      | nil => simp at hm
      | cons y mid =>
        simp only [List.zipIdx_cons, List.foldl_cons]
        have : ((pre' ++ y :: mid ++ post).toArray.setIfInBounds (pre.length + k) x) = ((pre' ++ [x]) ++ mid ++ post).toArray := by
          rw [List.setIfInBounds_toArray]
          congr 1
          rw [← hk, List.append_assoc, List.set_append_right _ _ (Nat.le_refl _)]
          simp
        rw [this, ih mid (k + 1) (pre' ++ [x]) (by simpa using hm) (by simp; omega)]
        simp
  subst hc
  have := key v mid 0 pre hm (by simp)
  rw [← this]
  simp [List.foldl_toArray']

theorem buildL_ok {pl : Nat → Option (Nat × Nat)} {k : List Value → Prop} : ∀ (ps : List (Nat × Operand)) (cs : List Value), buildL s G pl ps cs k →
    ∃ cs', Instr.fill pl cs.toArray (ps.map fun x => (x.1, s.eg G x.2)) = some cs'.toArray ∧ k cs'
  | [], cs, h => ⟨cs, rfl, h⟩
  | p :: r, cs, h => by
    unfold buildL at h
    split at h
    · exact h.elim
    rename_i q hq
    rw [egF_eq] at h
    split at h
    case h_2 => exact h.elim
    rename_i hb
    simp only [Bool.and_eq_true] at hb
    have h1 := Nat.eq_of_beq_eq_true hb.1
    have h2 := Nat.le_of_ble_eq_true hb.2
    obtain ⟨cs', h3, h4⟩ := buildL_ok r _ h
    refine ⟨cs', ?_, h4⟩
    obtain ⟨off, size⟩ := q
    simp only at h1 h2 h3
    have hsz : (s.eg G p.2).cells.size = size := by rw [← h1]; simp
    simp only [List.map_cons, Instr.fill, hq]
    rw [if_neg (by simp only [hsz, List.size_toArray]; simp; omega)]
    have hcs : cs = cs.take off ++ (cs.drop off).take size ++ cs.drop (off + size) := by
      rw [List.append_assoc, ← List.drop_drop, List.take_append_drop, List.take_append_drop]
    have := fill_step size cs.toArray (s.eg G p.2).cells.toList (cs.take off) (cs.drop (off + size)) ((cs.drop off).take size) (by rw [List.length_take, List.length_drop, h1]; omega) (by rw [← hcs])
    rw [List.length_take, Nat.min_eq_left (by omega), Array.toArray_toList] at this
    rw [this, ← h1, ← setL_eq _ _ _ (by rw [h1]; exact h2)]
    exact h3
theorem plc_ok : ∀ (fs : List Field) (l : List (Nat × Nat)), plc C (fs.map fun f => (f.offset, f.type)) = some l → fs.mapM (fun f => (C.P.info? f.type).map fun i => (f.offset, i.size)) = some l
  | [], l, h => by simp only [List.map_nil, plc, Option.some.injEq] at h; subst h; rfl
  | f :: r, l, h => by
    simp only [List.map_cons, plc] at h
    split at h
    case h_2 => cases h
    rename_i i hi
    split at h
    case h_2 => cases h
    rename_i q hq
    simp only [Option.some.injEq] at h
    subst h
    obtain ⟨inf, h1, h2, _⟩ := (C.tyOk _ i hi).info
    rw [List.mapM_cons, plc_ok r q hq, h1]
    simp [h2]
theorem build_ok {T : TypeId} {parts : Array (Nat × Operand)} (ho : o.op = .build T parts) (h : vcBuild C s G T parts.toList R) : QOk C E G s u o R := by
  unfold vcBuild at h
  split at h
  case h_2 => exact h.elim
  rename_i i hi
  obtain ⟨d, hd1, hd2, hd3⟩ := run_und hi
  obtain ⟨inf, i1, i2, i3, i4⟩ := (C.tyOk T i hi).info
  obtain ⟨z, hz, hzc⟩ := Option.map_eq_some_iff.1 i4
  have hmap : (parts.map fun x => (x.1, s.eg G x.2)).toList = parts.toList.map fun x => (x.1, s.eg G x.2) := by simp
  split at h
  · rename_i fs hfs
    rw [hfs] at hd2
    obtain ⟨gs, rfl, rfl⟩ := fits_struct hd2
    split at h
    case h_2 => exact h.elim
    rename_i l hl
    obtain ⟨cs', h3, h4⟩ := buildL_ok _ _ h
    refine ⟨_, h4, trivial, fun hG w _ => ?_⟩
    have hb : C.P.built T (parts.map fun x => (x.1, s.eg G x.2)).toList = some cs'.toArray := by
      rw [hmap]
      unfold Program.built
      have := plc_ok _ _ hl
      simp only [i1, hd3, hz, this, hzc, Option.bind_eq_bind, Option.bind_some]
      simpa [nth_get] using h3
    have := run_build (P := C.P) w T _ _ hb
    simp only [execOp, ho]
    simp [this, PV.val]
  · rename_i n e hde
    rw [hde] at hd2
    obtain rfl := fits_arr hd2
    split at h
    case h_2 => exact h.elim
    rename_i ie hie
    obtain ⟨cs', h3, h4⟩ := buildL_ok _ _ h
    refine ⟨_, h4, trivial, fun hG w _ => ?_⟩
    have hb : C.P.built T (parts.map fun x => (x.1, s.eg G x.2)).toList = some cs'.toArray := by
      rw [hmap]
      obtain ⟨inf', j1, j2, _⟩ := (C.tyOk e ie hie).info
      unfold Program.built
      simp only [i1, hd3, hz, hzc, j1, j2, Option.bind_eq_bind, Option.bind_some]
      simpa using h3
    have := run_build (P := C.P) w T _ _ hb
    simp only [execOp, ho]
    simp [this, PV.val]
  · exact h.elim

theorem arrOf {α : Type} {T : α} {A : Array α} (h : A.toList = [T]) : A = #[T] := by
  cases A with | mk l => simp at h; subst h; rfl
theorem len_ok {c : Call} {big : Bool} (ho : o.op = .call c) (hc : c.callee = .builtin (bif big then .cap else .len)) (h : vcLen C E s u G o big c R) : QOk C E G s u o R := by
  obtain ⟨cal, args, tys⟩ := c
  simp only at hc
  subst hc
  unfold vcLen at h
  split at h
  case h_2 => exact h.elim
  rename_i T hT
  split at h
  case h_2 => exact h.elim
  rename_i x hx
  simp only at hT hx
  obtain rfl := arrOf hT
  obtain rfl := arrOf hx
  split at h
  case h_2 => exact h.elim
  rename_i i hi
  obtain ⟨d, hd1, hd2, _⟩ := run_und hi
  split at h
  · rename_i e he
    rw [he] at hd2
    obtain rfl := fits_slice hd2
    split at h
    case h_2 => exact h.elim
    rename_i A n m hv
    cases big
    all_goals refine ⟨_, h, trivial, fun hG w _ => ?_⟩
    all_goals simp [execOp, ho, resolve, invoke, builtin, Builtin.len_, Builtin.cap_, hd1, eg_v hv, PV.val, goInt]
  · rename_i he
    rw [he] at hd2
    obtain rfl := fits_string hd2
    split at h
    · exact h.elim
    split at h
    case h_2 => exact h.elim
    rename_i t hv
    refine ⟨_, h, trivial, fun hG w _ => ?_⟩
    simp [execOp, ho, resolve, invoke, builtin, Builtin.len_, hd1, eg_v hv, PV.val, goInt]
  · rename_i n e he
    rw [he] at hd2
    obtain rfl := fits_arr hd2
    refine ⟨_, h, trivial, fun hG w _ => ?_⟩
    cases big <;> simp [execOp, ho, resolve, invoke, builtin, Builtin.len_, Builtin.cap_, hd1, PV.val, goInt]
  · exact byRun_ok h

theorem vcQ_ok (hq : isQ C o.op = true) (hwf : s.wf) (h : vcQ C E G s u o R) : QOk C E G s u o R := by
  unfold vcQ at h
  split at h
  · rename_i x ho
    refine ⟨_, h, pg_ok hwf G x, fun _ w _ => ?_⟩
    simp [execOp, ho, St.eg]
  · rename_i x ho
    refine ⟨_, h, pg_ok hwf G x, fun _ w _ => ?_⟩
    simp [execOp, ho, St.eg]
  · exact pick_ok ‹_› h
  · exact field_ok ‹_› hwf h
  · exact indexAddr_ok ‹_› hwf h
  · exact load_ok ‹_› h
  · rename_i fn first captured ho
    rw [evK_eq, evK_eq] at h
    refine ⟨_, h, trivial, fun _ w _ => ?_⟩
    have e : ∀ a : Array Operand, (a.toList.map (s.eg G)).toArray = a.map (s.eg G) := fun a => by
      apply Array.ext'
      simp
    simp [execOp, ho, Instr.makeFunc, PV.val, e]
  · rename_i x k ho
    split at h
    case h_2 => exact h.elim
    rename_i vs hx
    split at h
    case h_2 => exact h.elim
    rename_i v hv
    refine ⟨_, h, trivial, fun _ w _ => ?_⟩
    rw [nth_get] at hv
    have hv' : vs[k]? = some v := by simpa using hv
    simp [execOp, ho, eg_v hx, Instr.extract, hv', PV.val]
  · exact build_ok ‹_› h
  · rename_i x ho
    have hok := pg_ok hwf G x
    split at h
    · rename_i j o' hx
      rw [hx] at hok
      refine ⟨_, h, hok, fun _ w _ => ?_⟩
      have : s.eg G x = .pointer (some ⟨bid s.b j, o', none⟩) := by unfold St.eg; rw [hx]; rfl
      simp [execOp, ho, this, PV.val]
    · rename_i j o' hx
      rw [hx] at hok
      refine ⟨_, h, hok, fun _ w _ => ?_⟩
      have : s.eg G x = .pointer (some ⟨bid s.b j, o', none⟩) := by unfold St.eg; rw [hx]; rfl
      simp [execOp, ho, this, PV.val]
    · rename_i a hx
      refine ⟨_, h, trivial, fun _ w _ => ?_⟩
      simp [execOp, ho, eg_v hx, PV.val]
    · exact h.elim
  · exact bin_ok ‹_› h
  · rename_i T x lo hi mx ho
    split at h
    · rename_i hb
      refine slice_ok ho (fun hm => ?_) h
      cases hi
      · cases mx
        · simp at hm
        · simp [slB] at hb
      · rfl
    · exact h.elim
  · rename_i T x ix ho
    split at h
    case h_2 => exact h.elim
    rename_i i hi
    split at h
    · rename_i hd
      split at h
      case h_2 => exact h.elim
      rename_i t hx
      split at h
      case h_2 => exact h.elim
      rename_i kk j hj
      exact index_ok ho hi hd hx hj h
    · exact pureQ_ok h
  · exact conv_ok ‹_› h
  · rename_i c ho
    split at h
    · exact len_ok (big := false) ho ‹_› h
    · exact len_ok (big := true) ho ‹_› h
    · rename_i hc
      obtain ⟨cal, args, tys⟩ := c
      simp only at hc h
      subst hc
      split at h
      case h_2 => exact h.elim
      rename_i x y hxy
      obtain rfl : args = #[x, y] := by cases args with | mk l => simp at hxy; subst hxy; rfl
      split at h
      case h_2 => exact h.elim
      rename_i k a hx
      split at h
      case h_2 => exact h.elim
      rename_i k' b hy
      refine ⟨_, h, trivial, fun hG w _ => ?_⟩
      simp [execOp, ho, resolve, invoke, builtin, Builtin.min_, Builtin.min2, eg_v hx, eg_v hy, PV.val]
    · exact pureQ_ok h
  · exact pureQ_ok h
end
end Go.Flow
