/- OWN WORK. Flow, part F: what slices in memory say. -/
import Derived.Test.YtdmengbemonkaaaFlowE
import Derived.Laws.BitsLemmas
set_option linter.unusedVariables false
set_option linter.unusedSimpArgs false
namespace Go.Flow
open Go

theorem ba_loop (bs : ByteArray) : ∀ (k i : Nat) (r : List UInt8), bs.size - i = k → ByteArray.toList.loop bs i r = r.reverse ++ bs.data.toList.drop i
  | 0, i, r, h => by
    unfold ByteArray.toList.loop
    rw [if_neg (by omega), List.drop_eq_nil_of_le (by rw [Array.length_toList]; show bs.size ≤ i; omega), List.append_nil]
  | k + 1, i, r, h => by
    unfold ByteArray.toList.loop
    have hi : i < bs.size := by omega
    have hi2 : i < bs.data.toList.length := by rw [Array.length_toList]; exact hi
    rw [if_pos hi, ba_loop bs k (i + 1) _ (by omega), List.drop_eq_getElem_cons hi2]
    have : bs.get! i = bs.data.toList[i] := by
      show bs.data[i]! = _
      rw [getElem!_pos bs.data i hi]; simp
    rw [this]; simp
theorem ba_toList (bs : ByteArray) : bs.toList = bs.data.toList := by
  unfold ByteArray.toList; rw [ba_loop bs _ 0 [] rfl]; rfl
theorem ba_mk (l : List UInt8) : (ByteArray.mk l.toArray).toList = l := by rw [ba_toList]

/-- memory older than n; memory from n on -/
def old (n : Nat) : Nat → Prop := fun b => b < n
def new (n : Nat) : Nat → Prop := fun b => n ≤ b

/-- what an element's cells say; F: the blocks on which that hangs -/
structure Kind (α : Type) where
  sz : Nat
  rep : World → (Nat → Prop) → List Value → α → Prop
  len : ∀ {w F cs x}, rep w F cs x → cs.length = sz
  one : ∀ {w F cs x}, rep w F cs x → all1 cs = true
  move : ∀ {w w' : World} {F cs x}, rep w F cs x → (∀ b, F b → b < w.heap.size → w'.heap[b]? = w.heap[b]?) → rep w' F cs x
  mono : ∀ {w : World} {F F' cs x}, rep w F cs x → (∀ b, F b → b < w.heap.size → F' b) → rep w F' cs x

/-- plain values -/
def Kind.plain {α : Type} (n : Nat) (enc : α → List Value) (h : ∀ x, (enc x).length = n) (h1 : ∀ x, all1 (enc x) = true) : Kind α where
  sz := n
  rep := fun _ _ cs x => cs = enc x
  len := fun e => by rw [e]; exact h _
  one := fun e => by rw [e]; exact h1 _
  move := fun e _ => e
  mono := fun e _ => e
def kU8 : Kind UInt8 := Kind.plain 1 (fun b => [.int .u8 (b.toNat : Int)]) (fun _ => rfl) (fun _ => rfl)
def kStr : Kind ByteArray := Kind.plain 1 (fun s => [.string s]) (fun _ => rfl) (fun _ => rfl)
def kInt (k : IntKind) : Kind Int := Kind.plain 1 (fun n => [.int k n]) (fun _ => rfl) (fun _ => rfl)

/-- elements one behind the other -/
def Row {α : Type} (d : Kind α) (w : World) (F : Nat → Prop) (a : Addr) (xs : List α) : Prop := ∀ j x, xs[j]? = some x → ∃ cs, d.rep w F cs x ∧ CellsAt w (a.add (j * d.sz)) cs
/-- a slice (address, length) that reads as a list -/
structure SliceR {α : Type} (d : Kind α) (w : World) (F : Nat → Prop) (A : Option Addr) (n : Nat) (xs : List α) : Prop where
  len : xs.length = n
  le : n ≤ 140737488355328
  some_ : 0 < n → A.isSome = true
  fits : 0 < n → F (adr A).block
  row : Row d w F (adr A) xs

theorem CellsAt.lt {w : World} {a : Addr} {cs : List Value} (h : CellsAt w a cs) (h0 : 0 < cs.length) : a.block < w.heap.size := by
  have := h 0 cs[0] (List.getElem?_eq_getElem h0)
  have := World.block_lt_of_cell? w _ this
  rwa [add_block] at this
theorem CellsAt.move {w w' : World} {a : Addr} {cs : List Value} (h : CellsAt w a cs) (hm : a.block < w.heap.size → w'.heap[a.block]? = w.heap[a.block]?) : CellsAt w' a cs := by
  intro j v hj
  have h1 := h j v hj
  have h2 := World.block_lt_of_cell? w _ h1
  rw [add_block] at h2
  exact (World.cell?_of_block (by rw [add_block]; exact hm h2)).trans h1

theorem add_zero (a : Addr) : a.add 0 = a := rfl
theorem CellsAt.head {w : World} {a : Addr} {v : Value} {r : List Value} (h : CellsAt w a (v :: r)) : w.cell? a = some v := h 0 v rfl
section
variable {α : Type} {d : Kind α} {w w' : World} {F F' : Nat → Prop} {A : Option Addr} {n : Nat} {xs : List α}
theorem SliceR.nil (d : Kind α) (w : World) (F : Nat → Prop) (A : Option Addr) : SliceR d w F A 0 [] := ⟨rfl, by omega, fun h => absurd h (by omega), fun h => absurd h (by omega), fun j x h => by simp at h⟩
theorem SliceR.move (h : SliceR d w F A n xs) (hm : ∀ b, F b → b < w.heap.size → w'.heap[b]? = w.heap[b]?) : SliceR d w' F A n xs := by
  refine ⟨h.len, h.le, h.some_, h.fits, fun j x hj => ?_⟩
  obtain ⟨cs, hr, hc⟩ := h.row j x hj
  have hn : 0 < n := by have := (List.getElem?_eq_some_iff.1 hj).1; have := h.len; omega
  exact ⟨cs, d.move hr hm, hc.move (by rw [add_block]; exact hm _ (h.fits hn))⟩
theorem SliceR.ext {S : Nat → Prop} (h : SliceR d w F A n xs) (hx : Ext S w w') (hd : ∀ b, F b → b < w.heap.size → ¬ S b) : SliceR d w' F A n xs := h.move (fun b hb hl => hx.keep b hl (hd b hb hl))
theorem SliceR.ext0 (h : SliceR d w F A n xs) (hx : Ext no w w') : SliceR d w' F A n xs := h.ext hx (fun _ _ _ h => h)
theorem SliceR.mono (h : SliceR d w F A n xs) (hF : ∀ b, F b → b < w.heap.size → F' b) (h0 : 0 < d.sz) : SliceR d w F' A n xs := by
  refine ⟨h.len, h.le, h.some_, fun hn => ?_, fun j x hj => ?_⟩
  · have h0' : 0 < xs.length := by have := h.len; omega
    obtain ⟨cs, hr, hc⟩ := h.row 0 xs[0] (List.getElem?_eq_getElem h0')
    have := hc.lt (by have := d.len hr; omega)
    rw [add_block] at this
    exact hF _ (h.fits hn) this
  · obtain ⟨cs, hr, hc⟩ := h.row j x hj
    exact ⟨cs, d.mono hr hF, hc⟩
theorem SliceR.here (h : SliceR d w F A n xs) (h0 : 0 < d.sz) : SliceR d w (fun k => F k ∧ k < w.heap.size) A n xs := h.mono (fun b hb hl => ⟨hb, hl⟩) h0
theorem SliceR.get (h : SliceR d w F A n xs) {j : Nat} {x : α} (hj : xs[j]? = some x) : ∃ cs, cs.length = d.sz ∧ d.rep w F cs x ∧ CellsAt w ((adr A).add (j * d.sz)) cs := by
  obtain ⟨cs, hr, hc⟩ := h.row j x hj
  exact ⟨cs, d.len hr, hr, hc⟩
theorem add_add (a : Addr) (m n : Nat) : (a.add m).add n = a.add (m + n) := by
  unfold Addr.add
  by_cases hm : m = 0
  · subst hm; simp
  · by_cases hn : n = 0
    · subst hn; simp
    · have : m + n ≠ 0 := by omega
      simp [hm, hn, Nat.add_assoc]
/-- a part of a slice -/
theorem SliceR.sub (h : SliceR d w F A n xs) (l k m : Nat) (hlk : l ≤ k) (hk : k ≤ n) (hm : k ≤ m) : SliceR d w F (subA A l m d.sz) (k - l) ((xs.take k).drop l) := by
  have hl : ((xs.take k).drop l).length = k - l := by have := h.len; simp; omega
  refine ⟨hl, by have := h.le; omega, fun h0 => ?_, fun h0 => ?_, fun j x hj => ?_⟩
  · unfold subA; rw [if_neg (by omega)]
    have := h.some_ (by omega)
    cases A <;> simp_all
  · unfold subA; rw [if_neg (by omega)]
    have h1 := h.some_ (by omega)
    have h2 := h.fits (by omega)
    cases A with
    | none => simp at h1
    | some a => simp only [Option.map_some, adr, Option.getD_some, add_block] at *; exact h2
  · have hjl := (List.getElem?_eq_some_iff.1 hj).1
    rw [hl] at hjl
    rw [List.getElem?_drop, List.getElem?_take] at hj
    rw [if_pos (by omega)] at hj
    obtain ⟨cs, hr, hc⟩ := h.row _ x hj
    refine ⟨cs, hr, ?_⟩
    have h1 := h.some_ (by omega)
    cases A with
    | none => simp at h1
    | some a =>
      unfold subA
      rw [if_neg (by omega)]
      simp only [Option.map_some, adr, Option.getD_some] at *
      rw [add_add, ← Nat.add_mul]
      exact hc
/-- bytes, as the walk asks for them -/
theorem SliceR.bytes {bs : List UInt8} (h : SliceR kU8 w F A n bs) : BytesAt w (adr A) bs := by
  intro j b hj
  obtain ⟨cs, hr, hc⟩ := h.row j b hj
  have hr' : cs = [.int .u8 (b.toNat : Int)] := hr
  subst hr'
  have := hc 0 _ rfl
  rw [add_add] at this
  simpa [kU8, Kind.plain] using this
end

theorem liveAll_imp {p q : Nat → Prop} : ∀ {l : List Box}, liveAll p l → (∀ i, p i → q i) → liveAll q l
  | [], _, _ => trivial
  | x :: r, h, hi => by
    unfold liveAll at h ⊢
    split at h
    · exact ⟨hi _ h.1, liveAll_imp h.2 hi⟩
    · exact liveAll_imp h hi

theorem take_snoc {α : Type} {xs : List α} {i : Nat} {m : α} (h : xs[i]? = some m) : xs.take (i + 1) = xs.take i ++ [m] := by
  obtain ⟨hi, rfl⟩ := List.getElem?_eq_some_iff.1 h
  exact List.take_succ_eq_append_getElem hi
theorem dlt {a b : Nat} (h : decide ((a : Int) < (b : Int)) = true) : a < b := by
  have := of_decide_eq_true h
  omega
theorem dge {a b : Nat} (h : decide ((a : Int) < (b : Int)) = false) : b ≤ a := by
  have := of_decide_eq_false h
  omega
theorem wrap_ok {n : Int} (h : -9223372036854775808 ≤ n) (h' : n ≤ 9223372036854775807) : IntKind.i64.wrap n = n := by
  rw [IntKind.wrap_i64]; omega
theorem next_i {i : Nat} (h : i ≤ 1000000000000000000) : Value.int .i64 (IntKind.i64.wrap ((i : Int) + 1)) = .int .i64 ((i + 1 : Nat) : Int) := by
  rw [wrap_ok (by omega) (by omega)]; rfl
/-! ### a slice of one's own -/
/-- the elements' cells, one behind the other -/
def Segs {α : Type} (d : Kind α) (w : World) (F : Nat → Prop) (xs : List α) (cells : List Value) : Prop := ∀ j x, xs[j]? = some x → d.rep w F ((cells.drop (j * d.sz)).take d.sz) x
/-- B: where its row may lie; F: what its elements hang on -/
def Own {α : Type} (d : Kind α) (e : TypeId) (w : World) (B F : Nat → Prop) (v : Value) (xs : List α) : Prop :=
  ∃ cells, w.ownsRow 0 e d.sz v xs.length cells ∧ Segs d w F xs cells ∧ xs.length ≤ 140737488355328 ∧ ∀ k, v.ownBlock = some k → B k ∧ ¬ F k
section
variable {α : Type} {d : Kind α} {e : TypeId} {w w' : World} {B B' F F' : Nat → Prop} {v : Value} {xs : List α}
theorem Own.nil (d : Kind α) (e : TypeId) (w : World) (B F : Nat → Prop) : Own d e w B F (.slice none 0 0) [] :=
  ⟨[], World.ownsRow_nil _ _ _ _, fun j x h => by simp at h, by simp, fun k h => by simp [Value.ownBlock] at h⟩
theorem ownsRow_lt {base size n : Nat} {cells : List Value} (h : w.ownsRow base e size v n cells) (k : Nat) (hk : v.ownBlock = some k) : k < w.heap.size := by
  rcases h.2 with ⟨rfl, _⟩ | ⟨g, cap, cur, rfl, _, hh, _⟩
  · simp [Value.ownBlock] at hk
  · have : g = k := by simpa [Value.ownBlock] using hk
    subst this
    exact (Array.getElem?_eq_some_iff.1 hh).1
theorem ownsRow_move {base size n : Nat} {cells : List Value} (h : w.ownsRow base e size v n cells) (hm : ∀ k, v.ownBlock = some k → w'.heap[k]? = w.heap[k]?) : w'.ownsRow base e size v n cells := by
  obtain ⟨h1, h2⟩ := h
  refine ⟨h1, ?_⟩
  rcases h2 with h2 | ⟨g, cap, cur, rfl, hg, hh, r⟩
  · exact .inl h2
  · exact .inr ⟨g, cap, cur, rfl, hg, (hm g (by simp [Value.ownBlock])).trans hh, r⟩
theorem Own.move (h : Own d e w B F v xs) (hm : ∀ b, (B b ∨ F b) → b < w.heap.size → w'.heap[b]? = w.heap[b]?) : Own d e w' B F v xs := by
  obtain ⟨cells, h1, h2, h3, h4⟩ := h
  exact ⟨cells, ownsRow_move h1 (fun k hk => hm k (.inl (h4 k hk).1) (ownsRow_lt h1 k hk)), fun j x hj => d.move (h2 j x hj) (fun b hb hl => hm b (.inr hb) hl), h3, h4⟩
theorem Own.ext {S : Nat → Prop} (h : Own d e w B F v xs) (hx : Ext S w w') (hd : ∀ b, (B b ∨ F b) → b < w.heap.size → ¬ S b) : Own d e w' B F v xs := h.move (fun b hb hl => hx.keep b hl (hd b hb hl))
theorem Own.ext0 (h : Own d e w B F v xs) (hx : Ext no w w') : Own d e w' B F v xs := h.ext hx (fun _ _ _ h => h)
theorem Own.mono (h : Own d e w B F v xs) (hB : ∀ b, B b → b < w.heap.size → B' b) (hF : ∀ b, F b → b < w.heap.size → F' b) (hd : ∀ b, B b → F' b → b < w.heap.size → F b) : Own d e w B' F' v xs := by
  obtain ⟨cells, h1, h2, h3, h4⟩ := h
  exact ⟨cells, h1, fun j x hj => d.mono (h2 j x hj) hF, h3, fun k hk => ⟨hB k (h4 k hk).1 (ownsRow_lt h1 k hk), fun hf => (h4 k hk).2 (hd k (h4 k hk).1 hf (ownsRow_lt h1 k hk))⟩⟩
theorem Own.here (h : Own d e w B F v xs) : Own d e w (fun k => B k ∧ k < w.heap.size) (fun k => F k ∧ k < w.heap.size) v xs :=
  h.mono (fun b hb hl => ⟨hb, hl⟩) (fun b hb hl => ⟨hb, hl⟩) (fun b _ hf _ => hf.1)
theorem Own.blk (h : Own d e w B F v xs) : ∀ k, v.ownBlock = some k → k < w.heap.size ∧ B k ∧ ¬ F k := by
  obtain ⟨cells, q1, _, _, q4⟩ := h
  exact fun k hk => ⟨ownsRow_lt q1 k hk, q4 k hk⟩
theorem Own.le (h : Own d e w B F v xs) : xs.length ≤ 140737488355328 := by obtain ⟨_, _, _, h, _⟩ := h; exact h
/-- as a slice that reads -/
theorem Own.slice (h : Own d e w B F v xs) : ∃ A c, v = .slice A xs.length c ∧ xs.length ≤ c ∧ SliceR d w (fun b => B b ∨ F b) A xs.length xs := by
  obtain ⟨cells, h1, h2, h3, h4⟩ := h
  rcases h1.2 with ⟨rfl, h0⟩ | ⟨g, cap, cur, rfl, _, hh, hnc, hcm, hcs, htake⟩
  · have : xs = [] := List.eq_nil_of_length_eq_zero h0
    subst this
    exact ⟨none, 0, rfl, by simp, SliceR.nil _ _ _ _⟩
  · refine ⟨some ⟨g, 0, none⟩, cap, rfl, hnc, rfl, h3, fun _ => rfl, fun _ => .inl (h4 g (by simp [Value.ownBlock])).1, fun j x hj => ⟨_, d.mono (h2 j x hj) (fun b hb _ => .inr hb), ?_⟩⟩
    intro i u hu
    rw [List.getElem?_take] at hu
    split at hu
    · rw [List.getElem?_drop] at hu
      simp only [adr, Option.getD_some, bid_add, Nat.zero_add]
      have := h1.cells (g := g) rfl (j * d.sz + i) u hu
      rw [bid_add, Nat.zero_add] at this
      exact this
    · cases hu

/-- append of one element, whose cells lie at an address -/
theorem Segs.snoc {cells cs : List Value} {x : α} (h : Segs d w F xs cells) (hl : cells.length = xs.length * d.sz) (hx : d.rep w F cs x) : Segs d w F (xs ++ [x]) (cells ++ cs) := by
  intro j y hj
  rcases Nat.lt_or_ge j xs.length with hlt | hge
  · rw [List.getElem?_append_left hlt] at hj
    have h1 : j * d.sz + d.sz ≤ cells.length := by rw [hl, ← Nat.succ_mul]; exact Nat.mul_le_mul_right _ hlt
    rw [List.drop_append_of_le_length (by omega), List.take_append_of_le_length (by rw [List.length_drop]; omega)]
    exact h j y hj
  · have hj' : j = xs.length := by
      have := (List.getElem?_eq_some_iff.1 hj).1
      simp at this; omega
    subst hj'
    have : x = y := by simpa using hj
    subst this
    rw [← hl, List.drop_left, List.take_of_length_le (by rw [d.len hx]; exact Nat.le_refl _)]
    exact hx
theorem Segs.append {cells cs : List Value} {ys : List α} (h : Segs d w F xs cells) (hl : cells.length = xs.length * d.sz) (hy : Segs d w F ys cs) : Segs d w F (xs ++ ys) (cells ++ cs) := by
  intro j y hj
  rcases Nat.lt_or_ge j xs.length with hlt | hge
  · rw [List.getElem?_append_left hlt] at hj
    have h1 : j * d.sz + d.sz ≤ cells.length := by rw [hl, ← Nat.succ_mul]; exact Nat.mul_le_mul_right _ hlt
    rw [List.drop_append_of_le_length (by omega), List.take_append_of_le_length (by rw [List.length_drop]; omega)]
    exact h j y hj
  · rw [List.getElem?_append_right hge] at hj
    have e : j * d.sz = cells.length + (j - xs.length) * d.sz := by rw [hl, ← Nat.add_mul]; congr 1; omega
    rw [e, ← List.drop_drop, List.drop_left]
    exact hy _ _ hj
theorem row_cells {a : Addr} : ∀ (xs : List α), Row d w F a xs → ∃ cells, cells.length = xs.length * d.sz ∧ CellsAt w a cells ∧ Segs d w F xs cells ∧ all1 cells = true := by
  intro xs h
  have key : ∀ m, m ≤ xs.length → ∃ cells, cells.length = m * d.sz ∧ CellsAt w a cells ∧ Segs d w F (xs.take m) cells ∧ all1 cells = true := by
    intro m
    induction m with
    | zero => intro _; exact ⟨[], by simp, fun j v hj => by simp at hj, fun j x hj => by simp at hj, rfl⟩
    | succ m ih =>
      intro hm
      obtain ⟨cells, h1, h2, h3, h4⟩ := ih (by omega)
      obtain ⟨cs, hr, hc⟩ := h m xs[m] (List.getElem?_eq_getElem (by omega))
      have hcl := d.len hr
      refine ⟨cells ++ cs, by rw [List.length_append, h1, hcl, Nat.succ_mul], fun j v hj => ?_, ?_, ?_⟩
      · rcases Nat.lt_or_ge j cells.length with hlt | hge
        · rw [List.getElem?_append_left hlt] at hj
          exact h2 j v hj
        · rw [List.getElem?_append_right hge] at hj
          have := hc _ v hj
          rw [add_add, h1, Nat.add_sub_cancel' (by omega)] at this
          exact this
      · rw [List.take_succ_eq_append_getElem (by omega)]
        exact h3.snoc (by rw [h1, List.length_take, Nat.min_eq_left (by omega)]) hr
      · have : ∀ (l : List Value), all1 l = true → all1 (l ++ cs) = true := by
          intro l
          induction l with
          | nil => intro _; exact d.one hr
          | cons x r ih => intro hx; simp only [all1, Bool.and_eq_true, List.cons_append] at *; exact ⟨hx.1, ih hx.2⟩
        exact this cells h4
  obtain ⟨cells, h1, h2, h3, h4⟩ := key xs.length (Nat.le_refl _)
  rw [List.take_length] at h3
  exact ⟨cells, h1, h2, h3, h4⟩

/-- append(v, ys...) on a slice of one's own; ys is read -/
theorem Own.append {C : Ctx} {T : TypeId} {it ie : TyI} (hT : C.ty T = some it) (hTd : it.desc = .slice e) (he : C.ty e = some ie) (hsz : ie.size = d.sz) (hs0 : 0 < d.sz)
    (h : Own d e w B F v xs) {a : Addr} {m c : Nat} {ys : List α} (hm : ys.length = m) (hy : Row d w F' a ys) (hdis : ∀ k, v.ownBlock = some k → ¬ F' k) (hb : (xs.length + m) * ie.bytes ≤ 140737488355328) (hb0 : 0 < ie.bytes) (ty : TypeId) :
    ∃ v' w', (Builtin.append_ #[T, T] ty #[v, .slice (some a) m c]).run C.P w = .ok v' w' ∧ Ext (fun k => v.ownBlock = some k) w w' ∧
      Own d e w' (fun k => B k ∨ w.heap.size ≤ k) (fun k => (F k ∨ F' k) ∧ k < w.heap.size) v' (xs ++ ys) ∧ (v'.ownBlock = v.ownBlock ∨ v'.ownBlock = some w.heap.size) ∧ (v' = .slice none 0 0 ↔ v = .slice none 0 0 ∧ m = 0) := by
  obtain ⟨cells, h1, h2, h3, h4⟩ := h
  obtain ⟨news, n1, n2, n3, n4⟩ := row_cells ys hy
  obtain ⟨dd, hd1, hd2, hd3⟩ := run_und hT
  rw [hTd] at hd2
  obtain rfl := fits_slice hd2
  obtain ⟨inf, i1, i2, i3, i4⟩ := (C.tyOk e ie he).info
  obtain ⟨z, hz, hzc⟩ := Option.map_eq_some_iff.1 i4
  have hzl := (C.tyOk e ie he).len
  have hlen : xs.length + m ≤ 140737488355328 := Nat.le_trans (Nat.le_mul_of_pos_right _ hb0) hb
  obtain ⟨v', w', r1, r2, r3, r4, r5⟩ := run_append_own_at (P := C.P) w 0 T ty e inf z d.sz ie.bytes hd3 i1 hz (by rw [i2, hsz]) i3 (by rw [hzc]; simp [hzl, hsz]) hs0 v xs.length cells h1 a m c news (by rw [n1, hm]) n2
    (fun u hu => all1_spec _ n4 u hu) (by simp only [maxLen]; omega) hb (by omega)
  have hx : Ext (fun k => v.ownBlock = some k) w w' := Ext.of_grown r3
  refine ⟨v', w', r1, hx, ⟨cells ++ news, ?_, ?_, by rw [List.length_append, hm]; exact hlen, ?_⟩, r5, r4⟩
  · rw [List.length_append, hm]; exact r2
  · refine Segs.append (fun j x hj => ?_) h1.1 (fun j x hj => ?_)
    · refine d.mono (F := fun k => F k ∧ k < w.heap.size) (d.move (d.mono (h2 j x hj) (fun b hb hl => ⟨hb, hl⟩)) (fun b hb hl => hx.keep b hl (fun hk => (h4 b hk).2 hb.1))) (fun b hb _ => ⟨.inl hb.1, hb.2⟩)
    · refine d.mono (F := fun k => F' k ∧ k < w.heap.size) (d.move (d.mono (n3 j x hj) (fun b hb hl => ⟨hb, hl⟩)) (fun b hb hl => hx.keep b hl (fun hk => hdis b hk hb.1))) (fun b hb _ => ⟨.inr hb.1, hb.2⟩)
  · intro k hk
    rcases r5 with r5 | r5
    · rw [r5] at hk
      exact ⟨.inl (h4 k hk).1, fun hf => hf.1.elim (fun hf => (h4 k hk).2 hf) (fun hf => hdis k hk hf)⟩
    · rw [r5] at hk
      injection hk with hk
      subst hk
      exact ⟨.inr (Nat.le_refl _), fun hf => absurd hf.2 (by omega)⟩

theorem Own.append0 {C : Ctx} {T : TypeId} {it ie : TyI} (hT : C.ty T = some it) (hTd : it.desc = .slice e) (he : C.ty e = some ie) (h : Own d e w B F v xs) (c : Nat) (ty : TypeId) :
    (Builtin.append_ #[T, T] ty #[v, .slice none 0 c]).run C.P w = .ok v w := by
  obtain ⟨cells, h1, h2, h3, h4⟩ := h
  obtain ⟨dd, hd1, hd2, hd3⟩ := run_und hT
  rw [hTd] at hd2
  obtain rfl := fits_slice hd2
  rcases h1.2 with ⟨rfl, h0⟩ | ⟨g, cap, cur, rfl, _, hh, hnc, hcm, hcs, htake⟩
  · simp [Builtin.append_, hd1, run_size he, Builtin.lenOf, Builtin.firstCells]
  · simp [Builtin.append_, hd1, run_size he, Builtin.lenOf, Builtin.firstCells, hnc, storeCells]

theorem row_one {x : α} {cs : List Value} {b : Nat} {t : TypeId} (hb : w.heap[b]? = some (.cells cs.toArray t (0, 0))) (hr : d.rep w F cs x) : Row d w F ⟨b, 0, none⟩ [x] := by
  intro j y hj
  cases j with
  | zero =>
    simp only [List.getElem?_cons_zero, Option.some.injEq] at hj
    subst hj
    refine ⟨cs, hr, fun i u hu => ?_⟩
    rw [Nat.zero_mul, bid_add, bid_add]
    simp [World.cell?, hb, hu]
  | succ j => simp at hj
end

section
variable {C : Ctx} {E : Env} {s : St} {u : World} {α : Type} {d : Kind α} {G : List (Nat × Bool)} {o : Oper} {x y : Operand} {T e : TypeId} {it ie : TyI} {K : Value → List Box → World → Prop}
/-- the runs of two builtins -/
theorem append_run {P : Program} {w : World} (ho : o.op = .call { callee := .builtin .append, args := #[x, y], argTypes := #[T, T] }) {v v2 v' : Value} {w' : World} (hv : s.eg G x = v) (hy : s.eg G y = v2)
    (hr : (Builtin.append_ #[T, T] o.type #[v, v2]).run P w = .ok v' w') : (execOp (s.eg G) o).run P w = .ok (.value v') w' := by
  simp [execOp, ho, resolve, invoke, builtin, hv, hy, hr]
theorem clear_run {P : Program} {w : World} (ho : o.op = .call { callee := .builtin .clear, args := #[x], argTypes := #[T] }) {v v' : Value} {w' : World} (hv : s.eg G x = v)
    (hr : (Builtin.clear_ #[T] o.type #[v]).run P w = .ok v' w') : (execOp (s.eg G) o).run P w = .ok (.value v') w' := by
  simp [execOp, ho, resolve, invoke, builtin, hv, hr]
/-- append, on a slice of one's own -/
theorem append_ev (d : Kind α) (dead : List Nat) (hT : C.ty T = some it) (hTd : it.desc = .slice e) (he : C.ty e = some ie) (hsz : ie.size = d.sz) (hs0 : 0 < d.sz) (hb0 : 0 < ie.bytes)
    (ho : o.op = .call { callee := .builtin .append, args := #[x, y], argTypes := #[T, T] }) {v : Value} (hv : s.eg G x = v) {A : Option Addr} {m c : Nat} (hy : s.eg G y = .slice A m c)
    (h : ∀ w, At E s u w → ∃ (B F F' : Nat → Prop) (xs ys : List α), Own d e w B F v xs ∧ ys.length = m ∧ (0 < m → A.isSome = true) ∧ Row d w F' (adr A) ys ∧ (∀ k, v.ownBlock = some k → ¬ F' k) ∧ (xs.length + m) * ie.bytes ≤ 140737488355328 ∧
      okS E w B ∧ liveAll (fun i => ¬ B i) (killL s.b dead) ∧
      ∀ v' w', Ext (fun k => v.ownBlock = some k) w w' → Own d e w' (fun k => B k ∨ w.heap.size ≤ k) (fun k => (F k ∨ F' k) ∧ k < w.heap.size) v' (xs ++ ys) → (v' = .slice none 0 0 ↔ v = .slice none 0 0 ∧ m = 0) → K v' (killL s.b dead) w') :
    GenP C E s u (execOp (s.eg G) o) K := by
  refine gen_ev dead fun w hat => ?_
  obtain ⟨B, F, F', xs, ys, h1, h2, h3, h4, h5, h6, h7, h8, h9⟩ := h w hat
  have hB : ∀ k, v.ownBlock = some k → B k ∧ k < w.heap.size := by
    obtain ⟨cells, q1, _, _, q4⟩ := h1
    exact fun k hk => ⟨(q4 k hk).1, ownsRow_lt q1 k hk⟩
  have hrun : ∀ r, (Builtin.append_ #[T, T] o.type #[v, .slice A m c]).run C.P w = r → (execOp (s.eg G) o).run C.P w = r.andThen fun v w => .ok (.value v) w := by
    intro r hr
    simp [execOp, ho, resolve, invoke, builtin, hv, hy, hr]
  cases A with
  | none =>
    have hm : m = 0 := by
      rcases Nat.eq_zero_or_pos m with h0 | h0
      · exact h0
      · simp at h3; omega
    subst hm
    have hys : ys = [] := List.eq_nil_of_length_eq_zero h2
    subst hys
    refine ⟨no, v, w, okS_no w, liveAll_imp h8 (fun _ _ h => h), hrun _ (Own.append0 hT hTd he h1 c _), Ext.refl _ _, h9 v w (Ext.refl _ _) ?_ (by simp)⟩
    rw [List.append_nil]
    obtain ⟨cells, q1, q2, q3, q4⟩ := h1
    exact ⟨cells, q1, fun j x hj => d.mono (q2 j x hj) (fun b hb hl => ⟨.inl hb, hl⟩), q3, fun k hk => ⟨.inl (q4 k hk).1, fun hf => hf.1.elim (fun hf => (q4 k hk).2 hf) (fun hf => h5 k hk hf)⟩⟩
  | some a =>
    obtain ⟨v', w', r1, r2, r3, r4, r5⟩ := h1.append hT hTd he hsz hs0 h2 h4 h5 h6 hb0 (c := c) o.type
    exact ⟨_, v', w', okS_mono h7 (fun k _ hs => (hB k hs).1), liveAll_imp h8 (fun i h hs => h (hB _ hs).1), hrun _ r1, r2, h9 v' w' r2 r3 r5⟩
end

/-- '[]byte("...")' of a constant: the literal's row gets a mark behind its last cell -/
theorem run_const {C : Ctx} {T e : TypeId} {it ie : TyI} (hT : C.ty T = some it) (hTd : it.desc = .slice e) (he : C.ty e = some ie) (hed : ie.desc = .int .u8) {w : World} {b n c : Nat} {cs : List Value} (hb : w.heap[b]? = some (.cells cs.toArray e (0, 0))) :
    ∃ w', (convert T T (.slice (some ⟨b, 0, none⟩) n c)).run C.P w = .ok (.slice (some ⟨b, 0, none⟩) n c) w' ∧ Ext (fun k => k = b) w w' ∧ CellsAt w' ⟨b, 0, none⟩ cs := by
  obtain ⟨dd, hd1, hd2, hd3⟩ := run_und hT
  rw [hTd] at hd2
  obtain rfl := fits_slice hd2
  obtain ⟨de, he1, he2, he3⟩ := run_und he
  rw [hed] at he2
  obtain rfl := fits_int he2
  have hsh : w.shape? b = some (e, cs.length) := by unfold World.shape?; rw [hb]; simp
  refine ⟨w.freeze ⟨b, cs.length, none⟩ 1, ?_, ⟨rfl, rfl, rfl, ?_, ?_⟩, ?_⟩
  · simp [convert, hd1, he1, markStringish, hsh]
  · simp [World.freeze]
  · intro k _ hn
    simp only [World.freeze, Nat.one_ne_zero, if_false, Array.getElem?_modify]
    rw [if_neg (fun h => hn h.symm)]
  · intro j v hj
    rw [bid_add]
    simp only [World.cell?, World.freeze, Nat.one_ne_zero, if_false, Array.getElem?_modify, if_true, hb]
    simpa using hj
theorem SliceR.u8 {w : World} {F : Nat → Prop} {b : Nat} {bs : List UInt8} {cs : List Value} (h : CellsAt w ⟨b, 0, none⟩ cs) (hcs : cs = bs.map fun x => .int .u8 (x.toNat : Int)) (hF : F b) (hl : bs.length ≤ 140737488355328) : SliceR kU8 w F (some ⟨b, 0, none⟩) bs.length bs := by
  subst hcs
  refine ⟨rfl, hl, fun _ => rfl, fun _ => hF, fun j x hj => ⟨_, rfl, fun k v hk => ?_⟩⟩
  have hv : k = 0 ∧ v = .int .u8 (x.toNat : Int) := by
    cases k with
    | zero => simpa using hk.symm
    | succ k => simp at hk
  obtain ⟨rfl, rfl⟩ := hv
  have := h j (.int .u8 (x.toNat : Int)) (by rw [List.getElem?_map, hj]; rfl)
  simpa [adr, kU8, Kind.plain, add_add] using this
theorem row_list {α : Type} {d : Kind α} {w : World} {F : Nat → Prop} {x : α} {cs : List Value} {b : Nat} {t : TypeId} (hb : w.heap[b]? = some (.cells cs.toArray t (0, 0))) (hr : d.rep w F cs x) (hF : F b) : SliceR d w F (some ⟨b, 0, none⟩) 1 [x] :=
  ⟨rfl, by omega, fun _ => rfl, fun _ => hF, row_one hb hr⟩
theorem convert_run {C : Ctx} {s : St} {G : List (Nat × Bool)} {o : Oper} {x : Operand} {T T' : TypeId} {w w' : World} {v v' : Value} (ho : o.op = .convert T T' x) (hv : s.eg G x = v) (hr : (convert T T' v).run C.P w = .ok v' w') : (execOp (s.eg G) o).run C.P w = .ok (.value v') w' := by
  simp [execOp, ho, hv, hr]

/-- a literal's block, of one's own from now on -/
theorem Own.lit {α : Type} {d : Kind α} {e : TypeId} {w : World} {F : Nat → Prop} {xs : List α} {b n : Nat} {cs : List Value} (hb : w.heap[b]? = some (.cells cs.toArray e (0, 0))) (hn : xs.length = n) (hl : cs.length = n * d.sz) (hle : n ≤ 140737488355328) (hs : Segs d w F xs cs) (hF : ¬ F b) :
    Own d e w (fun k => k = b) F (.slice (some ⟨b, 0, none⟩) n n) xs := by
  subst hn
  refine ⟨cs, ⟨hl, .inr ⟨b, xs.length, cs.toArray, rfl, Nat.zero_le _, hb, Nat.le_refl _, by simp only [maxLen]; omega, by simpa using hl, ?_⟩⟩, hs, hle, fun k hk => ?_⟩
  · rw [← hl]; simp
  · have : b = k := by simpa [Value.ownBlock] using hk
    subst this
    exact ⟨rfl, hF⟩
theorem Own.lit0 {α : Type} {d : Kind α} {e : TypeId} {w : World} {F : Nat → Prop} {b : Nat} (hb : w.heap[b]? = some (.cells #[] e (0, 0))) (hF : ¬ F b) : Own d e w (fun k => k = b) F (.slice (some ⟨b, 0, none⟩) 0 0) ([] : List α) :=
  Own.lit (cs := []) hb rfl (by simp) (by omega) (fun j x h => by simp at h) hF

/-- append to a literal without elements: nothing that was there turns -/
theorem run_append_lit0 {P : Program} (w : World) (t ty e : TypeId) (i : TypeInfo) (z : Value) (size bytes : Nat) (ht : P.underlying t = some (.slice e)) (hi : P.info? e = some i) (hz : i.zero = some z)
    (hsize : i.size = size) (hby : i.bytes = bytes) (hzs : z.cells.size = size) (hsz : 0 < size) (g : Nat) (a : Addr) (m c : Nat) (news : List Value) (hl : news.length = m * size) (hnews : ∀ j u, news[j]? = some u → w.cell? (a.add j) = some u)
    (hm : 0 < m) (h63 : m ≤ maxLen) (hbytes : m * bytes ≤ 140737488355328) :
    ∃ v' w', (Builtin.append_ #[t, t] ty #[.slice (some ⟨g, 0, none⟩) 0 0, .slice (some a) m c]).run P w = .ok v' w' ∧ w'.ownsRow 0 e size v' m news ∧ Ext no w w' ∧ v'.ownBlock = some w.heap.size := by
  subst hsize
  subst hby
  have hsmall : m ≤ 9223372036854775807 := by simp only [maxLen] at h63; omega
  have hr := run_append_grow (P := P) w t ty e i z ht hi hz ⟨g, 0, none⟩ 0 0 [] (by simp) (fun j u h => by simp at h) a m c news hl hnews (by omega) (by omega) (growslice_fits (by omega) (by simpa using hbytes))
  simp only [Nat.zero_add] at hr
  have hge := grownCap_ge w m 0 e
  have hcm : grownCap w m 0 e ≤ maxLen := grownCap_le_maxLen w m 0 e h63
  refine ⟨_, _, hr, ⟨hl, .inr ⟨w.heap.size, _, _, rfl, Nat.zero_le _, heap_alloc_new w.drew _, hge, hcm, ?_, ?_⟩⟩, ⟨rfl, rfl, rfl, by simp, fun k hk _ => heap_alloc_old w.drew _ k hk⟩, rfl⟩
  · simp only [Array.size_append, List.size_toArray, size_zeroCells, hzs, hl, List.length_nil, Nat.zero_add, ← Nat.add_mul]
    congr 1
    omega
  · rw [← hl]
    simp
theorem append_ev0 {C : Ctx} {E : Env} {s : St} {u : World} {α : Type} {G : List (Nat × Bool)} {o : Oper} {x y : Operand} {T e : TypeId} {it ie : TyI} {K : Value → List Box → World → Prop}
    (d : Kind α) (dead : List Nat) (hT : C.ty T = some it) (hTd : it.desc = .slice e) (he : C.ty e = some ie) (hsz : ie.size = d.sz) (hs0 : 0 < d.sz) (hb0 : 0 < ie.bytes)
    (ho : o.op = .call { callee := .builtin .append, args := #[x, y], argTypes := #[T, T] }) {g : Nat} (hv : s.eg G x = .slice (some ⟨g, 0, none⟩) 0 0) {A : Option Addr} {m c : Nat} (hy : s.eg G y = .slice A m c)
    (h : ∀ w, At E s u w → w.heap[g]? = some (.cells #[] e (0, 0)) ∧ ∃ (F' : Nat → Prop) (ys : List α), ys.length = m ∧ (0 < m → A.isSome = true) ∧ Row d w F' (adr A) ys ∧ ¬ F' g ∧ m * ie.bytes ≤ 140737488355328 ∧
      ∀ v' w', Ext no w w' → Own d e w' (fun k => k = g ∨ w.heap.size ≤ k) (fun k => F' k ∧ k < w.heap.size) v' ys → K v' (killL s.b dead) w') :
    GenP C E s u (execOp (s.eg G) o) K := by
  refine gen_ev dead fun w hat => ?_
  obtain ⟨hg, F', ys, h2, h3, h4, h5, h6, h9⟩ := h w hat
  have hrun : ∀ r, (Builtin.append_ #[T, T] o.type #[.slice (some ⟨g, 0, none⟩) 0 0, .slice A m c]).run C.P w = r → (execOp (s.eg G) o).run C.P w = r.andThen fun v w => .ok (.value v) w := by
    intro r hr
    simp [execOp, ho, resolve, invoke, builtin, hv, hy, hr]
  have hlv : ∀ l : List Box, liveAll (fun i => ¬ no i) l := by
    intro l
    induction l with
    | nil => trivial
    | cons b r ih => unfold liveAll; split
                     · exact ⟨fun h => h, ih⟩
                     · exact ih
  have hnil : ∀ r, r = [] → Own d e w (fun k => k = g ∨ w.heap.size ≤ k) (fun k => F' k ∧ k < w.heap.size) (.slice (some ⟨g, 0, none⟩) 0 0) (r : List α) := by
    rintro _ rfl
    exact (Own.lit0 (F := F') hg h5).mono (fun k hk _ => .inl hk) (fun k hk hl => ⟨hk, hl⟩) (fun k _ hk _ => hk.1)
  cases A with
  | none =>
    have hm : m = 0 := by
      rcases Nat.eq_zero_or_pos m with h0 | h0
      · exact h0
      · simp at h3; omega
    subst hm
    have hys : ys = [] := List.eq_nil_of_length_eq_zero h2
    exact ⟨no, _, w, okS_no w, hlv _, hrun _ (Own.append0 hT hTd he (hnil [] rfl) c _), Ext.refl _ _, h9 _ w (Ext.refl _ _) (hnil _ hys)⟩
  | some a =>
    rcases Nat.eq_zero_or_pos m with hm | hm
    · subst hm
      have hys : ys = [] := List.eq_nil_of_length_eq_zero h2
      subst hys
      obtain ⟨dd, hd1, hd2, hd3⟩ := run_und hT
      rw [hTd] at hd2
      obtain rfl := fits_slice hd2
      refine ⟨no, .slice (some ⟨g, 0, none⟩) 0 0, w, okS_no w, hlv _, hrun (.ok (.slice (some ⟨g, 0, none⟩) 0 0) w) ?_, Ext.refl _ _, h9 _ w (Ext.refl _ _) (hnil [] rfl)⟩
      simp [Builtin.append_, hd1, run_size he, Builtin.lenOf, Builtin.firstCells, storeCells, loadCells, loadCellsFrom]
    · obtain ⟨news, n1, n2, n3, n4⟩ := row_cells ys h4
      obtain ⟨dd, hd1, hd2, hd3⟩ := run_und hT
      rw [hTd] at hd2
      obtain rfl := fits_slice hd2
      obtain ⟨inf, i1, i2, i3, i4⟩ := (C.tyOk e ie he).info
      obtain ⟨z, hz, hzc⟩ := Option.map_eq_some_iff.1 i4
      have hzl := (C.tyOk e ie he).len
      have hle : m ≤ 140737488355328 := Nat.le_trans (Nat.le_mul_of_pos_right _ hb0) h6
      obtain ⟨v', w', r1, r2, hx, r5⟩ := run_append_lit0 (P := C.P) w T o.type e inf z d.sz ie.bytes hd3 i1 hz (by rw [i2, hsz]) i3 (by rw [hzc]; simp [hzl, hsz]) hs0 g a m c news (by rw [n1, h2]) n2 hm (by simp only [maxLen]; omega) h6
      refine ⟨no, v', w', okS_no w, hlv _, hrun _ r1, hx, h9 v' w' hx ⟨news, by rw [h2]; exact r2, ?_, by rw [h2]; exact hle, ?_⟩⟩
      · exact fun j x hj => d.mono (F := fun k => F' k ∧ k < w.heap.size) (d.move (d.mono (n3 j x hj) (fun b hb hl => ⟨hb, hl⟩)) (fun b hb hl => hx.keep b hl (fun h => h))) (fun b hb _ => hb)
      · intro k hk
        rw [r5] at hk
        injection hk with hk
        subst hk
        exact ⟨.inr (Nat.le_refl _), fun hf => absurd hf.2 (by omega)⟩

/-- a slice among the elements -/
def kSl {α : Type} (d : Kind α) (h0 : 0 < d.sz) : Kind (List α) where
  sz := 1
  rep := fun w F cs x => ∃ A n c, cs = [.slice A n c] ∧ SliceR d w F A n x
  len := fun ⟨_, _, _, h, _⟩ => by rw [h]; rfl
  one := fun ⟨_, _, _, h, _⟩ => by rw [h]; rfl
  move := fun ⟨A, n, c, h, hs⟩ hm => ⟨A, n, c, h, hs.move hm⟩
  mono := fun ⟨A, n, c, h, hs⟩ hm => ⟨A, n, c, h, hs.mono hm h0⟩

theorem made_seg (z : Array Value) (n j : Nat) (hj : j < n) (h0 : 0 < z.size) : ((madeCells z (n * z.size)).toList.drop (j * z.size)).take z.size = z.toList := by
  have hjn : j * z.size + z.size ≤ n * z.size := by rw [← Nat.succ_mul]; exact Nat.mul_le_mul_right _ hj
  apply List.ext_getElem?
  intro i
  rw [List.getElem?_take]
  split
  · rename_i hi
    rw [List.getElem?_drop]
    have h1 : j * z.size + i < n * z.size := by omega
    have h2 : (j * z.size + i) % z.size = i := by rw [Nat.mul_comm, Nat.mul_add_mod, Nat.mod_eq_of_lt hi]
    simp [madeCells, h1, h2, hi]
  · rename_i hi
    rw [List.getElem?_eq_none (by rw [Array.length_toList]; omega)]
/-- make([]T, n) -/
theorem make_ev {C : Ctx} {E : Env} {s : St} {u : World} {α : Type} (d : Kind α) (x0 : α) {G : List (Nat × Bool)} {o : Oper} {x y : Operand} {T e : TypeId} {it ie : TyI} {K : Value → List Box → World → Prop}
    (hT : C.ty T = some it) (hTd : it.desc = .slice e) (he : C.ty e = some ie) (hsz : ie.size = d.sz) (hs0 : 0 < d.sz) (h0 : ∀ w, d.rep w no ie.zero x0) (hG : E.grow = false)
    (ho : o.op = .makeSlice T x y) {kl kc : IntKind} (n : Nat) (hx : s.eg G x = .int kl n) (hy : s.eg G y = .int kc n) (hb0 : 0 < ie.bytes) (hb : n * ie.bytes ≤ 140737488355328)
    (h : ∀ w, At E s u w → ∀ b w', b = w.heap.size → Ext no w w' → Own d e w' (fun k => k = b) no (.slice (some ⟨b, 0, none⟩) n n) (List.replicate n x0) → K (.slice (some ⟨b, 0, none⟩) n n) s.b w') :
    GenP C E s u (execOp (s.eg G) o) K := by
  refine gen_ev [] fun w hat => ?_
  obtain ⟨dd, hd1, hd2, hd3⟩ := run_und hT
  rw [hTd] at hd2
  obtain rfl := fits_slice hd2
  obtain ⟨inf, i1, i2, i3, i4⟩ := (C.tyOk e ie he).info
  obtain ⟨z, hz, hzc⟩ := Option.map_eq_some_iff.1 i4
  have hzl := (C.tyOk e ie he).len
  have hzs : z.cells.size = d.sz := by rw [hzc]; simp [hzl, hsz]
  have hn : n ≤ 140737488355328 := Nat.le_trans (Nat.le_mul_of_pos_right _ hb0) hb
  have hbz : ((ie.bytes : Int) * (n : Int)) = ((n * ie.bytes : Nat) : Int) := by rw [Nat.mul_comm]; simp
  have hrun := run_make (P := C.P) w T e inf z hd3 i1 hz kl kc n n (by omega) (Int.le_refl _) (by rw [i3, hbz]; omega) (by omega)
  have hal : (w.alloc (.cells (madeCells z.cells (n * d.sz)) e)).heap[w.heap.size]? = some (.cells (madeCells z.cells (n * d.sz)) e (0, 0)) := heap_alloc_new w _
  have hx' : Ext no w (w.alloc (.cells (madeCells z.cells (n * d.sz)) e)) := Ext.alloc _ _
  refine ⟨no, .slice (some ⟨w.heap.size, 0, none⟩) n n, w.alloc (.cells (madeCells z.cells (n * d.sz)) e), okS_no _, ?_, ?_, hx', ?_⟩
  · refine liveAll_imp (p := fun _ => True) ?_ (fun _ _ h => h)
    have : ∀ l : List Box, liveAll (fun _ => True) l := by
      intro l
      induction l with
      | nil => trivial
      | cons b r ih => unfold liveAll; split
                       · exact ⟨trivial, ih⟩
                       · exact ih
    exact this _
  · simp only [Int.toNat_natCast, i2, hsz] at hrun
    simp [execOp, ho, hx, hy, hrun]
  · refine h w hat _ _ rfl hx' (Own.lit (cs := (madeCells z.cells (n * d.sz)).toList) (by rw [Array.toArray_toList]; exact hal) (List.length_replicate ..) (by rw [Array.length_toList, size_madeCells]) hn (fun j x hj => ?_) (fun h => h))
    have hj2 : j < n ∧ x = x0 := by
      rw [List.getElem?_replicate] at hj
      split at hj
      · rename_i hlt; exact ⟨hlt, by simpa using hj.symm⟩
      · cases hj
    obtain ⟨hlt, rfl⟩ := hj2
    have := made_seg z.cells n j hlt (by rw [hzs]; exact hs0)
    rw [hzs] at this
    rw [this, hzc]
    exact h0 _
end Go.Flow
