/- OWN WORK. Flow, part H: from what a statement's reading says of an argument to what a walk is told of it. -/
import Derived.Test.YtdmengbemonkaaaFlowF
import Derived.Deep.Slices
import Derived.SizedLaws
import Derived.DataReads
import Derived.ChangeOld
set_option linter.unusedVariables false
namespace Go.Flow
open Go Go.ChangeShapes

def all : Nat → Prop := fun _ => True
/-- whatever reads, as the kind says -/
def Reads {α : Type} (P : Program) (d : Kind α) (e : TypeId) : Prop :=
  ∀ {H : Type} {enc : TypeId × Value → H} {w : World} {base : Nat} {spare : Nat → Bool} {held : Bool} {fuel : Nat} {cs : List Value} {x : DataW H × List MemPlace}, DataW.trod enc P w base spare held fuel e cs = some x → (∀ n ∈ x.1.weights P e, n ≤ reachBytes) → ∃ v, d.rep w all cs v

theorem weightsAll_mem {H : Type} {P : Program} {e : TypeId} : ∀ {l : List (DataW H)} {d : DataW H}, d ∈ l → ∀ n ∈ d.weights P e, n ∈ DataW.weightsAll P e l
  | [], _, h, _, _ => absurd h List.not_mem_nil
  | x :: r, d, h, n, hn => by
    simp only [DataW.weightsAll, List.mem_append]
    rcases List.mem_cons.1 h with rfl | h
    · exact .inl hn
    · exact .inr (weightsAll_mem h n hn)

theorem reads_slice {α : Type} {P : Program} {d : Kind α} {t e : TypeId} (hu : P.underlying t = some (.slice e)) (hc : P.cellsOf e = d.sz) (hb : 0 < P.bytesOf e) (hr : Reads P d e)
    {H : Type} {enc : TypeId × Value → H} {w : World} {base : Nat} {spare : Nat → Bool} {held : Bool} {fuel : Nat} {cs : List Value} {x : DataW H × List MemPlace} (h : DataW.trod enc P w base spare held fuel t cs = some x) (hw : ∀ n ∈ x.1.weights P t, n ≤ reachBytes) :
    ∃ A n c xs, cs = [.slice A n c] ∧ n ≤ c ∧ SliceR d w all A n xs := by
  rcases Deep.open_slice hu h with ⟨rfl, rfl⟩ | ⟨a, len, cap, m, n, D, Pl, rfl, hba, hl, hm, hmm, rfl, hel⟩
  · exact ⟨none, 0, 0, [], rfl, Nat.le_refl _, SliceR.nil _ _ _ _⟩
  · have hlm : len ≤ m := by rw [hmm]; split <;> omega
    have each : ∀ i, i < len → ∃ v, ∃ cs', d.rep w all cs' v ∧ CellsAt w (a.add (i * d.sz)) cs' := by
      intro i hi
      obtain ⟨cs', h1, h2⟩ := hel i (by omega)
      rw [hc] at h1
      obtain ⟨v, hv⟩ := hr h2 (fun k hk => hw k (by
        simp only [DataW.weights, hu, List.mem_cons, List.mem_append]
        exact .inr (.inl (weightsAll_mem (List.mem_map.2 ⟨i, List.mem_range.2 hi, rfl⟩) k hk))))
      obtain ⟨_, h3, h4⟩ := World.cells?_some h1
      refine ⟨v, cs', hv, fun j u hj => ?_⟩
      have hjl : j < d.sz := by have := (List.getElem?_eq_some_iff.1 hj).1; omega
      rw [h4 j hjl]; exact hj
    have wt : len * P.bytesOf e ≤ reachBytes := by
      refine Nat.le_trans (Nat.mul_le_mul_right _ ?_) (hw _ (by simp only [DataW.weights, hu, List.mem_cons]; exact .inl rfl))
      simp
    have hlen : len ≤ 140737488355328 := by
      have h1 : len * 1 ≤ len * P.bytesOf e := Nat.mul_le_mul_left _ hb
      have h2 : reachBytes < 2 ^ 47 := reachBytes_lt
      omega
    have key : ∀ k, k ≤ len → ∃ xs : List α, xs.length = k ∧ ∀ j x, xs[j]? = some x → ∃ cs', d.rep w all cs' x ∧ CellsAt w (a.add (j * d.sz)) cs' := by
      intro k
      induction k with
      | zero => intro _; exact ⟨[], rfl, fun j x hj => by simp at hj⟩
      | succ k ih =>
        intro hk
        obtain ⟨xs, h1, h2⟩ := ih (by omega)
        obtain ⟨v, cs', h3, h4⟩ := each k (by omega)
        refine ⟨xs ++ [v], by simp [h1], fun j x hj => ?_⟩
        rcases Nat.lt_or_ge j xs.length with hlt | hge
        · rw [List.getElem?_append_left hlt] at hj
          exact h2 j x hj
        · have : j = xs.length := by have := (List.getElem?_eq_some_iff.1 hj).1; simp at this; omega
          subst this
          have : v = x := by simpa using hj
          subst this
          rw [h1]; exact ⟨cs', h3, h4⟩
    obtain ⟨xs, h1, h2⟩ := key len (Nat.le_refl _)
    exact ⟨some a, len, cap, xs, rfl, hl, h1, hlen, fun _ => rfl, fun _ => trivial, h2⟩

theorem reads_int {P : Program} {e : TypeId} {k : IntKind} (he : P.underlying e = some (.int k)) : Reads P (kInt k) e := by
  intro H enc w base spare held fuel cs x h _
  obtain ⟨n, h1, h2, h3⟩ := DataW.trod_int he h
  exact ⟨n, h1⟩
theorem reads_u8 {P : Program} {e : TypeId} (he : P.underlying e = some (.int .u8)) : Reads P kU8 e := by
  intro H enc w base spare held fuel cs x h _
  obtain ⟨n, h1, h2, h3⟩ := DataW.trod_int he h
  have : 0 ≤ n ∧ n ≤ 255 := by simpa [Lit.wf, IntKind.min, IntKind.max, IntKind.signed, IntKind.bits] using h3
  refine ⟨UInt8.ofNat n.toNat, ?_⟩
  show cs = [.int .u8 ((UInt8.ofNat n.toNat).toNat : Int)]
  rw [h1, UInt8.toNat_ofNat', Nat.mod_eq_of_lt (by omega), Int.toNat_of_nonneg this.1]
theorem reads_str {P : Program} {e : TypeId} (he : P.underlying e = some .string) : Reads P kStr e := by
  intro H enc w base spare held fuel cs x h _
  obtain ⟨s, h1, _⟩ := DataW.trod_string he h
  exact ⟨s, h1⟩
theorem reads_sl {α : Type} {P : Program} {d : Kind α} {h0 : 0 < d.sz} {t e : TypeId} (hu : P.underlying t = some (.slice e)) (hc : P.cellsOf e = d.sz) (hb : 0 < P.bytesOf e) (hr : Reads P d e) : Reads P (kSl d h0) t := by
  intro H enc w base spare held fuel cs x h hw
  obtain ⟨A, n, c, xs, h1, _, h2⟩ := reads_slice hu hc hb hr h hw
  exact ⟨xs, A, n, c, h1, h2⟩
/-- an argument that is a slice -/
theorem arg_slice {α : Type} {P : Program} {d : Kind α} {t e : TypeId} (hu : P.underlying t = some (.slice e)) (hc : P.cellsOf e = d.sz) (hb : 0 < P.bytesOf e) (hr : Reads P d e)
    {H : Type} {enc : TypeId × Value → H} {w : World} {base : Nat} {spare : Nat → Bool} {held : Bool} {v : Value} {D : DataW H} {ps : List MemPlace} (h : DataW.Trod enc P w base spare held t v D ps) (hw : ∀ n ∈ D.weights P t, n ≤ reachBytes) (h1 : ∃ A n c, v = .slice A n c) :
    ∃ A n c xs, v = .slice A n c ∧ n ≤ c ∧ SliceR d w all A n xs := by
  obtain ⟨A, n, c, rfl⟩ := h1
  obtain ⟨fuel, hf⟩ := h
  obtain ⟨A', n', c', xs, h1, h2, h3⟩ := reads_slice hu hc hb hr hf hw
  simp [Value.cells] at h1
  obtain ⟨rfl, rfl, rfl⟩ := h1
  exact ⟨A, n, c, xs, rfl, h2, h3⟩
end Go.Flow
