/- OWN WORK. Flow, part A: worlds that grow, cells, the state of a walk, what an operation needs and gives (as propositions that compute). -/
import Derived.Calls
import Derived.Tactics
import Derived.Below
import Derived.Laws.Cells
import Derived.Laws.AppendOwn
import Derived.Orders
namespace Go.Flow
open Go.RowKit (Below)

/-- w' came of w: blocks outside S are as they were. -/
structure Ext (S : Nat → Prop) (w w' : World) : Prop where
  os : w'.os = w.os
  tape : w'.tape = w.tape
  output : w'.output = w.output
  size : w.heap.size ≤ w'.heap.size
  keep : ∀ b, b < w.heap.size → ¬ S b → w'.heap[b]? = w.heap[b]?

def no : Nat → Prop := fun _ => False

theorem Ext.refl (S : Nat → Prop) (w : World) : Ext S w w := ⟨rfl, rfl, rfl, Nat.le_refl _, fun _ _ _ => rfl⟩
theorem Ext.trans' {S T U : Nat → Prop} {a b c : World} (h : Ext S a b) (k : Ext T b c) (hS : ∀ x, S x → U x) (hT : ∀ x, x < a.heap.size → T x → U x) : Ext U a c :=
  ⟨k.os.trans h.os, k.tape.trans h.tape, k.output.trans h.output, Nat.le_trans h.size k.size,
    fun x hx hn => (k.keep x (Nat.lt_of_lt_of_le hx h.size) (fun t => hn (hT x hx t))).trans (h.keep x hx (fun s => hn (hS x s)))⟩
theorem Ext.trans {S : Nat → Prop} {a b c : World} (h : Ext S a b) (k : Ext S b c) : Ext S a c := h.trans' k (fun _ h => h) (fun _ _ h => h)
theorem Ext.mono {S T : Nat → Prop} {a b : World} (h : Ext S a b) (hS : ∀ x, x < a.heap.size → S x → T x) : Ext T a b :=
  ⟨h.os, h.tape, h.output, h.size, fun x hx hn => h.keep x hx (fun s => hn (hS x hx s))⟩
theorem Ext.of_no {T : Nat → Prop} {a b : World} (h : Ext no a b) : Ext T a b := h.mono (fun _ _ h => h.elim)
theorem Ext.below {w w' : World} (h : Ext no w w') : Below w.heap.size w w' := ⟨h.os, h.tape, h.output, h.size, fun k hk => h.keep k hk (fun h => h)⟩
theorem Ext.of_below {w w' : World} (h : Below w.heap.size w w') : Ext no w w' := ⟨h.os, h.tape, h.output, h.size, fun k hk _ => h.block k hk⟩
theorem Ext.of_grown {w w' : World} {row : Option Nat} (h : w.grownBy w' row) : Ext (fun b => row = some b) w w' :=
  ⟨h.os, h.tape, h.output, h.size, fun b hb hn => h.block b hb (fun e => hn e.symm)⟩
theorem Ext.alloc (w : World) (o : Obj) : Ext no w (w.alloc o) := ⟨rfl, rfl, rfl, by simp, fun k hk _ => Below.heap_alloc _ _ _ hk⟩
theorem Ext.drew (w : World) : Ext no w { w with drawn := w.drawn + 1 } := ⟨rfl, rfl, rfl, Nat.le_refl _, fun _ _ _ => rfl⟩
theorem Ext.setCell (w : World) (a : Addr) (u : Value) : Ext (fun b => b = a.block) w (w.setCell a u) :=
  ⟨rfl, rfl, rfl, by simp [World.setCell], fun k _ hn => Below.heap_setCell _ _ _ _ hn⟩
theorem Ext.cell {S : Nat → Prop} {w w' : World} (h : Ext S w w') {a : Addr} {v : Value} (hc : w.cell? a = some v) (hn : ¬ S a.block) : w'.cell? a = some v :=
  (World.cell?_of_block (h.keep _ (World.block_lt_of_cell? w a hc) hn)).trans hc

/-- The cells from an address on. -/
def CellsAt (w : World) (a : Addr) (cs : List Value) : Prop := ∀ j v, cs[j]? = some v → w.cell? (a.add j) = some v
theorem add_block (a : Addr) (n : Nat) : (a.add n).block = a.block := by unfold Addr.add; split <;> rfl
theorem CellsAt.ext {S : Nat → Prop} {w w' : World} (h : Ext S w w') {a : Addr} {cs : List Value} (hc : CellsAt w a cs) (hn : ¬ S a.block) : CellsAt w' a cs :=
  fun j v hj => h.cell (hc j v hj) (by rw [add_block]; exact hn)

/-! ### Types, told -/
inductive TyD where
  | int (k : IntKind) | bool | string
  | ptr (e : TypeId) | slice (e : TypeId) | arr (n : Nat) (e : TypeId)
  | struct (fs : List (Nat × TypeId)) | func | other
structure TyI where
  desc : TyD
  size : Nat
  bytes : Nat
  zero : List Value
def TyD.fits : TyD → TypeDesc → Prop
  | .int k, .int k' => k = k'
  | .bool, .bool => True
  | .string, .string => True
  | .ptr e, .pointer e' => e = e'
  | .slice e, .slice e' => e = e'
  | .arr n e, .array n' e' => n = n' ∧ e = e'
  | .struct fs, .struct gs => fs = gs.toList.map (fun f => (f.offset, f.type))
  | .func, .func _ _ _ => True
  | _, _ => False
def TyD.agg : TyD → Bool
  | .arr _ _ => true
  | .struct _ => true
  | _ => false
structure Good (P : Program) (t : TypeId) (i : TyI) : Prop where
  info : ∃ inf, P.info? t = some inf ∧ inf.size = i.size ∧ inf.bytes = i.bytes ∧ (inf.zero.map (fun z => z.cells)) = some i.zero.toArray
  und : ∃ d, P.underlying t = some d ∧ i.desc.fits d
  len : i.zero.length = i.size
structure Ctx where
  P : Program
  ty : Nat → Option TyI
  fn : Nat → Bool
  tyOk : ∀ t i, ty t = some i → Good P t i
  fnOk : ∀ f, fn f = true → ∃ g, P.funcs[f]? = some g ∧ g.body.isNone = false ∧ (g.name == "runtime.NumGoroutine") = false
  mix : P.follows .mixedOrders = true

/-! ### The state of a walk -/
structure Box where
  id : Nat
  ty : TypeId
  cs : List Value
  live : Bool := true
/-- what a slot holds: a value; the address of a box of the walk's own (p: the offset is a numeral; q: any); the k-th condition -/
inductive PV where
  | v (x : Value)
  | p (i off : Nat)
  | q (i off : Nat)
  | c (k : Nat)
/-- that, if the conditions of the path are as it says (else nothing) -/
inductive SV where
  | w (G : List (Nat × Bool)) (x : PV)
structure St where
  t : Nat → SV
  b : List Box
  cs : List Bool
def bid : List Box → Nat → Nat
  | [], _ => 0
  | x :: _, 0 => x.id
  | _ :: r, i + 1 => bid r i
def nth {α : Type} : List α → Nat → Option α
  | [], _ => none
  | x :: _, 0 => some x
  | _ :: r, i + 1 => nth r i
def cnd : List Bool → Nat → Bool
  | [], _ => false
  | x :: _, 0 => x
  | _ :: r, i + 1 => cnd r i
def PV.val (b : List Box) (cs : List Bool) : PV → Value
  | .v x => x
  | .p i off => .pointer (some ⟨bid b i, off, none⟩)
  | .q i off => .pointer (some ⟨bid b i, off, none⟩)
  | .c k => .bool (cnd cs k)
/-- do the conditions of a path hold? -/
def holdB (cs : List Bool) : List (Nat × Bool) → Bool
  | [] => true
  | g :: r => (cnd cs g.1 == g.2) && holdB cs r
def hold (cs : List Bool) : List (Nat × Bool) → Prop
  | [] => True
  | [g] => cnd cs g.1 = g.2
  | g :: r => cnd cs g.1 = g.2 ∧ hold cs r
theorem hold_iff (cs : List Bool) : ∀ G, hold cs G ↔ holdB cs G = true
  | [] => by simp [hold, holdB]
  | [g] => by simp [hold, holdB]
  | g :: h :: r => by simp only [hold, holdB, Bool.and_eq_true, beq_iff_eq]; rw [hold_iff cs (h :: r)]; simp only [holdB, Bool.and_eq_true, beq_iff_eq]
def SV.val (b : List Box) (cs : List Bool) : SV → Value
  | .w [] x => x.val b cs
  | .w G x => bif holdB cs G then x.val b cs else undef
theorem SV.val_w (b : List Box) (cs : List Bool) (G : List (Nat × Bool)) (x : PV) : (SV.w G x).val b cs = bif holdB cs G then x.val b cs else undef := by
  cases G <;> rfl
/-- is each condition of A among those of B? -/
def subG (A B : List (Nat × Bool)) : Bool := A.all fun x => B.any fun y => Nat.beq x.1 y.1 && (x.2 == y.2)
theorem holdB_sub {cs : List Bool} {A B : List (Nat × Bool)} (h : subG A B = true) (hB : holdB cs B = true) : holdB cs A = true := by
  have key : ∀ (l : List (Nat × Bool)) (g : Nat × Bool), holdB cs l = true → g ∈ l → cnd cs g.1 = g.2 := by
    intro l
    induction l with
    | nil => intro g _ hg; cases hg
    | cons x r ih =>
      intro g hl hg
      simp only [holdB, Bool.and_eq_true, beq_iff_eq] at hl
      rcases List.mem_cons.1 hg with rfl | hg
      · exact hl.1
      · exact ih g hl.2 hg
  induction A with
  | nil => rfl
  | cons x r ih =>
    simp only [subG, List.all_cons, Bool.and_eq_true] at h
    obtain ⟨h1, h2⟩ := h
    simp only [holdB, Bool.and_eq_true, beq_iff_eq]
    refine ⟨?_, ih h2⟩
    obtain ⟨y, hy, hxy⟩ := List.any_eq_true.1 h1
    simp only [Bool.and_eq_true, beq_iff_eq] at hxy
    have := key B y hB hy
    rw [Nat.eq_of_beq_eq_true hxy.1, hxy.2]; exact this
def upd (t : Nat → SV) (d : Nat) (x : SV) : Nat → SV := fun k => cond (Nat.beq k d) x (t k)
def St.sv (s : St) : Operand → SV
  | .tmp t => s.t t
  | .const x => .w [] (.v x)
  | .func f => .w [] (.v (.func (.func f) #[] #[]))
  | .global g => .w [] (.v (.pointer (some ⟨g, 0, none⟩)))
def St.ev (s : St) (x : Operand) : Value := (s.sv x).val s.b s.cs
def St.put (s : St) (d : Option Nat) (x : SV) : St :=
  match d with
  | none => s
  | some d => { s with t := upd s.t d x }
def okDst (n : Nat) : Option Nat → Bool
  | none => true
  | some d => Nat.blt d n
def setL : List Value → Nat → List Value → List Value
  | cs, 0, vs => vs ++ cs.drop vs.length
  | [], _ + 1, _ => []
  | c :: cs, i + 1, vs => c :: setL cs i vs
def modB : List Box → Nat → (List Value → List Value) → List Box
  | [], _, _ => []
  | x :: r, 0, f => ⟨x.id, x.ty, f x.cs, x.live⟩ :: r
  | x :: r, i + 1, f => x :: modB r i f
def St.ids (s : St) : Nat → Prop := fun k => ∃ bx ∈ s.b, bx.live = true ∧ bx.id = k
structure Env where
  w0 : World
  S0 : Nat → Prop
  grow : Bool
/-- What is known of the world w at an event, the last event's world being u. -/
structure At (E : Env) (s : St) (u w : World) : Prop where
  box : ∀ bx ∈ s.b, bx.live = true → w.heap[bx.id]? = some (.cells bx.cs.toArray bx.ty (0, 0))
  fresh : ∀ bx ∈ s.b, E.w0.heap.size ≤ bx.id
  ext : Ext s.ids u w
  ext0 : Ext E.S0 E.w0 w

/-- an operand, read under a path -/
def peel (s : St) (G : List (Nat × Bool)) : SV → PV
  | .w [] y => y
  | .w A y => cond (subG A G) y (.v (bif holdB s.cs A then y.val s.b s.cs else undef))
def St.pg (s : St) (G : List (Nat × Bool)) (x : Operand) : PV := peel s G (s.sv x)
def St.eg (s : St) (G : List (Nat × Bool)) (x : Operand) : Value := (s.pg G x).val s.b s.cs
/-- under a path -/
def Und (s : St) (G : List (Nat × Bool)) (p : Prop) : Prop :=
  match G with
  | [] => p
  | G => hold s.cs G → p
theorem Und.get {s : St} {G : List (Nat × Bool)} {p : Prop} (h : Und s G p) (hG : holdB s.cs G = true) : p := by
  cases G with
  | nil => exact h
  | cons g r => exact h ((hold_iff _ _).2 hG)
/-- what an act gives that looks at no world -/
def pureV {α : Type} (P : Program) : Sem α → Option α
  | .pure a => some a
  | .program k => pureV P (k P)
  | .mark _ k => pureV P k
  | _ => none
theorem pureV_run {α : Type} (P : Program) : ∀ (s : Sem α) (a : α), pureV P s = some a → ∀ w, s.run P w = .ok a w := by
  intro s
  induction s with
  | pure a => intro b h w; simp only [pureV, Option.some.injEq] at h; subst h; rfl
  | program k ih => intro b h w; simp only [pureV] at h; simp only [Sem.run]; exact ih P b h w
  | mark m k ih => intro b h w; simp only [pureV] at h; simp only [Sem.run]; exact ih b h w
  | _ => intro b h w; simp [pureV] at h

end Go.Flow
