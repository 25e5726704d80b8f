/- OWN WORK. Flow, part B: what each operation asks and leaves, as a proposition that computes on the code. -/
import Derived.Test.YtdmengbemonkaaaFlowA
namespace Go.Flow

def live (b : List Box) (k : Nat) : Option Box :=
  match nth b k with
  | some bx =>
    match bx.live with
    | true => some bx
    | false => none
  | none => none
/-- an event: two ways for an operation under a path -/
inductive GuardP (G : List (Nat × Bool)) (s : St) (yes nope join : Prop) : Prop where
  | split (hy : hold s.cs G → yes) (hn : ¬ hold s.cs G → nope)
  | join (h : join)

def SV0 (x : PV) : SV := .w [] x
/-! what a state holds is reckoned once, and held small -/
def frc (x : PV) (k : PV → Prop) : Prop :=
  match x with
  | .v a => k (.v a)
  | .p i o => k (.p i o)
  | .q i o => k (.q i o)
  | .c j => k (.c j)
def frcV (x : Value) (k : Value → Prop) : Prop :=
  match x with
  | .int q n => k (.int q n)
  | .bool b => k (.bool b)
  | .string s => k (.string s)
  | .slice A n c => k (.slice A n c)
  | .pointer A => k (.pointer A)
  | .agg cs => k (.agg cs)
  | y => k y
theorem frcV_eq (x : Value) (k : Value → Prop) : frcV x k = k x := by cases x <;> rfl
theorem frc_eq (x : PV) (k : PV → Prop) : frc x k = k x := by cases x <;> rfl
def frcL {α : Type} : List α → (List α → Prop) → Prop
  | [], k => k []
  | x :: r, k => frcL r fun r' => k (x :: r')
theorem frcL_eq {α : Type} : ∀ (l : List α) (k : List α → Prop), frcL l k = k l
  | [], _ => rfl
  | x :: r, k => frcL_eq r fun r' => k (x :: r')
def frcS (s : St) (k : St → Prop) : Prop :=
  match s with
  | ⟨t, b, cs⟩ => frcL b fun b => frcL cs fun cs => k ⟨t, b, cs⟩
theorem frcS_eq (s : St) (k : St → Prop) : frcS s k = k s := by
  obtain ⟨t, b, cs⟩ := s
  simp only [frcS, frcL_eq]
/-! a state is handed on without projections -/
def putK (s : St) (d : Option Nat) (x : SV) (k : St → Prop) : Prop :=
  match s with
  | ⟨t, b, cs⟩ =>
    match d with
    | none => k ⟨t, b, cs⟩
    | some d => k ⟨upd t d x, b, cs⟩
theorem putK_eq (s : St) (d : Option Nat) (x : SV) (k : St → Prop) : putK s d x k = k (s.put d x) := by cases d <;> rfl
def withBK (s : St) (b' : List Box) (k : St → Prop) : Prop :=
  match s with
  | ⟨t, _, cs⟩ => k ⟨t, b', cs⟩
theorem withBK_eq (s : St) (b' : List Box) (k : St → Prop) : withBK s b' k = k { s with b := b' } := rfl
def csK (s : St) (cs' : List Bool → List Bool) (k : St → Prop) : Prop :=
  match s with
  | ⟨t, b, cs⟩ => k ⟨t, b, cs' cs⟩
theorem csK_eq (s : St) (cs' : List Bool → List Bool) (k : St → Prop) : csK s cs' k = k { s with cs := cs' s.cs } := rfl
def addC (s : St) (d : Nat) (x : SV) (c : Bool) (k : St → Prop) : Prop :=
  match s with
  | ⟨t, b, cs⟩ => k ⟨upd t d x, b, cs ++ [c]⟩
theorem addC_eq (s : St) (d : Nat) (x : SV) (c : Bool) (k : St → Prop) : addC s d x c k = k { t := upd s.t d x, b := s.b, cs := s.cs ++ [c] } := rfl
def frcG : List (Nat × Bool) → (List (Nat × Bool) → Prop) → Prop
  | [], k => k []
  | (i, true) :: r, k => frcG r fun r' => k ((i, true) :: r')
  | (i, false) :: r, k => frcG r fun r' => k ((i, false) :: r')
theorem frcG_eq : ∀ (l : List (Nat × Bool)) (k : List (Nat × Bool) → Prop), frcG l k = k l
  | [], _ => rfl
  | (i, true) :: r, k => frcG_eq r fun r' => k ((i, true) :: r')
  | (i, false) :: r, k => frcG_eq r fun r' => k ((i, false) :: r')
def egF (s : St) (G : List (Nat × Bool)) (x : Operand) (k : Value → Prop) : Prop :=
  match s.pg G x with
  | .v a => k a
  | y => k (y.val s.b s.cs)
theorem egF_eq (s : St) (G : List (Nat × Bool)) (x : Operand) (k : Value → Prop) : egF s G x k = k (s.eg G x) := by
  unfold egF St.eg
  split
  · rename_i a h; rw [h]; rfl
  · rfl
def cndK : List Bool → Nat → (Bool → Prop) → Prop
  | [], _, k => k false
  | x :: _, 0, k => k x
  | _ :: r, i + 1, k => cndK r i k
theorem cndK_eq : ∀ (l : List Bool) (i : Nat) (k : Bool → Prop), cndK l i k = k (cnd l i)
  | [], _, _ => rfl
  | _ :: _, 0, _ => rfl
  | _ :: r, i + 1, k => cndK_eq r i k
def lenK {α : Type} : List α → Nat → (Nat → Prop) → Prop
  | [], n, k => k n
  | _ :: r, n, k => lenK r (n + 1) k
theorem lenK_eq {α : Type} : ∀ (l : List α) (n : Nat) (k : Nat → Prop), lenK l n k = k (l.length + n)
  | [], n, k => by simp [lenK]
  | _ :: r, n, k => by rw [lenK, lenK_eq r (n + 1) k]; congr 1; simp only [List.length_cons]; omega
def fits1 (v : Value) : Bool := match v with | .agg _ => false | .tuple _ => false | _ => true
def all1 : List Value → Bool
  | [] => true
  | v :: r => fits1 v && all1 r
def byteAt (s : ByteArray) (i : Nat) : Int := ((s.data.toList.getD i 0).toNat : Int)
def adr (A : Option Addr) : Addr := A.getD ⟨0, 0, none⟩
def subA (A : Option Addr) (l m size : Nat) : Option Addr := if m = l then A else A.map (·.add (l * size))
def BytesAt (w : World) (a : Addr) (bs : List UInt8) : Prop := ∀ j b, bs[j]? = some b → w.cell? (a.add j) = some (.int .u8 (b.toNat : Int))
theorem BytesAt.ext {S : Nat → Prop} {w w' : World} (h : Ext S w w') {a : Addr} {cs : List UInt8} (hc : BytesAt w a cs) (hn : ¬ S a.block) : BytesAt w' a cs :=
  fun j v hj => h.cell (hc j v hj) (by rw [add_block]; exact hn)

/-- flat: whole numbers, bools, texts, and structs and arrays of these: '==' is '==' of the cells -/
def flatT (C : Ctx) : Nat → TypeId → Bool
  | 0, _ => false
  | d + 1, t =>
    match C.ty t with
    | some i =>
      match i.desc with
      | .int _ => true
      | .bool => true
      | .string => true
      | .arr _ e => flatT C d e
      | .struct fs => fs.all fun f => flatT C d f.2
      | _ => false
    | none => false
def eqV : Value → Value → Bool
  | .int _ a, .int _ b => a == b
  | .bool a, .bool b => a == b
  | .string a, .string b => a.toList == b.toList
  | _, _ => false
def eqL : List Value → List Value → Bool
  | [], [] => true
  | a :: r, b :: q => eqV a b && eqL r q
  | _, _ => false

/-- an operation that looks at the world at most -/
def isQ (C : Ctx) : Op → Bool
  | .move _ => true
  | .assign _ => true
  | .pick _ _ _ => true
  | .fieldAddr _ _ _ => true
  | .indexAddr _ _ _ => true
  | .load _ _ => true
  | .nilCheck _ => true
  | .binOp _ _ _ _ _ => true
  | .unOp _ _ _ => true
  | .slice _ _ _ _ _ => true
  | .index _ _ _ => true
  | .extract _ _ => true
  | .field _ _ _ => true
  | .build _ _ => true
  | .makeFunc _ _ _ => true
  | .makeInterface _ _ => true
  | .convert _ dst _ =>
    match C.ty dst with
    | some i =>
      match i.desc with
      | .int _ => true
      | .string => true
      | .bool => true
      | _ => false
    | none => false
  | .call c =>
    match c.callee with
    | .builtin .len => true
    | .builtin .cap => true
    | .builtin .min => true
    | .builtin .max => true
    | _ => false
  | _ => false

def pureQ (C : Ctx) (s : St) (G : List (Nat × Bool)) (o : Oper) (R : PV → Prop) : Prop :=
  match pureV C.P (execOp (s.eg G) o) with
  | some (.value x) => frcV x fun x => R (.v x)
  | _ => False

/-- a bound of a slice expression -/
def bound (s : St) (G : List (Nat × Bool)) (x : Option Operand) (d : Int) : Option Int :=
  match x with
  | none => some d
  | some x =>
    match s.pg G x with
    | .v (.int _ i) => some i
    | _ => none

def slB : Option Operand → Option Operand → Bool
  | none, some _ => false
  | _, _ => true
def vcSlice (C : Ctx) (s : St) (G : List (Nat × Bool)) (T : TypeId) (x : Operand) (lo hi mx : Option Operand) (R : PV → Prop) : Prop :=
  match C.ty T with
  | some i =>
    match i.desc with
    | .slice e =>
      match C.ty e with
      | some ie =>
        match s.pg G x with
        | .v (.slice A len cap) =>
          match bound s G mx cap with
          | some m =>
            match bound s G hi len with
            | some h =>
              match bound s G lo 0 with
              | some l => Und s G (0 ≤ l ∧ l ≤ h ∧ h ≤ m ∧ m ≤ cap) ∧ R (.v (.slice (subA A l.toNat m.toNat ie.size) (h.toNat - l.toNat) (m.toNat - l.toNat)))
              | none => False
            | none => False
          | none => False
        | _ => False
      | none => False
    | .string =>
      match mx with
      | some _ => False
      | none =>
        match s.pg G x with
        | .v (.string t) =>
          match bound s G hi t.size with
          | some h =>
            match bound s G lo 0 with
            | some l => Und s G (0 ≤ l ∧ l ≤ h ∧ h ≤ t.size) ∧ R (.v (.string (t.extract l.toNat h.toNat)))
            | none => False
          | none => False
        | _ => False
    | .arr n e =>
      match C.ty e with
      | some ie =>
        match s.eg G x with
        | .pointer (some a) =>
          match bound s G mx n with
          | some m =>
            match bound s G hi n with
            | some h =>
              match bound s G lo 0 with
              | some l => Und s G (0 ≤ l ∧ l ≤ h ∧ h ≤ m ∧ m ≤ n) ∧ R (.v (.slice (subA (some a) l.toNat m.toNat ie.size) (h.toNat - l.toNat) (m.toNat - l.toNat)))
              | none => False
            | none => False
          | none => False
        | _ => False
      | none => False
    | _ => False
  | none => False

def vcIndexAddr (C : Ctx) (s : St) (G : List (Nat × Bool)) (T : TypeId) (x ix : Operand) (R : PV → Prop) : Prop :=
  match C.ty T with
  | some i =>
    match i.desc with
    | .slice e =>
      match C.ty e with
      | some ie =>
        match s.pg G x with
        | .v (.slice A len _) =>
          match s.pg G ix with
          | .v (.int _ j) => Und s G (A.isSome = true ∧ 0 ≤ j ∧ j < len) ∧ R (.v (.pointer (some ((adr A).add (j.toNat * ie.size)))))
          | _ => False
        | _ => False
      | none => False
    | .arr n e =>
      match C.ty e with
      | some ie =>
        match ix with
        | .const (.int _ (.ofNat j)) =>
          match Nat.blt j n with
          | true =>
            match s.pg G x with
            | .p k off => R (.p k (off + j * ie.size))
            | .q k off => R (.q k (off + j * ie.size))
            | .v (.pointer (some a)) => R (.v (.pointer (some (a.add (j * ie.size)))))
            | _ => False
          | false => False
        | ix =>
          match s.pg G ix with
          | .v (.int _ j) =>
            match s.pg G x with
            | .p k off => Und s G (0 ≤ j ∧ j < n) ∧ R (.q k (off + j.toNat * ie.size))
            | .q k off => Und s G (0 ≤ j ∧ j < n) ∧ R (.q k (off + j.toNat * ie.size))
            | .v (.pointer (some a)) => Und s G (0 ≤ j ∧ j < n) ∧ R (.v (.pointer (some (a.add (j.toNat * ie.size)))))
            | _ => False
          | _ => False
      | none => False
    | _ => False
  | none => False

def vcLoad (C : Ctx) (E : Env) (s : St) (u : World) (G : List (Nat × Bool)) (T : TypeId) (x : Operand) (R : PV → Prop) : Prop :=
  match C.ty T with
  | some i =>
    match s.pg G x with
    | .p k off =>
      match live s.b k with
      | some bx =>
        match i.desc.agg with
        | true =>
          match Nat.ble (off + i.size) bx.cs.length with
          | true => R (.v (.agg ((bx.cs.drop off).take i.size).toArray))
          | false => False
        | false =>
          match nth bx.cs off with
          | some y => R (.v y)
          | none => False
      | none => False
    | .q k off =>
      match live s.b k with
      | some bx =>
        match i.desc.agg with
        | true => Und s G (off + i.size ≤ bx.cs.length) ∧ R (.v (.agg ((bx.cs.drop off).take i.size).toArray))
        | false => ∃ y, Und s G (bx.cs[off]? = some y) ∧ R (.v y)
      | none => False
    | .v (.pointer (some a)) =>
      match i.desc.agg with
      | true => ∃ cs : List Value, Und s G (cs.length = i.size ∧ ∀ w, At E s u w → CellsAt w a cs) ∧ R (.v (.agg cs.toArray))
      | false => ∃ y, Und s G (∀ w, At E s u w → w.cell? a = some y) ∧ R (.v y)
    | _ => False
  | none => False

/-- by its run -/
def byRun (C : Ctx) (E : Env) (s : St) (u : World) (G : List (Nat × Bool)) (o : Oper) (R : PV → Prop) : Prop :=
  ∃ v, Und s G (∀ w, At E s u w → (execOp (s.eg G) o).run C.P w = .ok (.value v) w) ∧ R (.v v)
def vcEqB (C : Ctx) (s : St) (G : List (Nat × Bool)) (T : TypeId) (f : Bool → Bool) (a : Bool) (y : Operand) (R : PV → Prop) : Prop :=
  match C.ty T with
  | some i =>
    match i.desc with
    | .bool =>
      match s.eg G y with
      | .bool b => R (.v (.bool (f (a == b))))
      | _ => False
    | _ => False
  | none => False
def vcBin (C : Ctx) (E : Env) (s : St) (u : World) (G : List (Nat × Bool)) (o : Oper) (op : BinOp) (T : TypeId) (x y : Operand) (R : PV → Prop) : Prop :=
  match op with
  | .quo =>
    match y with
    | .const _ => pureQ C s G o R
    | y =>
      match s.pg G x with
      | .v (.int k a) =>
        match s.pg G y with
        | .v (.int k' b) => (k = k' ∧ Und s G (b ≠ 0)) ∧ R (.v (.int k (k.wrap (a.tdiv b))))
        | _ => False
      | _ => False
  | .rem =>
    match y with
    | .const _ => pureQ C s G o R
    | y =>
      match s.pg G x with
      | .v (.int k a) =>
        match s.pg G y with
        | .v (.int k' b) => (k = k' ∧ Und s G (b ≠ 0)) ∧ R (.v (.int k (a.tmod b)))
        | _ => False
      | _ => False
  | .shl =>
    match y with
    | .const _ => pureQ C s G o R
    | y =>
      match s.pg G x with
      | .v (.int k a) =>
        match s.pg G y with
        | .v (.int _ b) => Und s G (0 ≤ b) ∧ R (.v (.int k (k.wrap (a * 2 ^ min b.toNat k.bits))))
        | _ => False
      | _ => False
  | .shr =>
    match y with
    | .const _ => pureQ C s G o R
    | y =>
      match s.pg G x with
      | .v (.int k a) =>
        match s.pg G y with
        | .v (.int _ b) => Und s G (0 ≤ b) ∧ R (.v (.int k (a.fdiv (2 ^ min b.toNat k.bits))))
        | _ => False
      | _ => False
  | .add =>
    match s.pg G x with
    | .v (.string a) =>
      match s.pg G y with
      | .v (.string b) => Und s G (a.size + b.size ≤ 9223372036854775807) ∧ R (.v (.string (a ++ b)))
      | _ => False
    | _ => pureQ C s G o R
  | .eql =>
    match s.pg G x with
    | .v (.agg _) => byRun C E s u G o R
    | .v (.bool a) => vcEqB C s G T (fun b => b) a y R
    | .c k => cndK s.cs k fun a => vcEqB C s G T (fun b => b) a y R
    | .v (.slice A _ _) =>
      match C.ty T with
      | some i =>
        match i.desc with
        | .slice _ =>
          match y with
          | .const (.slice none _ _) => R (.v (.bool (A.isNone)))
          | _ => False
        | _ => False
      | none => False
    | .v (.pointer A) =>
      match C.ty T with
      | some i =>
        match i.desc with
        | .ptr _ =>
          match y with
          | .const (.pointer none) => R (.v (.bool (A.isNone)))
          | _ => False
        | _ => False
      | none => False
    | .p _ _ =>
      match C.ty T with
      | some i =>
        match i.desc with
        | .ptr _ =>
          match y with
          | .const (.pointer none) => R (.v (.bool false))
          | _ => False
        | _ => False
      | none => False
    | _ => pureQ C s G o R
  | .neq =>
    match s.pg G x with
    | .v (.agg _) => byRun C E s u G o R
    | .v (.bool a) => vcEqB C s G T not a y R
    | .c k => cndK s.cs k fun a => vcEqB C s G T not a y R
    | .v (.slice A _ _) =>
      match C.ty T with
      | some i =>
        match i.desc with
        | .slice _ =>
          match y with
          | .const (.slice none _ _) => R (.v (.bool (!A.isNone)))
          | _ => False
        | _ => False
      | none => False
    | .v (.pointer A) =>
      match C.ty T with
      | some i =>
        match i.desc with
        | .ptr _ =>
          match y with
          | .const (.pointer none) => R (.v (.bool (!A.isNone)))
          | _ => False
        | _ => False
      | none => False
    | .p _ _ =>
      match C.ty T with
      | some i =>
        match i.desc with
        | .ptr _ =>
          match y with
          | .const (.pointer none) => R (.v (.bool true))
          | _ => False
        | _ => False
      | none => False
    | _ => pureQ C s G o R
  | _ => pureQ C s G o R

def pickV (t : Bool) (b : List Box) (cs : List Bool) (x y : PV) : PV :=
  match x.val b cs with
  | .bool p =>
    match y.val b cs with
    | .bool q => .v (.bool (bif t then p else q))
    | _ => .v (bif t then x.val b cs else y.val b cs)
  | _ => .v (bif t then x.val b cs else y.val b cs)

def vcPick (s : St) (G : List (Nat × Bool)) (c a b : Operand) (R : PV → Prop) : Prop :=
  match s.pg G c with
  | .c k => cndK s.cs k fun t => R (pickV t s.b s.cs (s.pg (G ++ [(k, true)]) a) (s.pg (G ++ [(k, false)]) b))
  | .v (.bool t) => R (pickV t s.b s.cs (s.pg G a) (s.pg G b))
  | _ => False

def vcField (C : Ctx) (s : St) (G : List (Nat × Bool)) (T : TypeId) (x : Operand) (k : Nat) (R : PV → Prop) : Prop :=
  match C.ty T with
  | some i =>
    match i.desc with
    | .struct fs =>
      match nth fs k with
      | some f =>
        match C.ty f.2 with
        | some fi =>
          match fi.size with
          | 0 => False
          | _ + 1 =>
            match s.pg G x with
            | .p j o' => R (.p j (o' + f.1))
            | .q j o' => R (.q j (o' + f.1))
            | .v (.pointer (some a)) => R (.v (.pointer (some (a.add f.1))))
            | _ => False
        | none => False
      | none => False
    | _ => False
  | none => False

def vcConv (C : Ctx) (E : Env) (s : St) (u : World) (G : List (Nat × Bool)) (o : Oper) (src dst : TypeId) (x : Operand) (R : PV → Prop) : Prop :=
  match C.ty src with
  | some i =>
    match i.desc with
    | .slice e =>
      match C.ty e, C.ty dst with
      | some ie, some id =>
        match ie.desc, id.desc with
        | .int .u8, .string =>
          match s.pg G x with
          | .v (.slice A len _) => ∃ bs : List UInt8, Und s G (bs.length = len ∧ (0 < len → A.isSome = true) ∧ ∀ w, At E s u w → BytesAt w (adr A) bs) ∧ R (.v (.string ⟨bs.toArray⟩))
          | _ => False
        | _, _ => False
      | _, _ => False
    | .int _ =>
      match C.ty dst with
      | some id =>
        match id.desc with
        | .int k =>
          match s.pg G x with
          | .v (.int _ n) => R (.v (.int k (k.wrap n)))
          | _ => False
        | _ => byRun C E s u G o R
      | none => False
    | .string =>
      match C.ty dst with
      | some id =>
        match id.desc with
        | .string =>
          match s.pg G x with
          | .v (.string t) => R (.v (.string t))
          | _ => False
        | _ => byRun C E s u G o R
      | none => False
    | _ => byRun C E s u G o R
  | none => False
/-- operands, each reckoned -/
def evK (s : St) (G : List (Nat × Bool)) : List Operand → (List Value → Prop) → Prop
  | [], k => k []
  | x :: r, k => egF s G x fun v => evK s G r fun l => k (v :: l)
theorem evK_eq (s : St) (G : List (Nat × Bool)) : ∀ (l : List Operand) (k : List Value → Prop), evK s G l k = k (l.map (s.eg G))
  | [], _ => rfl
  | x :: r, k => by rw [evK, egF_eq, evK_eq s G r]; rfl
/-- a struct or an array of its parts -/
def plc (C : Ctx) : List (Nat × TypeId) → Option (List (Nat × Nat))
  | [] => some []
  | f :: r =>
    match C.ty f.2 with
    | some i =>
      match plc C r with
      | some l => some ((f.1, i.size) :: l)
      | none => none
    | none => none
def buildL (s : St) (G : List (Nat × Bool)) (pl : Nat → Option (Nat × Nat)) : List (Nat × Operand) → List Value → (List Value → Prop) → Prop
  | [], cs, k => k cs
  | p :: r, cs, k =>
    match pl p.1 with
    | none => False
    | some q => egF s G p.2 fun v =>
      match Nat.beq v.cells.toList.length q.2 && Nat.ble (q.1 + q.2) cs.length with
      | true => buildL s G pl r (setL cs q.1 v.cells.toList) k
      | false => False
def vcBuild (C : Ctx) (s : St) (G : List (Nat × Bool)) (T : TypeId) (parts : List (Nat × Operand)) (R : PV → Prop) : Prop :=
  match C.ty T with
  | some i =>
    match i.desc with
    | .struct fs =>
      match plc C fs with
      | some l => buildL s G (fun k => nth l k) parts i.zero fun cs => R (.v (.agg cs.toArray))
      | none => False
    | .arr _ e =>
      match C.ty e with
      | some ie => buildL s G (fun k => some (k * ie.size, ie.size)) parts i.zero fun cs => R (.v (.agg cs.toArray))
      | none => False
    | _ => False
  | none => False
/-- len, cap -/
def vcLen (C : Ctx) (E : Env) (s : St) (u : World) (G : List (Nat × Bool)) (o : Oper) (big : Bool) (c : Call) (R : PV → Prop) : Prop :=
  match c.argTypes.toList with
  | [T] =>
    match c.args.toList with
    | [x] =>
      match C.ty T with
      | some i =>
        match i.desc with
        | .slice _ =>
          match s.pg G x with
          | .v (.slice _ n m) =>
            match big with
            | true => R (.v (.int .i64 m))
            | false => R (.v (.int .i64 n))
          | _ => False
        | .string =>
          match big with
          | true => False
          | false =>
            match s.pg G x with
            | .v (.string t) => R (.v (.int .i64 t.size))
            | _ => False
        | .arr n _ => R (.v (.int .i64 n))
        | _ => byRun C E s u G o R
      | none => False
    | _ => False
  | _ => False

def vcQ (C : Ctx) (E : Env) (G : List (Nat × Bool)) (s : St) (u : World) (o : Oper) (R : PV → Prop) : Prop :=
  match o.op with
  | .move x => R (s.pg G x)
  | .assign x => R (s.pg G x)
  | .pick c a b => vcPick s G c a b R
  | .fieldAddr T x k => vcField C s G T x k R
  | .indexAddr T x ix => vcIndexAddr C s G T x ix R
  | .load T x => vcLoad C E s u G T x R
  | .makeFunc fn first captured => evK s G first.toList fun a => evK s G captured.toList fun b => R (.v (.func fn a.toArray b.toArray))
  | .extract x k =>
    match s.pg G x with
    | .v (.tuple vs) =>
      match nth vs.toList k with
      | some v => R (.v v)
      | none => False
    | _ => False
  | .build T parts => vcBuild C s G T parts.toList R
  | .nilCheck x =>
    match s.pg G x with
    | .p j o' => R (.p j o')
    | .q j o' => R (.q j o')
    | .v (.pointer (some a)) => R (.v (.pointer (some a)))
    | _ => False
  | .binOp op T x y _ => vcBin C E s u G o op T x y R
  | .slice T x lo hi mx =>
    match slB hi mx with
    | true => vcSlice C s G T x lo hi mx R
    | false => False
  | .index T x ix =>
    match C.ty T with
    | some i =>
      match i.desc with
      | .string =>
        match s.pg G x with
        | .v (.string t) =>
          match s.pg G ix with
          | .v (.int _ j) => Und s G (0 ≤ j ∧ j < t.size) ∧ R (.v (.int .u8 (byteAt t j.toNat)))
          | _ => False
        | _ => False
      | _ => pureQ C s G o R
    | none => False
  | .convert src dst x => vcConv C E s u G o src dst x R
  | .call c =>
    match c.callee with
    | .builtin .len => vcLen C E s u G o false c R
    | .builtin .cap => vcLen C E s u G o true c R
    | .builtin .min =>
      match c.args.toList with
      | [x, y] =>
        match s.pg G x with
        | .v (.int k a) =>
          match s.pg G y with
          | .v (.int _ b) => R (.v (.int k (if b < a then b else a)))
          | _ => False
        | _ => False
      | _ => False
    | _ => pureQ C s G o R
  | _ => pureQ C s G o R

/-! ### operations that make or turn memory -/
def addBox (s : St) (bx : Box) : St := { s with b := s.b ++ [bx] }
/-- the boxes behind an event -/
structure Boxes (b b' : List Box) (w' : World) : Prop where
  same : b'.map (fun x => (x.id, x.ty)) = b.map (fun x => (x.id, x.ty))
  box : ∀ bx ∈ b', bx.live = true → w'.heap[bx.id]? = some (.cells bx.cs.toArray bx.ty (0, 0))
/-- a box that the walk lets go -/
def killB : List Box → Nat → List Box
  | [], _ => []
  | x :: r, 0 => ⟨x.id, x.ty, x.cs, false⟩ :: r
  | x :: r, i + 1 => x :: killB r i
def killL : List Box → List Nat → List Box
  | l, [] => l
  | l, i :: r => killL (killB l i) r
def okS (E : Env) (w : World) (S : Nat → Prop) : Prop :=
  match E.grow with
  | false => ∀ x, x < w.heap.size → S x → E.S0 x ∨ E.w0.heap.size ≤ x
  | true => ∀ x, x < w.heap.size → ¬ S x

inductive CallP (C : Ctx) (E : Env) (s : St) (u : World) (f : FuncId) (args : List Value) (K : Value → List Box → World → Prop) : Prop where
  | mk (h : ∀ w, At E s u w → ∃ S : Nat → Prop, okS E w S ∧ Calls C.P f args.toArray w fun e w' => ∃ v b', e = .returned v ∧ Ext S w w' ∧ Boxes s.b b' w' ∧ K v b' w')
inductive GenP (C : Ctx) (E : Env) (s : St) (u : World) (act : Sem Next) (K : Value → List Box → World → Prop) : Prop where
  | mk (h : ∀ w, At E s u w → ∃ (S : Nat → Prop) (n : Next) (v : Value) (w' : World), okS E w S ∧ act.run C.P w = .ok n w' ∧ (n = .value v ∨ n = .skip ∧ v = undef) ∧ Ext S w w' ∧ ∃ b', Boxes s.b b' w' ∧ K v b' w')

def catParts (s : St) (G : List (Nat × Bool)) (size : Nat) : Nat → List (Nat × Operand) → Option (List Value)
  | _, [] => some []
  | i, x :: r =>
    match Nat.beq x.1 i with
    | false => none
    | true =>
      match Nat.beq (s.eg G x.2).cells.toList.length size with
      | false => none
      | true =>
        match catParts s G size (i + 1) r with
        | none => none
        | some l => some ((s.eg G x.2).cells.toList ++ l)

def evs (s : St) (G : List (Nat × Bool)) (l : List Operand) : List Value := l.map (s.eg G)

def genE (C : Ctx) (E : Env) (G : List (Nat × Bool)) (s : St) (u : World) (o : Oper) (K : SV → List Box → World → Prop) : Prop :=
  GenP C E s u (execOp (s.eg G) o) fun v b' w' => K (SV0 (.v v)) b' w'

def vcE (C : Ctx) (E : Env) (G : List (Nat × Bool)) (s : St) (u : World) (o : Oper) (K : SV → List Box → World → Prop) : Prop :=
  match o.op with
  | .alloc T =>
    match C.ty T with
    | some i => lenK s.b 0 fun n => ∀ b, u.heap.size ≤ b → K (SV0 (.p n 0)) (s.b ++ [⟨b, T, i.zero, true⟩]) u
    | none => False
  | .box T x => lenK s.b 0 fun n => egF s G x fun v => ∀ b, u.heap.size ≤ b → K (SV0 (.p n 0)) (s.b ++ [⟨b, T, v.cells.toList, true⟩]) u
  | .buildSlice T n parts =>
    match C.ty T with
    | some i =>
      match i.desc with
      | .slice e =>
        match C.ty e with
        | some ie =>
          match Nat.beq parts.toList.length n && Nat.ble (n * ie.size) 1000 with
          | true =>
            match catParts s G ie.size 0 parts.toList with
            | some cells => frcL cells fun cells => ∀ b, u.heap.size ≤ b → K (SV0 (.v (.slice (some ⟨b, 0, none⟩) n n))) (s.b ++ [⟨b, e, cells, true⟩]) u
            | none => False
          | false => False
        | none => False
      | _ => False
    | none => False
  | .store T a x =>
    egF s G x fun v =>
    match C.ty T with
    | some i =>
      match s.pg G a with
      | .p k off =>
        match live s.b k with
        | some bx =>
          match all1 v.cells.toList && Nat.beq v.cells.toList.length i.size && Nat.ble (off + i.size) bx.cs.length with
          | true => K (SV0 (.v undef)) (modB s.b k fun cs => setL cs off v.cells.toList) u
          | false => False
        | none => False
      | .q k off =>
        match live s.b k with
        | some bx =>
          match all1 v.cells.toList && Nat.beq v.cells.toList.length i.size with
          | true => off + i.size ≤ bx.cs.length ∧ K (SV0 (.v undef)) (modB s.b k fun cs => setL cs off v.cells.toList) u
          | false => False
        | none => False
      | _ => genE C E G s u o K
    | none => False
  | .call c =>
    match c.callee with
    | .value f =>
      match s.pg G f with
      | .v (.func (.func k) first caps) =>
        match C.fn k with
        | true => CallP C E s u k (first.toList ++ evs s G c.args.toList ++ caps.toList) fun v b' w' => K (SV0 (.v v)) b' w'
        | false => False
      | _ => False
    | _ => genE C E G s u o K
  | _ => genE C E G s u o K

/-- set the conditions of a path -/
def setC : List Bool → Nat → Bool → List Bool
  | [], _, _ => []
  | _ :: r, 0, b => b :: r
  | x :: r, i + 1, b => x :: setC r i b
def setG (cs : List Bool) : List (Nat × Bool) → List Bool
  | [] => cs
  | g :: r => setG (setC cs g.1 g.2) r

def withB (s : St) (b : List Box) : St := { s with b := b }

/-- under a path that is known -/
def vcG (C : Ctx) (E : Env) (n : Nat) (o : Oper) (G : List (Nat × Bool)) (s : St) (u : World) (K : St → World → Prop) : Prop :=
  match isQ C o.op with
  | true => vcQ C E G s u o fun x => frc x fun x => putK s o.dst (.w G x) fun s => K s u
  | false =>
    match G with
    | [] => vcE C E [] s u o fun x b' u' => withBK s b' fun s => putK s o.dst x fun s => K s u'
    | G =>
      GuardP G s
        (csK s (fun cs => setG cs G) fun s => vcE C E G s u o fun x b' u' => withBK s b' fun s => putK s o.dst x fun s => K s u')
        (putK s o.dst (.w [] (.v undef)) fun s => K s u)
        (match o.op with
         | .call c =>
           match c.callee with
           | .value f =>
             match s.pg G f with
             | .v (.func (.func k) first caps) =>
               match C.fn k with
               | true => ∃ v : Value, (hold s.cs G → ∀ w, At E s u w → Calls C.P k (first.toList ++ evs s G c.args.toList ++ caps.toList).toArray w fun e w' => e = .returned v ∧ Ext no w w') ∧
                   ∀ w', At E s u w' → putK s o.dst (.w G (.v v)) fun s => K s w'
               | false => False
             | _ => False
           | _ => False
         | _ => False)

def vcOp (C : Ctx) (E : Env) (n : Nat) (ops : List Oper) (o : Oper) (s : St) (u : World) (K : St → World → Prop) : Prop :=
  frcS s fun s =>
  match okDst n o.dst with
  | false => False
  | true =>
    match o.guard with
    | none => vcG C E n o [] s u K
    | some g =>
      match nth ops g.1 with
      | none => False
      | some og =>
        match og.dst with
        | none => False
        | some d =>
          match s.t d with
          | .w G (.c k) => frcG (G ++ [(k, g.2)]) fun G => vcG C E n o G s u K
          | .w G (.v (.bool c)) => lenK s.cs 0 fun n' => frcG (G ++ [(n', g.2)]) fun G' => addC s d (.w G (.c n')) c fun s => vcG C E n o G' s u K
          | _ => False

noncomputable def vcOps (C : Ctx) (E : Env) (n : Nat) (ops : List Oper) (l : List Oper) : St → World → (St → World → Prop) → Prop :=
  List.rec (motive := fun _ => St → World → (St → World → Prop) → Prop) (fun s u K => K s u) (fun o _ ih s u K => vcOp C E n ops o s u fun s' u' => ih s' u' K) l

/-! ### what is well formed -/
def PV.ok (nb nc : Nat) : PV → Prop
  | .v _ => True
  | .p i _ => i < nb
  | .q i _ => i < nb
  | .c k => k < nc
def SV.ok (nb nc : Nat) : SV → Prop
  | .w G x => (∀ g ∈ G, g.1 < nc) ∧ x.ok nb nc
def St.wf (s : St) : Prop := ∀ k, (s.t k).ok s.b.length s.cs.length
/-! ### code -/
def updL (f : Nat → SV) : List (Nat × PV) → Nat → SV
  | [] => f
  | x :: r => upd (updL f r) x.1 (SV0 x.2)
def slotsOK (b : List Box) (s2 : St) : List (Nat × PV) → Prop
  | [] => True
  | [x] => (s2.t x.1).val s2.b s2.cs = x.2.val b []
  | x :: r => (s2.t x.1).val s2.b s2.cs = x.2.val b [] ∧ slotsOK b s2 r
def slWf (nb : Nat) : List (Nat × PV) → Bool
  | [] => true
  | x :: r => (match x.2 with | .v _ => true | .p i _ => Nat.blt i nb | .q i _ => Nat.blt i nb | .c _ => false) && slWf nb r
inductive LoopP (E : Env) (body : (St → World → Prop) → St → World → Prop) (s : St) (u : World) : Prop where
  | mk (γ : Type) (sl : γ → List (Nat × PV)) (bx : γ → List Box) (I : γ → World → Prop) (μ : γ → Nat)
    (hwf : ∀ x, slWf (bx x).length (sl x) = true)
    (h0 : ∀ w, At E s u w → ∃ x, slotsOK (bx x) s (sl x) ∧ bx x <+: s.b ∧ I x w)
    (round : ∀ x (g : Nat → Value) u, I x u → body (fun s2 u2 => ∀ w, At E s2 u2 w → ∃ y, slotsOK (bx y) s2 (sl y) ∧ bx y <+: s2.b ∧ I y w ∧ μ y < μ x) ⟨updL (fun k => SV0 (.v (g k))) (sl x), bx x, []⟩ u)
/-- where ways meet: slots and boxes by a ghost -/
def Cut (E : Env) {γ : Type} (sl : γ → List (Nat × PV)) (bx : γ → List Box) (I : γ → World → Prop) (s2 : St) (u2 : World) : Prop :=
  ∀ w, At E s2 u2 w → ∃ x, slotsOK (bx x) s2 (sl x) ∧ bx x <+: s2.b ∧ I x w
inductive IfP (E : Env) (t : Bool) (a b : (St → World → Prop) → Prop) (N : St → World → Prop) : Prop where
  | mk (h : (t = true → a N) ∧ (t = false → b N))
  | join (γ : Type) (sl : γ → List (Nat × PV)) (bx : γ → List Box) (I : γ → World → Prop) (hwf : ∀ x, slWf (bx x).length (sl x) = true)
      (h : (t = true → a (Cut E sl bx I)) ∧ (t = false → b (Cut E sl bx I)))
      (k : ∀ x (g : Nat → Value) u, I x u → N ⟨updL (fun k => SV0 (.v (g k))) (sl x), bx x, []⟩ u)
/-- the order in which a region that draws is walked: ahead of m what only looks comes as early as it can; else whatever is ready comes: one, or each of them (fork, alt .. stop) -/
inductive Plan where
  | nil
  | stop
  | one (i : Nat) (r : Plan)
  | alt (i : Nat) (r rest : Plan)
  | fork (p : Plan)
noncomputable def Plan.ofList (l : List Nat) : Plan := List.rec (motive := fun _ => Plan) .nil (fun i _ ih => .one i ih) l
def Plan.heads : Plan → List Nat
  | .alt i _ rest => i :: rest.heads
  | _ => []
def Plan.isAlt : Plan → Bool
  | .alt _ _ _ => true
  | .stop => true
  | _ => false
def opFree (ops : Array Oper) (m i : Nat) : Bool :=
  match ops[i]? with
  | some o => !Nat.blt i m || (match o.op with | .store _ _ _ => false | _ => true)
  | none => false
def planOk (C : Ctx) (ops : Array Oper) (m : Nat) : Plan → Nat → Array Bool → Bool
  | .nil, n, l => Nat.beq n 0 && (Region.ready .any ops l).isEmpty
  | .stop, _, _ => true
  | .one i r, n, l =>
    match n with
    | 0 => false
    | n + 1 =>
      (match ops[i]? with
       | some o =>
         match Nat.blt i m && isQ C o.op with
         | true => Region.free .any ops l i && (Region.ready .any ops l).contains i
         | false => Region.ready .any ops l == [i] && opFree ops m i
       | none => false) && (!r.isAlt && planOk C ops m r n (l.setIfInBounds i true))
  | .alt i r rest, n, l =>
    (match n with
     | 0 => false
     | n + 1 => opFree ops m i && !r.isAlt && planOk C ops m r n (l.setIfInBounds i true)) && planOk C ops m rest n l
  | .fork p, n, l => (match p with | .alt _ _ _ => true | _ => false) && (Region.ready .any ops l == p.heads) && planOk C ops m p n l
def planTop (C : Ctx) (ops : Array Oper) (m : Nat) (plan : Plan) : Bool := !plan.isAlt && planOk C ops m plan ops.size (Array.replicate ops.size false)
/-- what waits for whom, through others -/
def ancOk (ops : Array Oper) (m : Nat) (A : List (List Nat)) : Bool :=
  (Nat.beq A.length ops.size) &&
  (List.range ops.size).all (fun j => match ops[j]?, A[j]? with
    | some o, some l => l.all fun i => o.after.any fun e => Region.binds .any e && (e.on == i || (match A[e.on]? with | some l' => Nat.blt e.on j && l'.contains i | none => false))
    | _, _ => false) &&
  (List.range ops.size).all (fun j => Nat.blt j m || match A[j]? with
    | some l => (List.range m).all fun i => l.contains i
    | none => false)
noncomputable def vcPlan (C : Ctx) (E : Env) (n : Nat) (ops : List Oper) (m : Nat) (p : Plan) : St → World → (St → World → Prop) → Prop :=
  Plan.rec (motive := fun _ => St → World → (St → World → Prop) → Prop) (fun s u K => K s u) (fun _ _ _ => True)
    (fun i _ ih s u K =>
      match nth ops i with
      | none => False
      | some o => vcOp C ⟨E.w0, E.S0, Nat.blt i m⟩ n ops o s u fun s' u' => ih s' u' K)
    (fun i _ _ ihr ihs s u K =>
      (match nth ops i with
       | none => False
       | some o => vcOp C ⟨E.w0, E.S0, Nat.blt i m⟩ n ops o s u fun s' u' => ihr s' u' K) ∧ ihs s u K)
    (fun _ ih s u K => ih s u K) p
inductive DrawP (C : Ctx) (E : Env) (n : Nat) (ops : Array Oper) (s : St) (u : World) (K : St → World → Prop) : Prop where
  | mk (m : Nat) (A : List (List Nat)) (plan : Plan) (h1 : Region.noSelect ops = true) (h2 : ancOk ops m A = true) (h3 : planTop C ops m plan = true)
      (h : vcPlan C E n ops.toList m plan s u K)
  | join (γ : Type) (sl : γ → List (Nat × PV)) (bx : γ → List Box) (I : γ → World → Prop) (hwf : ∀ x, slWf (bx x).length (sl x) = true)
      (m : Nat) (A : List (List Nat)) (plan : Plan) (h1 : Region.noSelect ops = true) (h2 : ancOk ops m A = true) (h3 : planTop C ops m plan = true)
      (h : vcPlan C E n ops.toList m plan s u (Cut E sl bx I))
      (k : ∀ x (g : Nat → Value) u, I x u → K ⟨updL (fun k => SV0 (.v (g k))) (sl x), bx x, []⟩ u)
structure JoinP (p : Prop) : Prop where
  out : p

abbrev KT := St → World → Prop
noncomputable def vc (C : Ctx) (E : Env) (n : Nat) (c : Code) : KT → (Nat → KT) → KT → KT :=
  Code.rec (motive := fun _ => KT → (Nat → KT) → KT → KT)
    (fun N _ _ => N)
    (fun _ ops d N _ _ s u =>
      match d with
      | false => vcOps C E n ops.toList ops.toList s u N
      | true => DrawP C E n ops s u N)
    (fun _ _ iha ihb N X R => iha (ihb N X R) X R)
    (fun c _ _ iha ihb N X R s u =>
      match s.pg [] c with
      | .v (.bool t) => IfP E t (fun N' => iha N' X R s u) (fun N' => ihb N' X R s u) N
      | .c k => cndK s.cs k fun t => IfP E t (fun N' => iha N' X R s u) (fun N' => ihb N' X R s u) N
      | _ => False)
    (fun id _ ih N X R => ih N (fun k => bif Nat.beq k id then N else X k) R)
    (fun _ ih _ X R s u => LoopP E (fun N' => ih N' X R) s u)
    (fun _ _ _ _ _ _ _ _ _ _ _ => False)
    (fun id _ X _ => X id)
    (fun _ _ _ _ _ _ _ => False)
    (fun _ _ _ _ _ _ => False)
    (fun _ _ _ _ _ _ => False)
    (fun _ _ R => R)
    (fun _ _ _ _ _ _ => False) c
section
variable {C : Ctx} {E : Env} {n : Nat} {N : KT} {X : Nat → KT} {R : KT}
theorem vc_seq (a b : Code) : vc C E n (.seq a b) N X R = vc C E n a (vc C E n b N X R) X R := rfl
theorem vc_list (id : Nat) (ops : Array Oper) : vc C E n (.region id ops false) N X R = fun s u => vcOps C E n ops.toList ops.toList s u N := rfl
theorem vc_draw (id : Nat) (ops : Array Oper) : vc C E n (.region id ops true) N X R = fun s u => DrawP C E n ops s u N := rfl
theorem vc_cond (c : Operand) (a b : Code) : vc C E n (.cond c a b) N X R = fun s u =>
    match s.pg [] c with
    | .v (.bool t) => IfP E t (fun N' => vc C E n a N' X R s u) (fun N' => vc C E n b N' X R s u) N
    | .c k => cndK s.cs k fun t => IfP E t (fun N' => vc C E n a N' X R s u) (fun N' => vc C E n b N' X R s u) N
    | _ => False := rfl
theorem vc_block (id : Nat) (a : Code) : vc C E n (.block id a) N X R = vc C E n a N (fun k => bif Nat.beq k id then N else X k) R := rfl
theorem vc_loop (a : Code) : vc C E n (.loop a) N X R = fun s u => LoopP E (fun N' => vc C E n a N' X R) s u := rfl
end

/-- the results -/
def resV (C : Ctx) (s : St) : List ResultVar → Option (List Value)
  | [] => some []
  | .tmp t :: r =>
    match resV C s r with
    | none => none
    | some l => some (s.eg [] (.tmp t) :: l)
  | .cell a T :: r =>
    match s.pg [] (.tmp a) with
    | .p k 0 =>
      match live s.b k with
      | none => none
      | some bx =>
        match C.ty T with
        | some i =>
          match resV C s r with
          | none => none
          | some l =>
            match i.desc.agg with
            | true =>
              match Nat.beq bx.cs.length i.size with
              | true => some (.agg bx.cs.toArray :: l)
              | false => none
            | false =>
              match bx.cs with
              | [v] => some (v :: l)
              | _ => none
        | none => none
    | _ => none
def resOne : List Value → Value
  | [v] => v
  | l => .tuple l.toArray
def Fin (C : Ctx) (E : Env) (fn : Func) (R : Ending → World → Prop) : KT := fun s u =>
  match resV C s fn.results.toList with
  | none => False
  | some l => JoinP (∀ w, At E s u w → R (.returned (resOne l)) w)
def initT : List Value → Nat → SV
  | [], _ => SV0 (.v undef)
  | v :: _, 0 => SV0 (.v v)
  | _ :: r, i + 1 => initT r i
end Go.Flow
