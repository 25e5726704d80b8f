/- OWN WORK. Flow, part E: the rules of a walk. -/
import Derived.Test.YtdmengbemonkaaaFlowD
import Derived.Maps.AppendAt
import Derived.Laws.OwnMore
import Derived.Laws.MakeOwn
set_option linter.unusedVariables false
set_option linter.unusedSimpArgs false
namespace Go.Flow
open Go

section
variable {C : Ctx} {E : Env} {s : St} {u : World}

theorem if_split {t : Bool} {a b : KT → Prop} {N : KT} (h1 : t = true → a N) (h2 : t = false → b N) : IfP E t a b N := .mk ⟨h1, h2⟩
theorem if_yes {t : Bool} {a b : KT → Prop} {N : KT} (h : t = true) (h1 : a N) : IfP E t a b N := .mk ⟨fun _ => h1, fun h2 => by rw [h] at h2; cases h2⟩
theorem if_no {t : Bool} {a b : KT → Prop} {N : KT} (h : t = false) (h1 : b N) : IfP E t a b N := .mk ⟨fun h2 => (by rw [h] at h2; cases h2), fun _ => h1⟩
/-- both ways, and on from where they meet -/
theorem if_join {t : Bool} {a b : KT → Prop} {N : KT} {γ : Type} (sl : γ → List (Nat × PV)) (bx : γ → List Box) (I : γ → World → Prop) (hwf : ∀ x, slWf (bx x).length (sl x) = true)
    (h1 : t = true → a (Cut E sl bx I)) (h2 : t = false → b (Cut E sl bx I)) (k : ∀ x (g : Nat → Value) u, I x u → N ⟨updL (fun k => SV0 (.v (g k))) (sl x), bx x, []⟩ u) : IfP E t a b N := .join γ sl bx I hwf ⟨h1, h2⟩ k

theorem okS_no (w : World) : okS E w no := by
  unfold okS; split
  · exact fun _ _ h => h.elim
  · exact fun _ _ h => h
theorem okS_mono {w : World} {B S : Nat → Prop} (h : okS E w B) (hs : ∀ k, k < w.heap.size → S k → B k) : okS E w S := by
  unfold okS at h ⊢; split at h
  · exact fun x hx hS => h x hx (hs x hx hS)
  · exact fun x hx hS => h x hx (hs x hx hS)

theorem boxes_keep {w w' : World} {S : Nat → Prop} (hat : At E s u w) (hx : Ext S w w') (hd : ∀ bx ∈ s.b, bx.live = true → ¬ S bx.id) : Boxes s.b s.b w' :=
  ⟨rfl, fun bx hm hl => by
    have hb := hat.box bx hm hl
    rw [hx.keep _ (Array.getElem?_eq_some_iff.1 hb).1 (hd bx hm hl)]; exact hb⟩
theorem killB_ids : ∀ (l : List Box) (i : Nat), (killB l i).map (fun x => (x.id, x.ty)) = l.map (fun x => (x.id, x.ty))
  | [], _ => rfl
  | _ :: _, 0 => rfl
  | x :: r, i + 1 => by simp only [killB, List.map_cons, killB_ids r i]
theorem killB_mem : ∀ (l : List Box) (i : Nat), ∀ x ∈ killB l i, x.live = true → x ∈ l
  | [], _, _, h, _ => absurd h List.not_mem_nil
  | y :: r, 0, x, h, hl => by
    simp only [killB, List.mem_cons] at h
    rcases h with rfl | h
    · simp at hl
    · simp [h]
  | y :: r, i + 1, x, h, hl => by
    simp only [killB, List.mem_cons] at h
    rcases h with rfl | h
    · simp
    · simp [killB_mem r i x h hl]
theorem killL_ids : ∀ (d : List Nat) (l : List Box), (killL l d).map (fun x => (x.id, x.ty)) = l.map (fun x => (x.id, x.ty))
  | [], _ => rfl
  | i :: r, l => by simp only [killL]; rw [killL_ids r, killB_ids]
theorem killL_mem : ∀ (d : List Nat) (l : List Box), ∀ x ∈ killL l d, x.live = true → x ∈ l
  | [], _, _, h, _ => h
  | i :: r, l, x, h, hl => killB_mem l i x (killL_mem r _ x h hl) hl
def liveAll (p : Nat → Prop) : List Box → Prop
  | [] => True
  | bx :: r =>
    match bx.live with
    | true => p bx.id ∧ liveAll p r
    | false => liveAll p r
theorem liveAll_spec {p : Nat → Prop} : ∀ {l : List Box}, liveAll p l → ∀ bx ∈ l, bx.live = true → p bx.id
  | [], _, _, h, _ => absurd h List.not_mem_nil
  | x :: r, h, bx, hm, hl => by
    unfold liveAll at h
    split at h
    · rcases List.mem_cons.1 hm with rfl | hm
      · exact h.1
      · exact liveAll_spec h.2 bx hm hl
    · rename_i hx
      rcases List.mem_cons.1 hm with rfl | hm
      · rw [hx] at hl; cases hl
      · exact liveAll_spec h bx hm hl
/-- since the last event the walk's boxes alone may have turned -/
theorem At.extS {w : World} (h : At E s u w) {S : Nat → Prop} (hS : liveAll S s.b) : Ext S u w := h.ext.mono fun x _ ⟨bx, hm, hl, he⟩ => by rw [← he]; exact liveAll_spec hS bx hm hl
theorem At.extNo {w : World} (h : At E s u w) (hS : liveAll (fun _ => False) s.b) : Ext no u w := h.extS (S := no) hS
/-- all its boxes are younger than the last event -/
theorem At.extF {w : World} (h : At E s u w) (hS : liveAll (fun i => u.heap.size ≤ i) s.b) : Ext no u w := (h.extS hS).mono fun x hx hk => absurd hk (Nat.not_le.2 hx)
/-- all its boxes are younger than an older world -/
theorem At.from {w u0 : World} (h : At E s u w) (h0 : Ext no u0 u) (hS : liveAll (fun i => u0.heap.size ≤ i) s.b) : Ext no u0 w :=
  h0.trans' (h.extS hS) (fun _ h => h) (fun x hx hk => absurd hk (Nat.not_le.2 hx))
theorem At.bx {w : World} (h : At E s u w) (i : Nat) {bx : Box} (hb : live s.b i = some bx) : w.heap[bx.id]? = some (.cells bx.cs.toArray bx.ty (0, 0)) := by
  obtain ⟨h1, h2⟩ := live_spec hb
  exact h.box bx (by rw [nth_get] at h1; exact List.mem_of_getElem? h1) h2
theorem At.fr {w : World} (h : At E s u w) (i : Nat) {bx : Box} (hb : live s.b i = some bx) : E.w0.heap.size ≤ bx.id := by
  obtain ⟨h1, _⟩ := live_spec hb
  exact h.fresh bx (by rw [nth_get] at h1; exact List.mem_of_getElem? h1)
theorem At.lt {w : World} (h : At E s u w) (i : Nat) {bx : Box} (hb : live s.b i = some bx) : bx.id < w.heap.size := (Array.getElem?_eq_some_iff.1 (h.bx i hb)).1
theorem At.size {w : World} (h : At E s u w) : E.w0.heap.size ≤ w.heap.size := h.ext0.size
theorem boxes_kill {w w' : World} {S : Nat → Prop} (d : List Nat) (hat : At E s u w) (hx : Ext S w w') (hd : ∀ bx ∈ killL s.b d, bx.live = true → ¬ S bx.id) : Boxes s.b (killL s.b d) w' :=
  ⟨killL_ids d s.b, fun bx hm hl => by
    have hb := hat.box bx (killL_mem d _ bx hm hl) hl
    rw [hx.keep _ (Array.getElem?_eq_some_iff.1 hb).1 (hd bx hm hl)]; exact hb⟩
/-- a call that turns nothing that was there -/
theorem call_ev {f : FuncId} {args : List Value} {K : Value → List Box → World → Prop}
    (h : ∀ w, At E s u w → Calls C.P f args.toArray w fun e w' => ∃ v, e = .returned v ∧ Ext no w w' ∧ K v s.b w') : CallP C E s u f args K :=
  ⟨fun w hat => ⟨no, okS_no w, (h w hat).mono fun e w' ⟨v, he, hx, hk⟩ => ⟨v, s.b, he, hx, boxes_keep hat hx (fun _ _ _ h => h), hk⟩⟩⟩
/-- the same; d: boxes that the walk lets go -/
theorem call_evD {f : FuncId} {args : List Value} {K : Value → List Box → World → Prop} (d : List Nat)
    (h : ∀ w, At E s u w → Calls C.P f args.toArray w fun e w' => ∃ v, e = .returned v ∧ Ext no w w' ∧ K v (killL s.b d) w') : CallP C E s u f args K :=
  ⟨fun w hat => ⟨no, okS_no w, (h w hat).mono fun e w' ⟨v, he, hx, hk⟩ => ⟨v, _, he, hx, boxes_kill d hat hx (fun _ _ _ h => h), hk⟩⟩⟩
/-- a call that turns blocks of S; d: boxes that the walk lets go -/
theorem call_evS {f : FuncId} {args : List Value} {K : Value → List Box → World → Prop} (d : List Nat)
    (h : ∀ w, At E s u w → ∃ S : Nat → Prop, okS E w S ∧ liveAll (fun i => ¬ S i) (killL s.b d) ∧ Calls C.P f args.toArray w fun e w' => ∃ v, e = .returned v ∧ Ext S w w' ∧ K v (killL s.b d) w') : CallP C E s u f args K :=
  ⟨fun w hat => by
    obtain ⟨S, hS, hd, hc⟩ := h w hat
    exact ⟨S, hS, hc.mono fun e w' ⟨v, he, hx, hk⟩ => ⟨v, _, he, hx, boxes_kill d hat hx (liveAll_spec hd), hk⟩⟩⟩
/-- a call that turns the walk's boxes, too -/
theorem call_evB {f : FuncId} {args : List Value} {K : Value → List Box → World → Prop} 
    (h : ∀ w, At E s u w → ∃ S : Nat → Prop, okS E w S ∧ Calls C.P f args.toArray w fun e w' => ∃ v b', e = .returned v ∧ Ext S w w' ∧ Boxes s.b b' w' ∧ K v b' w') : CallP C E s u f args K := ⟨h⟩

/-- an operation by its run -/
theorem gen_ev {act : Sem Next} {K : Value → List Box → World → Prop} (d : List Nat)
    (h : ∀ w, At E s u w → ∃ (S : Nat → Prop) (v : Value) (w' : World), okS E w S ∧ liveAll (fun i => ¬ S i) (killL s.b d) ∧ act.run C.P w = .ok (.value v) w' ∧ Ext S w w' ∧ K v (killL s.b d) w') : GenP C E s u act K :=
  ⟨fun w hat => by
    obtain ⟨S, v, w', hS, hd, hr, hx, hk⟩ := h w hat
    exact ⟨S, .value v, v, w', hS, hr, .inl rfl, hx, _, boxes_kill d hat hx (liveAll_spec hd), hk⟩⟩
theorem gen_evU {act : Sem Next} {K : Value → List Box → World → Prop} (d : List Nat)
    (h : ∀ w, At E s u w → ∃ (S : Nat → Prop) (w' : World), okS E w S ∧ liveAll (fun i => ¬ S i) (killL s.b d) ∧ act.run C.P w = .ok .skip w' ∧ Ext S w w' ∧ K undef (killL s.b d) w') : GenP C E s u act K :=
  ⟨fun w hat => by
    obtain ⟨S, w', hS, hd, hr, hx, hk⟩ := h w hat
    exact ⟨S, .skip, undef, w', hS, hr, .inr ⟨rfl, rfl⟩, hx, _, boxes_kill d hat hx (liveAll_spec hd), hk⟩⟩

theorem g_split {G : List (Nat × Bool)} {a b c : Prop} (h1 : hold s.cs G → a) (h2 : ¬ hold s.cs G → b) : GuardP G s a b c := .split h1 h2
theorem g_yes {G : List (Nat × Bool)} {a b c : Prop} (h : hold s.cs G) (h1 : a) : GuardP G s a b c := .split (fun _ => h1) (fun h2 => absurd h h2)
theorem g_no {G : List (Nat × Bool)} {a b c : Prop} (h : ¬ hold s.cs G) (h1 : b) : GuardP G s a b c := .split (fun h2 => absurd h2 h) (fun _ => h1)

/-- a region that draws -/
theorem draw_ev {n : Nat} {ops : Array Oper} {K : St → World → Prop} (m : Nat) (A : List (List Nat)) (plan : List Nat) (h1 : Region.noSelect ops = true) (h2 : ancOk ops m A = true)
    (h3 : planTop C ops m (.ofList plan) = true) (h : vcPlan C E n ops.toList m (.ofList plan) s u K) : DrawP C E n ops s u K := .mk m A _ h1 h2 h3 h
/-- the same, where several orders are to be walked (fork, alt .. stop) -/
theorem draw_evP {n : Nat} {ops : Array Oper} {K : St → World → Prop} (m : Nat) (A : List (List Nat)) (plan : Plan) (h1 : Region.noSelect ops = true) (h2 : ancOk ops m A = true)
    (h3 : planTop C ops m plan = true) (h : vcPlan C E n ops.toList m plan s u K) : DrawP C E n ops s u K := .mk m A _ h1 h2 h3 h
/-- the same, and on from where they meet -/
theorem draw_join {n : Nat} {ops : Array Oper} {K : St → World → Prop} {γ : Type} (sl : γ → List (Nat × PV)) (bx : γ → List Box) (I : γ → World → Prop) (hwf : ∀ x, slWf (bx x).length (sl x) = true)
    (m : Nat) (A : List (List Nat)) (plan : Plan) (h1 : Region.noSelect ops = true) (h2 : ancOk ops m A = true)
    (h3 : planTop C ops m plan = true) (h : vcPlan C E n ops.toList m plan s u (Cut E sl bx I)) (k : ∀ x (g : Nat → Value) u, I x u → K ⟨updL (fun k => SV0 (.v (g k))) (sl x), bx x, []⟩ u) : DrawP C E n ops s u K :=
  .join γ sl bx I hwf m A plan h1 h2 h3 h k
/-! ### a loop -/
/-- slots and boxes by a ghost x; the rest of the slots is whatever it is -/
theorem loop_ev {γ : Type} {body : (St → World → Prop) → St → World → Prop} (sl : γ → List (Nat × PV)) (bx : γ → List Box) (I : γ → World → Prop) (μ : γ → Nat)
    (hwf : ∀ x, slWf (bx x).length (sl x) = true)
    (h0 : ∀ w, At E s u w → ∃ x, slotsOK (bx x) s (sl x) ∧ bx x <+: s.b ∧ I x w)
    (round : ∀ x (g : Nat → Value) u, I x u → body (fun s2 u2 => ∀ w, At E s2 u2 w → ∃ y, slotsOK (bx y) s2 (sl y) ∧ bx y <+: s2.b ∧ I y w ∧ μ y < μ x) ⟨updL (fun k => SV0 (.v (g k))) (sl x), bx x, []⟩ u) :
    LoopP E body s u := .mk γ sl bx I μ hwf h0 round
end
end Go.Flow
