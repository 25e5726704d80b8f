import Derived.Test.YtdmengbemonkaaaNM
set_option linter.all false
namespace Go.Proofs.Ytdmengbemonkaaa
open Go Go.Flow

theorem own_addr {α : Type} {d : Kind α} {e : TypeId} {w : World} {B F : Nat → Prop} {A : Option Addr} {n c : Nat} {xs : List α} (h : Own d e w B F (.slice A n c) xs) (h0 : 0 < xs.length) : ∃ g, A = some ⟨g, 0, none⟩ ∧ xs.length = n := by
  obtain ⟨cells, ⟨_, q1⟩, _⟩ := h
  rcases q1 with ⟨h1, h2⟩ | ⟨g', cap, cur, h1, _⟩
  · omega
  · injection h1 with h1 h2 h3
    exact ⟨g', h1, h2.symm⟩

theorem u8_wrap (z : Int) : ∃ b : UInt8, IntKind.u8.wrap z = (b.toNat : Int) := by
  have h : 0 ≤ IntKind.u8.wrap z ∧ IntKind.u8.wrap z ≤ 255 := by
    simp only [IntKind.wrap, IntKind.signed, IntKind.bits]
    constructor
    · simp; exact Int.emod_nonneg _ (by decide)
    · simp; have := Int.emod_lt_of_pos z (show (0 : Int) < 256 by decide); omega
  refine ⟨UInt8.ofNat (IntKind.u8.wrap z).toNat, ?_⟩
  rw [UInt8.toNat_ofNat', Nat.mod_eq_of_lt (by omega), Int.toNat_of_nonneg h.1]
set_option maxHeartbeats 1000000 in
theorem netown_c (w : World) (F : Nat → Prop) (A : Option Addr) (n c : Nat) (bs : List UInt8) (to : Int) (h : SliceR kU8 w F A n bs) :
    Calls Try.prog 5 #[.slice A n c, .int .i64 to] w fun e w' => e = .returned (.bool true) ∧ Ext no w w' := by
  obtain ⟨G, hG⟩ : ∃ G : Nat → Prop, G = fun k => F k ∧ k < w.heap.size := ⟨_, rfl⟩
  replace h : SliceR kU8 w G A n bs := hG ▸ h.here (by decide)
  have hG' : ∀ k, G k → k < w.heap.size := by rw [hG]; exact fun k h => h.2
  have hnle := h.le
  apply calls_of_vc T.C 5 Try.f5 _ [.slice A n c, .int .i64 to] w no _ Try.func5 rfl rfl
  refine call_ev fun w1 h1 => (alive_c w1).mono ?_
  rintro e w2 ⟨rfl, hx2⟩
  refine ⟨_, rfl, hx2, ?_⟩
  have hw2 : w.heap.size ≤ w2.heap.size := Nat.le_trans h1.size hx2.size
  clear h1
  refine if_no rfl ?_
  intro b0 hb0
  refine append_ev kU8 [0] (T := 27) (e := 5) rfl rfl rfl rfl (by decide) (by decide) rfl rfl rfl ?_
  intro w3 h3
  refine ⟨fun k => k = b0, no, no, [], bs, Own.lit0 (h3.bx 0 rfl) (fun h => h), h.len, h.some_, (h.ext0 h3.ext0).row, fun _ _ h => h, ?_, fun k _ hk => .inr (hk ▸ Nat.le_trans hw2 hb0), trivial, fun v w4 hx4 hown4 hn4 => ?_⟩
  · show (0 + n) * 1 ≤ _; omega
  have hw3 : w.heap.size ≤ w3.heap.size := h3.size
  clear h3
  -- x
  have hX : Own kU8 5 w4 (fun k => w.heap.size ≤ k ∧ k < w4.heap.size) no v bs := by
    refine hown4.mono (fun k hk hl => ⟨?_, hl⟩) (fun k hk _ => hk.1.elim (fun h => h) (fun h => h)) (fun k _ hf _ => hf.elim)
    rcases hk with hk | hk
    · show w.heap.size ≤ k; omega
    · show w.heap.size ≤ k; omega
  obtain ⟨Ax, cx, rfl, hcx, hsx⟩ := hX.slice
  have hw4 : w.heap.size ≤ w4.heap.size := Nat.le_trans hw3 hx4.size
  -- l
  intro b1 hb1
  refine call_evD [1] fun w5 h5 => (post1_c w5 (fun k => k < w5.heap.size) (some ⟨b1, 0, none⟩) 1 to bs
    (row_list (h5.bx 1 rfl) ⟨Ax, _, cx, rfl, (hsx.ext0 (h5.extF ⟨hb1, trivial⟩)).mono (fun k _ hl => hl) (by decide)⟩ (h5.lt 1 rfl))).mono ?_
  rintro e w6 ⟨vl, BL, FL, rfl, hx6, hL, hBL, hFL⟩
  refine ⟨vl, rfl, hx6, ?_⟩
  have hx45 : Ext no w4 w5 := h5.extF ⟨hb1, trivial⟩
  have hw5 := hx45.size
  clear h5
  have hX6 := (hX.ext0 hx45).ext0 hx6
  replace hL := hL.here
  obtain ⟨Al, cl, rfl, hcl, hsl⟩ := hL.slice
  obtain ⟨g, rfl, _⟩ := own_addr hL (by simp)
  -- m
  refine call_ev fun w7 h7 => (for_c w7 _ (some ⟨g, 0, none⟩) 1 cl [⟨to, bs⟩] to (sliceO (hsl.ext0 (h7.extNo trivial))) (by omega)).mono ?_
  rintro e w8 ⟨vm, FM, rfl, hx8, hM, hFM⟩
  refine ⟨vm, rfl, hx8, ?_⟩
  have hx67 := h7.extNo trivial
  have hw67 := hx67.size
  clear h7
  have hkp : keepL [⟨to, bs⟩] to = [⟨to, bs⟩] := by unfold keepL; simp
  rw [hkp] at hM
  obtain ⟨Am, cm, rfl, hcm, hsm⟩ := hM.slice
  have hsM : SliceR kMail w8 (fun k => w7.heap.size ≤ k) Am 1 [⟨to, bs⟩] := hsm.mono (fun k hk _ => hk.elim (fun h => h) (hFM k)) (by decide)
  have hX8 := (hX6.ext0 hx67).ext0 hx8
  have hL8 := (hL.ext0 hx67).ext0 hx8
  obtain ⟨_, ⟨vd, rfl, hD⟩, hcL⟩ := hL8.elem (j := 0) rfl
  have hgB := (hL8.blk g rfl).2
  have hcL' : CellsAt w8 ⟨g, 0, none⟩ [.int .i64 to, vd] := by simpa using hcL
  obtain ⟨Ad, cd, rfl, hcd, hsd⟩ := hD.slice
  have hgw : w5.heap.size ≤ g := hBL g hgB.1.1
  have hnd : ∀ k, (FL k ∧ k < w6.heap.size) → w5.heap.size ≤ k ∧ k < w6.heap.size ∧ k ≠ g := fun k hk => ⟨hFL k hk.1, hk.2, fun e => hgB.2 (e ▸ hk)⟩
  replace hD : Own kU8 5 w8 (fun k => w5.heap.size ≤ k ∧ k < w6.heap.size ∧ k ≠ g) no (.slice Ad bs.length cd) bs := hD.mono (fun k hk _ => hnd k hk) (fun _ h _ => h) (fun _ _ h _ => h)
  have hgw6 : g < w6.heap.size := hgB.1.2
  clear hL8 hL hsl hgB hcL hsm hM hX6 hX hsx hsd
  have hxl : bs.length = n := h.len
  have hs6 := hx6.size
  refine loop_ev (γ := Nat × List UInt8) (fun y => [(8, .v (.int .i64 y.1)), (5, .v (.slice Ax bs.length cx)), (6, .v (.slice (some ⟨g, 0, none⟩) 1 cl)), (7, .v (.slice Am 1 cm)), (0, .v (.slice A n c))]) (fun _ => [])
    (fun y u => y.1 ≤ bs.length ∧ y.2.length = bs.length ∧ Ext no w u ∧ Own kU8 5 u (fun k => w.heap.size ≤ k ∧ k < w4.heap.size) no (.slice Ax bs.length cx) y.2 ∧
      Own kU8 5 u (fun k => w5.heap.size ≤ k ∧ k < w6.heap.size ∧ k ≠ g) no (.slice Ad bs.length cd) bs ∧ CellsAt u ⟨g, 0, none⟩ [.int .i64 to, .slice Ad bs.length cd] ∧ SliceR kMail u (fun k => w7.heap.size ≤ k) Am 1 [⟨to, bs⟩]) (fun y => bs.length - y.1) (fun _ => rfl) ?_ ?_
  · intro w9 h9
    have hx9 := h9.extNo trivial
    exact ⟨(0, bs), ⟨rfl, rfl, rfl, rfl, rfl⟩, List.nil_prefix, Nat.zero_le _, rfl, h9.ext0, hX8.ext0 hx9, hD.ext0 hx9, hcL'.ext hx9 (fun h => h), hsM.ext0 hx9⟩
  clear hX8 hD hcL' hsM
  rintro ⟨i, ys⟩ gg u ⟨(hi : i ≤ bs.length), (hyl : ys.length = bs.length), hu, (hX : Own kU8 5 u _ no (.slice Ax bs.length cx) ys), hD, hcL, hsM⟩
  refine if_split (fun hlt => ?_) (fun hge => ?_)
  · have hlt : i < bs.length := dlt hlt
    obtain ⟨y, hy⟩ : ∃ y, ys[i]? = some y := ⟨_, List.getElem?_eq_getElem (by omega)⟩
    obtain ⟨gx, rfl, _⟩ := own_addr hX (by omega)
    obtain ⟨_, rfl, hcy⟩ := hX.elem hy
    refine ⟨⟨rfl, Int.natCast_nonneg _, Int.ofNat_lt.2 hlt⟩, .int .u8 (y.toNat : Int), fun w9 h9 => ?_, ?_⟩
    · show w9.cell? ((⟨gx, 0, none⟩ : Addr).add (i * 1)) = _
      rw [bid_add, Nat.zero_add]
      exact (hcy.ext (h9.extNo trivial) (fun h => h)).head
    refine ⟨⟨rfl, Int.natCast_nonneg _, Int.ofNat_lt.2 hlt⟩, ?_⟩
    obtain ⟨y', hy'⟩ := u8_wrap ((y.toNat : Int) + 1)
    have hgxB := hX.blk gx rfl
    refine set_ev kU8 [] (e := 5) (g := gx) (j := i) (n := bs.length) (c := cx) (cs := [.int .u8 (IntKind.u8.wrap ((y.toNat : Int) + 1))]) rfl rfl (by decide) rfl rfl rfl rfl ?_
    intro w9 h9
    have hx9 := h9.extNo trivial
    clear h9
    refine ⟨_, no, ys, y', hX.ext0 hx9, hlt, by show _ = _; rw [hy'], fun k _ hk => .inr (by have e : k = gx := hk; rw [e]; exact hgxB.2.1.1), trivial, fun w10 hx10 hown10 => ?_⟩
    intro w11 h11
    have hx11 := h11.extNo trivial
    have hgx4 : gx < w4.heap.size := hgxB.2.1.2
    refine ⟨(i + 1, ys.set i y'), ⟨next_i (i := i) (by omega), rfl, rfl, rfl, rfl⟩, List.nil_prefix, ⟨hlt, by simpa using hyl, h11.ext0, hown10.ext0 hx11, ((hD.ext0 hx9).ext hx10 (fun k hk _ e => ?_)).ext0 hx11, ((hcL.ext hx9 (fun h => h)).ext hx10 (fun e => ?_)).ext hx11 (fun h => h), ((hsM.ext0 hx9).ext hx10 (fun k hk _ e => ?_)).ext0 hx11⟩, by simp; omega⟩
    · have e : k = gx := e
      have hk := hk.elim (fun h => h) (fun h => h.elim)
      omega
    · have e : g = gx := e
      omega
    · have e : k = gx := e
      have hk : w7.heap.size ≤ k := hk
      omega
  · have hin : i = bs.length := by have : bs.length ≤ i := dge hge; omega
    subst hin
    refine loop_ev (γ := Nat × List UInt8) (fun y => [(9, .v (.int .i64 y.1)), (6, .v (.slice (some ⟨g, 0, none⟩) 1 cl)), (7, .v (.slice Am 1 cm)), (0, .v (.slice A n c))]) (fun _ => [])
      (fun y u => y.1 ≤ bs.length ∧ y.2.length = bs.length ∧ Ext no w u ∧
        Own kU8 5 u (fun k => w5.heap.size ≤ k ∧ k < w6.heap.size ∧ k ≠ g) no (.slice Ad bs.length cd) y.2 ∧ CellsAt u ⟨g, 0, none⟩ [.int .i64 to, .slice Ad bs.length cd] ∧ SliceR kMail u (fun k => w7.heap.size ≤ k) Am 1 [⟨to, bs⟩]) (fun y => bs.length - y.1) (fun _ => rfl) ?_ ?_
    · intro w9 h9
      have hx9 := h9.extNo trivial
      exact ⟨(0, bs), ⟨rfl, rfl, rfl, rfl⟩, List.nil_prefix, Nat.zero_le _, rfl, h9.ext0, hD.ext0 hx9, hcL.ext hx9 (fun h => h), hsM.ext0 hx9⟩
    clear hX hD hcL hsM hu hyl hge
    rintro ⟨i, zs⟩ gg u ⟨(hi : i ≤ bs.length), (hzl : zs.length = bs.length), hu, (hD : Own kU8 5 u _ no (.slice Ad bs.length cd) zs), hcL, hsM⟩
    have hld : ∀ w9, Ext no u w9 → w9.cell? ((adr (some (⟨g, 0, none⟩ : Addr))).add (0 * 2) |>.add 1) = some (.slice Ad bs.length cd) := fun w9 hx => hx.cell (hcL 1 _ rfl) (fun h => h)
    refine ⟨⟨rfl, by decide, by decide⟩, ?_⟩
    refine ⟨.slice Ad bs.length cd, fun w9 h9 => hld w9 (h9.extNo trivial), ?_⟩
    refine if_split (fun hlt => ?_) (fun hge => ?_)
    · have hlt : i < bs.length := dlt hlt
      obtain ⟨gd, rfl, _⟩ := own_addr hD (by omega)
      refine ⟨⟨rfl, by decide, by decide⟩, ?_⟩
      refine ⟨.slice (some ⟨gd, 0, none⟩) bs.length cd, fun w9 h9 => hld w9 (h9.extNo trivial), ?_⟩
      refine ⟨⟨rfl, Int.natCast_nonneg _, Int.ofNat_lt.2 hlt⟩, ?_⟩
      have hgdB := (hD.blk gd rfl).2.1
      refine set_ev kU8 [] (e := 5) (g := gd) (j := i) (n := bs.length) (c := cd) (cs := [.int .u8 7]) rfl rfl (by decide) rfl rfl rfl rfl ?_
      intro w9 h9
      have hx9 := h9.extNo trivial
      clear h9
      refine ⟨_, no, zs, 7, hD.ext0 hx9, hlt, rfl, fun k _ hk => .inr (by have e : k = gd := hk; have := hgdB.1; show w.heap.size ≤ k; omega), trivial, fun w10 hx10 hown10 => ?_⟩
      intro w11 h11
      have hx11 := h11.extNo trivial
      refine ⟨(i + 1, zs.set i 7), ⟨next_i (i := i) (by omega), rfl, rfl, rfl⟩, List.nil_prefix, ⟨hlt, by simpa using hzl, h11.ext0, hown10.ext0 hx11, ((hcL.ext hx9 (fun h => h)).ext hx10 (fun e => ?_)).ext hx11 (fun h => h), ((hsM.ext0 hx9).ext hx10 (fun k hk _ e => ?_)).ext0 hx11⟩, by simp; omega⟩
      · have e : g = gd := e
        exact hgdB.2.2 e.symm
      · have e : k = gd := e
        have hk : w7.heap.size ≤ k := hk
        have := hgdB.2.1
        omega
    · have hAm := hsM.some_ (by omega)
      obtain ⟨_, _, ⟨A1, n1, c1, rfl, hd⟩, hcc⟩ := hsM.get (j := 0) rfl
      refine draw_ev 14 (List.replicate 14 []) [0, 1, 2, 3, 4, 5, 6, 7, 9, 8, 10, 11, 12, 13] (by kernel_rfl) (by kernel_rfl) (by kernel_rfl) ?_
      refine ⟨fun _ => ⟨hAm, by decide, by decide⟩, ?_⟩
      refine ⟨.slice A1 n1 c1, fun _ w9 h9 => (h9.extNo trivial).cell (hcc 1 _ rfl) (fun h => h), ?_⟩
      refine ⟨bs, fun _ => ⟨hd.len, hd.some_, fun w9 h9 => (hd.ext0 (h9.extNo trivial)).bytes⟩, ?_⟩
      refine ⟨bs, fun _ => ⟨h.len, h.some_, fun w9 h9 => (h.ext0 h9.ext0).bytes⟩, ?_⟩
      refine JoinP.mk fun w9 h9 => ⟨?_, h9.ext0⟩
      clear h9
      refine congrArg Ending.returned ?_
      conv => lhs; whnf
      conv => lhs; arg 1; whnf
      simp [ba_mk]
      exact beq_self_eq_true bs

theorem netown_w (w : World) (F : Nat → Prop) (A : Option Addr) (n c : Nat) (bs : List UInt8) (hl : n ≤ c) (h : SliceR kU8 w F A n bs) (to : Int) (hto : (Lit.int .i64 to).wf = true) :
    Calls Try.prog 5 #[.slice A n c, .int .i64 to] w fun e w' => e = .returned (.bool true) ∧ Ext no w w' := netown_c w F A n c bs to h
end Go.Proofs.Ytdmengbemonkaaa
