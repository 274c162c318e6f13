import Derived.Test.YthkjnpbbgfagkaaDoorRPut34
set_option linter.unusedVariables false
set_option linter.unusedSimpArgs false
namespace Go.Proofs.YthkjnpbbgfagkaaDoor
open Go.RowKit

theorem results_cell_tmp_row {P : Program} {fn : Func} {p u : Tmp} {ty : TypeId} (h : fn.results = #[.cell p ty, .tmp u]) (tmps : Array Value) (w : World) (g : Nat) (t : TypeId) (cs : Array Value) (fr : Nat × Nat) (d : TypeDesc)
    (hp : tmps.getD p undef = .pointer (some ⟨g, 0, none⟩)) (hg : w.heap[g]? = some (.cells cs t fr))
    (hu : P.underlying ty = some d) (hd : (match d with | .struct _ | .array _ _ => true | _ => false) = true) (hi : (P.info? ty).map (·.size) = some cs.size) :
    (results fn tmps).run P w = .ok (.tuple #[.agg cs, tmps.getD u undef]) w := by
  rw [results_cell_tmp h, hp]
  simp [run_loadVar_row w g t ty cs fr d hg hu hd hi, Result.andThen, asAddr]

theorem heap_set4 {w1 : World} {g : Nat} {a0 a1 a2 a3 b0 b1 b2 b3 : Value} {T : TypeId} (h : w1.heap[g]? = some (.cells #[a0, a1, a2, a3] T (0, 0))) :
    ((((w1.setCell ⟨g, 0, none⟩ b0).setCell ⟨g, 1, none⟩ b1).setCell ⟨g, 2, none⟩ b2).setCell ⟨g, 3, none⟩ b3).heap[g]? = some (.cells #[b0, b1, b2, b3] T (0, 0)) := by
  have h1 := heap_setCell_same w1 g 0 _ T b0 h
  have h2 := heap_setCell_same _ g 1 _ T b1 h1
  have h3 := heap_setCell_same _ g 2 _ T b2 h2
  exact heap_setCell_same _ g 3 _ T b3 h3
theorem row4_facts {w1 : World} {g : Nat} {a0 a1 a2 a3 : Value} {T : TypeId} (h : w1.heap[g]? = some (.cells #[a0, a1, a2, a3] T (0, 0))) :
    w1.cell? ⟨g, 0, none⟩ = some a0 ∧ w1.cell? ⟨g, 1, none⟩ = some a1 ∧ w1.cell? ⟨g, 2, none⟩ = some a2 ∧ w1.cell? ⟨g, 3, none⟩ = some a3 ∧ (∀ j, w1.frozen? ⟨g, j, none⟩ = false) ∧ g < w1.heap.size :=
  ⟨cell_of_row w1 g 0 _ _ _ h, cell_of_row w1 g 1 _ _ _ h, cell_of_row w1 g 2 _ _ _ h, cell_of_row w1 g 3 _ _ _ h, fun j => frozen_of_row w1 g j _ _ h, (Array.getElem?_eq_some_iff.1 h).1⟩
theorem size_set4 {w1 : World} {g : Nat} {b0 b1 b2 b3 : Value} : ((((w1.setCell ⟨g, 0, none⟩ b0).setCell ⟨g, 1, none⟩ b1).setCell ⟨g, 2, none⟩ b2).setCell ⟨g, 3, none⟩ b3).heap.size = w1.heap.size := by
  rw [World.size_setCell, World.size_setCell, World.size_setCell, World.size_setCell]
theorem below_set4 {w w1 : World} {B g : Nat} {b0 b1 b2 b3 : Value} (h : Below B w w1) (hg : B ≤ g) :
    Below B w ((((w1.setCell ⟨g, 0, none⟩ b0).setCell ⟨g, 1, none⟩ b1).setCell ⟨g, 2, none⟩ b2).setCell ⟨g, 3, none⟩ b3) :=
  (((h.setCell hg _).setCell hg _).setCell hg _).setCell hg _
theorem bodyR_err {b : List UInt8} {c : UInt8} {l : List UInt8} (hb : b = c :: l) {p : List UInt8} {to e : Int} (hg : getT b 1 200 = (p, to, e)) (he : e ≠ 0) : bodyR b = (zeroRec, false) := by
  subst hb; simp only [bodyR, hg, bodyR1]; rw [if_pos he]
theorem bodyR_err2 {b : List UInt8} {c : UInt8} {l : List UInt8} (hb : b = c :: l) {p : List UInt8} {to : Int} (hg : getT b 1 200 = (p, to, 0)) {n to2 e : Int} (hg2 : getS b to = (n, to2, e)) (he : e ≠ 0) : bodyR b = (zeroRec, false) := by
  subst hb; simp only [bodyR, hg, bodyR1, hg2, bodyR2]; rw [if_neg (by omega), if_pos he]
theorem bodyR_ok {b : List UInt8} {c : UInt8} {l : List UInt8} (hb : b = c :: l) {p : List UInt8} {to : Int} (hg : getT b 1 200 = (p, to, 0)) {n to2 : Int} (hg2 : getS b to = (n, to2, 0)) :
    bodyR b = (⟨c.toNat, str p, n, str (b.drop to2.toNat)⟩, mayR ⟨c.toNat, str p, n, str (b.drop to2.toNat)⟩) := by
  subst hb; simp only [bodyR, hg, bodyR1, hg2, bodyR2]; rw [if_neg (by omega), if_neg (by omega)]

set_option maxRecDepth 100000 in
set_option maxHeartbeats 1000000 in
theorem body_any (A : Option Addr) (n c : Nat) (bs : List UInt8) (w : World) (hs : Sl 1 w A n (bys bs)) (hn : n ≤ 1099511627776) (hc : n ≤ c) :
    Calls Tryd.prog 46 #[.slice A n c] w fun e w' => e = .returned (.tuple #[.agg (encR (bodyR bs).1).toArray, .bool (bodyR bs).2]) ∧ Below w.heap.size w w' := by
  have hl : bs.length = n := by have := hs.len; simpa [bys] using this
  have hb0 : ∀ cs, Below w.heap.size w (w.alloc (.cells cs 31)) := fun cs => (Below.refl _ _).alloc (Nat.le_refl _) _
  rcases hbs : bs with _ | ⟨c0, l⟩
  · subst hbs
    obtain rfl : n = 0 := by simpa using hl.symm
    go_enter Tryd.func46, Tryd.ntmps46
    go_wp2
    refine bodyPost_ret (results_cell_tmp_row rfl _ _ w.heap.size 31 _ _ _ rfl (heap_alloc_new _ _) Tryd.underlying31 rfl (by kernel_rfl)) rfl ⟨rfl, hb0 _⟩
  · rw [← hbs]
    have hpos : 0 < n := by rw [hbs] at hl; simp at hl; omega
    have HBS := Lib.hid hbs
    have HL := Lib.hid hl
    clear hbs hl
    have hs1 := hs.below (hb0 #[.int .i64 0, .string (str []), .int .i64 0, .string (str [])])
    rcases hg : getT bs 1 200 with ⟨p, to, e⟩
    have HG := Lib.hid hg
    clear hg
    by_cases he : e = 0
    · subst he
      rcases hg2 : getS bs to with ⟨nn, to2, e2⟩
      have HG2 := Lib.hid hg2
      clear hg2
      by_cases he2 : e2 = 0
      · subst he2
        have hf := bodyR_ok HBS.out HG.out HG2.out
        rcases getS_cases bs to with ⟨x, t2, hgx, hx, hp, hpt, htl, _⟩ | ⟨e0, hgx, hex, _, _⟩
        · rw [HG2.out] at hgx
          simp only [Prod.mk.injEq, and_true] at hgx
          obtain ⟨rfl, rfl⟩ := hgx
          rw [HL.out] at htl
          rw [Int.toNat_natCast] at hf
          have HF := Lib.hid hf
          clear hf
          obtain ⟨b, o, rfl, hk2, hcell, hbl⟩ := hs.byte hpos
          have hc0 : bs[0] = c0 := by have := HBS.out; subst this; rfl
          rw [hc0] at hcell
          have hcell0 : w.cell? ⟨b, o, none⟩ = some (.int .u8 (c0.toNat : Int)) := hcell
          clear hc0 hcell
          obtain ⟨i0, hi, hz0, hz1, hz2⟩ := info_parts info5
          have hsl : ∀ w : World, (Instr.slice 27 (.slice (some ⟨b, o, none⟩) n c) (some (.int .i64 t2)) none none).run Tryd.prog w = .ok (.slice (subAt (some ⟨b, o, none⟩) t2 c 1) (n - t2) (c - t2)) w := fun w => run_slice_from under27 elem27 hi hz1 _ _ _ _ htl _ _ rfl
          have hsD := hs1.from t2 c htl hc hs1.sub
          have hcv1 := run_conv_str (P := Tryd.prog) (src := 27) Tryd.underlying27 Tryd.underlying5 (dst := 9) Tryd.underlying9 (c := c - t2) hsD.drew
          have hcv2 := fun cs => run_conv_str (P := Tryd.prog) (src := 27) Tryd.underlying27 Tryd.underlying5 (dst := 9) Tryd.underlying9 (c := c - t2) (hsD.below ((Below.refl _ _).alloc (Nat.le_refl _) (.cells cs 31))).drew
          have hcl2 : ∀ cs, ((w.alloc (.cells #[.int .i64 0, .string (str []), .int .i64 0, .string (str [])] 31)).alloc (.cells cs 31)).drew.cell? ⟨b, o, none⟩ = some (.int .u8 (c0.toNat : Int)) := fun cs => by show ((w.alloc _).alloc _).cell? _ = _; rw [World.cell?_alloc_lt _ _ _ (by rw [World.size_alloc]; show b < w.heap.size + 1; omega), World.cell?_alloc_lt _ _ _ hbl]; exact hcell0
          have hcl1 : (w.alloc (.cells #[.int .i64 0, .string (str []), .int .i64 0, .string (str [])] 31)).drew.cell? ⟨b, o, none⟩ = some (.int .u8 (c0.toNat : Int)) := by show (w.alloc _).cell? _ = _; rw [World.cell?_alloc_lt _ _ _ hbl]; exact hcell0
          clear hi hz0 hz1 hz2 hs
          go_enter Tryd.func46, Tryd.ntmps46
          go_wp2_with fail
          refine (GetText_any _ _ _ _ _ _ _ hs1 hn hc).mono ?_
          rintro e w1 ⟨rfl, rfl⟩
          rw [HG.out]
          go_wp2_with fail
          refine (Get_any _ _ _ _ _ _ hs1 hn).mono ?_
          rintro e w1 ⟨rfl, rfl⟩
          rw [HG2.out]
          go_wp2_with fail
          go_region_held3 (fun w' => w'.cell? ⟨b, o, none⟩ = some (.int .u8 (c0.toNat : Int)) ∧ (convert 27 9 (.slice (subAt (some ⟨b, o, none⟩) t2 c 1) (n - t2) (c - t2))).run Tryd.prog w' = .ok (.string (str (bs.drop t2))) w')
            (first | exact ⟨hcl1, hcv1⟩ | exact ⟨hcl2 _, hcv2 _⟩ | go_keep)
            (first | (go_at_call 99; skip))
          rename_i hHeld
          clear hHeld
          have hcw : IntKind.i64.wrap (c0.toNat : Int) = (c0.toNat : Int) := by have := c0.toNat_lt; rw [IntKind.wrap_i64]; omega
          simp only [hcw]
          have hbx : Box4 ((w.alloc (.cells #[.int .i64 0, .string (str []), .int .i64 0, .string (str [])] 31)).alloc (.cells #[.int .i64 (c0.toNat : Int), .string (str p), .int .i64 (x : Int), .string (str (bs.drop t2))] 31)).drew (w.heap.size + 1) ⟨c0.toNat, str p, x, str (bs.drop t2)⟩ := by
            have := (Box4.mk_alloc (w.alloc (.cells #[.int .i64 0, .string (str []), .int .i64 0, .string (str [])] 31)) ⟨c0.toNat, str p, x, str (bs.drop t2)⟩ 31).drew
            rwa [World.size_alloc] at this
          have hz : ((w.alloc (.cells #[.int .i64 0, .string (str []), .int .i64 0, .string (str [])] 31)).alloc (.cells #[.int .i64 (c0.toNat : Int), .string (str p), .int .i64 (x : Int), .string (str (bs.drop t2))] 31)).drew.heap[w.heap.size]? = some (.cells #[.int .i64 0, .string (str []), .int .i64 0, .string (str [])] 31 (0, 0)) := heap_alloc2_old _ _ _
          have hbb : Below w.heap.size w ((w.alloc (.cells #[.int .i64 0, .string (str []), .int .i64 0, .string (str [])] 31)).alloc (.cells #[.int .i64 (c0.toNat : Int), .string (str p), .int .i64 (x : Int), .string (str (bs.drop t2))] 31)).drew := (((Below.refl _ _).alloc (Nat.le_refl _) _).alloc (by rw [World.size_alloc]; omega) _).drew
          have hsz : w.heap.size + 1 < ((w.alloc (.cells #[.int .i64 0, .string (str []), .int .i64 0, .string (str [])] 31)).alloc (.cells #[.int .i64 (c0.toNat : Int), .string (str p), .int .i64 (x : Int), .string (str (bs.drop t2))] 31)).drew.heap.size := by
            show w.heap.size + 1 < ((w.alloc _).alloc _).heap.size
            rw [World.size_alloc, World.size_alloc]; omega
          generalize ((w.alloc (.cells #[.int .i64 0, .string (str []), .int .i64 0, .string (str [])] 31)).alloc (.cells #[.int .i64 (c0.toNat : Int), .string (str p), .int .i64 (x : Int), .string (str (bs.drop t2))] 31)).drew = W at *
          clear hcv1 hcv2 hcl1 hcl2 hsD hs1 hb0 hsl hcw
          obtain ⟨x0, x1, x2, x3⟩ := hbx
          go_wp2_with fail
          go_region_held3 (fun w' => w'.cell? ⟨w.heap.size + 1, 0, none⟩ = some (.int .i64 (c0.toNat : Int)) ∧ w'.cell? ⟨w.heap.size + 1, 1, none⟩ = some (.string (str p)) ∧ w'.cell? ⟨w.heap.size + 1, 2, none⟩ = some (.int .i64 (x : Int)) ∧ w'.cell? ⟨w.heap.size + 1, 3, none⟩ = some (.string (str (bs.drop t2))))
            (first | exact ⟨x0, x1, x2, x3⟩ | exact ⟨y0, y1, y2, y3⟩ | go_keep)
            (first | (go_at_call 27; refine (may_any ⟨c0.toNat, str p, x, str (bs.drop t2)⟩ _).mono ?_; rintro e w1 ⟨rfl, hb1⟩; have y0 := (hb1.cell (p := ⟨w.heap.size + 1, 0, none⟩) hsz).trans x0; have y1 := (hb1.cell (p := ⟨w.heap.size + 1, 1, none⟩) hsz).trans x1; have y2 := (hb1.cell (p := ⟨w.heap.size + 1, 2, none⟩) hsz).trans x2; have y3 := (hb1.cell (p := ⟨w.heap.size + 1, 3, none⟩) hsz).trans x3; have hz1 := (hb1.block w.heap.size (by show w.heap.size < W.heap.size; omega)).trans hz; have z0 : w1.cell? ⟨w.heap.size, 0, none⟩ = some (.int .i64 0) := cell_of_row w1 w.heap.size 0 _ _ _ hz1; have z1 : w1.cell? ⟨w.heap.size, 1, none⟩ = some (.string (str [])) := cell_of_row w1 w.heap.size 1 _ _ _ hz1; have z2 : w1.cell? ⟨w.heap.size, 2, none⟩ = some (.int .i64 0) := cell_of_row w1 w.heap.size 2 _ _ _ hz1; have z3 : w1.cell? ⟨w.heap.size, 3, none⟩ = some (.string (str [])) := cell_of_row w1 w.heap.size 3 _ _ _ hz1; have fz := fun j => frozen_of_row w1 w.heap.size j _ _ hz1))
          rename_i hHeld
          clear hHeld
          have HZ := Lib.hid (heap_set4 (b0 := .int .i64 (c0.toNat : Int)) (b1 := .string (str p)) (b2 := .int .i64 (x : Int)) (b3 := .string (str (bs.drop t2))) hz1)
          have HB := Lib.hid (below_set4 (b0 := .int .i64 (c0.toNat : Int)) (b1 := .string (str p)) (b2 := .int .i64 (x : Int)) (b3 := .string (str (bs.drop t2))) (hbb.trans ((below_undrew hb1).mono hbb.size)) (Nat.le_refl _))
          clear y0 y1 y2 y3 z0 z1 z2 z3 fz hz1 hb1 hz hbb x0 x1 x2 x3
          go_wp2_with fail
          refine bodyPost_ret (results_cell_tmp_row rfl _ _ w.heap.size 31 _ _ _ rfl HZ.out Tryd.underlying31 rfl (by kernel_rfl)) rfl ⟨by rw [HF.out]; rfl, HB.out⟩
        · rw [HG2.out] at hgx
          simp only [Prod.mk.injEq] at hgx
          exact absurd hgx.2.2.symm hex
      · have hf := bodyR_err2 HBS.out HG.out HG2.out he2
        have HF := Lib.hid hf
        clear hf
        go_enter Tryd.func46, Tryd.ntmps46
        go_wp2_with fail
        refine (GetText_any _ _ _ _ _ _ _ hs1 hn hc).mono ?_
        rintro e w1 ⟨rfl, rfl⟩
        rw [HG.out]
        go_wp2_with fail
        refine (Get_any _ _ _ _ _ _ hs1 hn).mono ?_
        rintro e w1 ⟨rfl, rfl⟩
        rw [HG2.out]
        go_wp2
        refine bodyPost_ret (results_cell_tmp_row rfl _ _ w.heap.size 31 _ _ _ rfl (heap_alloc_new _ _) Tryd.underlying31 rfl (by kernel_rfl)) rfl ⟨by rw [HF.out]; rfl, hb0 _⟩
    · have hf := bodyR_err HBS.out HG.out he
      have HF := Lib.hid hf
      clear hf
      go_enter Tryd.func46, Tryd.ntmps46
      go_wp2_with fail
      refine (GetText_any _ _ _ _ _ _ _ hs1 hn hc).mono ?_
      rintro e w1 ⟨rfl, rfl⟩
      rw [HG.out]
      go_wp2
      refine bodyPost_ret (results_cell_tmp_row rfl _ _ w.heap.size 31 _ _ _ rfl (heap_alloc_new _ _) Tryd.underlying31 rfl (by kernel_rfl)) rfl ⟨by rw [HF.out]; rfl, hb0 _⟩
end Go.Proofs.YthkjnpbbgfagkaaDoor
