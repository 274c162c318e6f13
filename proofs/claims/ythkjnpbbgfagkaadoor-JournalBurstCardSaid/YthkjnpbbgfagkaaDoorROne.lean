import Derived.Test.YthkjnpbbgfagkaaDoorAll
import Derived.Test.YthkjnpbbgfagkaaDoorJL
set_option linter.unusedVariables false
set_option linter.unusedSimpArgs false
namespace Go.Proofs.YthkjnpbbgfagkaaDoor
open Go.RowKit

theorem Sl.drewN {sz : Nat} {w : World} {A : Option Addr} {n : Nat} {cs : List Value} (h : Sl sz w A n cs) (m : Nat) : Sl sz (w.drewN m) A n cs := ⟨h.len, h.max, h.at_⟩
theorem results_cell_tmp2_row {P : Program} {fn : Func} {p u v : Tmp} {ty : TypeId} (h : fn.results = #[.cell p ty, .tmp u, .tmp v]) (tmps : Array Value) (w : World) (g : Nat) (t : TypeId) (cs : Array Value) (fr : Nat × Nat) (d : TypeDesc)
    (hp : tmps.getD p undef = .pointer (some ⟨g, 0, none⟩)) (hg : w.heap[g]? = some (.cells cs t fr))
    (hu : P.underlying ty = some d) (hd : (match d with | .struct _ | .array _ _ => true | _ => false) = true) (hi : (P.info? ty).map (·.size) = some cs.size) :
    (results fn tmps).run P w = .ok (.tuple #[.agg cs, tmps.getD u undef, tmps.getD v undef]) w := by
  have hp' : tmps[p]?.getD undef = .pointer (some ⟨g, 0, none⟩) := by simpa using hp
  simp only [results, h]
  simp [Sem.run_bind, Result.andThen, hp', asAddr, run_loadVar_row w g t ty cs fr d hg hu hd hi]

/-- What the document's 'one' answers at a place. -/
def roneV (p : Nat) : Rec × Int → Value
  | (r, k) => if k = 0 then .tuple #[.agg (encR zeroRec).toArray, .int .i64 0, .bool false] else .tuple #[.agg (encR r).toArray, .int .i64 (p + k), .bool true]
theorem getS_shift {bs : List UInt8} {p x to : Nat} (hp : p ≤ bs.length) (h : getS (bs.drop p) 0 = ((x : Int), (to : Int), 0)) : getS bs p = ((x : Int), ((p + to : Nat) : Int), 0) := by
  unfold getS at h ⊢
  rw [if_neg (by omega)] at h ⊢
  simp only [Int.toNat_zero, List.drop_zero, Int.toNat_natCast] at h ⊢
  generalize hG : getL 9 (bs.drop p) true = G at h ⊢
  rcases G with e | ⟨n, k⟩
  · simp only [getR, Prod.mk.injEq] at h ⊢; have := getL_err _ _ _ _ hG; omega
  · simp only [getR] at h ⊢
    split at h
    · simp at h
    · rename_i hb
      rw [if_neg hb]
      simp only [Prod.mk.injEq, and_true] at h ⊢
      omega
theorem getS_shift_err {bs : List UInt8} {p : Nat} {e : Int} (hp : p ≤ bs.length) (h : getS (bs.drop p) 0 = (0, 0, e)) (he : e ≠ 0) : getS bs p = (0, 0, e) := by
  unfold getS at h ⊢
  rw [if_neg (by omega)] at h ⊢
  simp only [Int.toNat_zero, List.drop_zero, Int.toNat_natCast] at h ⊢
  generalize hG : getL 9 (bs.drop p) true = G at h ⊢
  rcases G with e' | ⟨n, k⟩
  · simp only [getR, Prod.mk.injEq] at h ⊢; omega
  · simp only [getR] at h ⊢
    split at h
    · rename_i hb; rw [if_pos hb]; exact h
    · simp only [Prod.mk.injEq] at h; omega

set_option maxRecDepth 100000 in
set_option maxHeartbeats 1000000 in
theorem ROne_get (A : Option Addr) (n c : Nat) (bs : List UInt8) (p : Nat) (w : World) (hs : Sl 1 w A n (bys bs)) (hn : n ≤ 1099511627776) (hc : n ≤ c) (hp : p ≤ n) (hz : oneR (bs.drop p) = (zeroRec, 0)) (e0 : Int) (hg : getS bs p = (0, 0, e0)) (he : e0 ≠ 0) :
    Calls Tryd.prog 36 #[.slice A n c, .int .i64 p] w fun e w' => e = .returned (roneV p (oneR (bs.drop p))) ∧ Below w.heap.size w w' := by
  have hl : bs.length = n := by have := hs.len; simpa [bys] using this
  have hb0 : ∀ cs, Below w.heap.size w (w.alloc (.cells cs 23)) := fun cs => (Below.refl _ _).alloc (Nat.le_refl _) _
  have hs1 := hs.below (hb0 #[.int .i64 0, .string (str []), .int .i64 0, .string (str [])])
  have HF := Lib.hid hz
  have HG := Lib.hid hg
  clear hz hg hl
  go_enter Tryd.func36, Tryd.ntmps36
  go_wp2_with fail
  refine (RGet_any _ _ _ _ _ _ hs1 hn).mono ?_
  rintro e w1 ⟨rfl, rfl⟩
  rw [HG.out]
  go_wp2
  refine bodyPost_ret (results_cell_tmp2_row rfl _ _ w.heap.size 23 _ _ _ rfl (heap_alloc_new _ _) Tryd.underlying23 rfl (by kernel_rfl)) rfl ⟨by rw [HF.out]; rfl, hb0 _⟩

set_option maxRecDepth 100000 in
set_option maxHeartbeats 1000000 in
theorem ROne_short (A : Option Addr) (n c : Nat) (bs : List UInt8) (p : Nat) (w : World) (hs : Sl 1 w A n (bys bs)) (hn : n ≤ 1099511627776) (hc : n ≤ c) (hp : p ≤ n) (hz : oneR (bs.drop p) = (zeroRec, 0)) (x to : Nat) (hg : getS bs p = ((x : Int), (to : Int), 0)) (hx : x ≤ 4611686018427387903) (htl : to ≤ n) (h1 : n < to + x + 4) :
    Calls Tryd.prog 36 #[.slice A n c, .int .i64 p] w fun e w' => e = .returned (roneV p (oneR (bs.drop p))) ∧ Below w.heap.size w w' := by
  have hl : bs.length = n := by have := hs.len; simpa [bys] using this
  have hb0 : ∀ cs, Below w.heap.size w (w.alloc (.cells cs 23)) := fun cs => (Below.refl _ _).alloc (Nat.le_refl _) _
  have hs1 := hs.below (hb0 #[.int .i64 0, .string (str []), .int .i64 0, .string (str [])])
  have HF := Lib.hid hz
  have HG := Lib.hid hg
  have h2 : (n : Int) - to - 4 < x := by omega
  clear hz hg hl
  go_enter Tryd.func36, Tryd.ntmps36
  go_wp2_with fail
  refine (RGet_any _ _ _ _ _ _ hs1 hn).mono ?_
  rintro e w1 ⟨rfl, rfl⟩
  rw [HG.out]
  go_wp2
  refine bodyPost_ret (results_cell_tmp2_row rfl _ _ w.heap.size 23 _ _ _ rfl (heap_alloc_new _ _) Tryd.underlying23 rfl (by kernel_rfl)) rfl ⟨by rw [HF.out]; rfl, hb0 _⟩

set_option maxRecDepth 100000 in
set_option maxHeartbeats 1000000 in
theorem ROne_seal (A : Option Addr) (n c : Nat) (bs : List UInt8) (p : Nat) (w : World) (hs : Sl 1 w A n (bys bs)) (hn : n ≤ 1099511627776) (hc : n ≤ c) (hp : p ≤ n) (x to : Nat) (hg : getS (bs.drop p) 0 = ((x : Int), (to : Int), 0)) (hx : x ≤ 4611686018427387903) (htl : to ≤ (bs.drop p).length) (h1 : p + to + x + 4 ≤ n) (own : List UInt8) (e2 : Int) (ho : openS ((bs.drop (p + to)).take (x + 4)) = (own, e2)) (he2 : e2 ≠ 0) (hzr : oneR (bs.drop p) = (zeroRec, 0)) :
    Calls Tryd.prog 36 #[.slice A n c, .int .i64 p] w fun e w' => e = .returned (roneV p (oneR (bs.drop p))) ∧ Below w.heap.size w w' := by
  have hl : bs.length = n := by have := hs.len; simpa [bys] using this
  have hb0 : ∀ cs, Below w.heap.size w (w.alloc (.cells cs 23)) := fun cs => (Below.refl _ _).alloc (Nat.le_refl _) _
  have hs1 := hs.below (hb0 #[.int .i64 0, .string (str []), .int .i64 0, .string (str [])])
  have HG := Lib.hid (getS_shift (by omega) hg)
  have htl' : to ≤ n - p := by rw [List.length_drop, hl] at htl; exact htl
  have HO := Lib.hid ho
  obtain ⟨i0, hi, hz0, hz1, hz2⟩ := info_parts info5
  have hsl : ∀ w : World, (Instr.slice 27 (.slice A n c) (some (.int .i64 (p + to))) (some (.int .i64 (p + to + (x + 4)))) none).run Tryd.prog w = .ok (.slice (subAt A (p + to) c 1) (x + 4) (c - (p + to))) w := fun w => by
    have := run_slice_sub (P := Tryd.prog) (w := w) (T := 27) under27 elem27 hi hz1 A n c (p + to) (p + to + (x + 4)) (by omega) (by omega) .i64 .i64 (p + to) (p + to + (x + 4)) (by omega) (by omega)
    rwa [show p + to + (x + 4) - (p + to) = x + 4 by omega] at this
  have hs2 := hs1.sub (p + to) (p + to + (x + 4)) c (by omega) (by omega) hc
  rw [show p + to + (x + 4) - (p + to) = x + 4 by omega] at hs2
  have hz : (w.alloc (.cells #[.int .i64 0, .string (str []), .int .i64 0, .string (str [])] 23)).heap[w.heap.size]? = some (.cells #[.int .i64 0, .string (str []), .int .i64 0, .string (str [])] 23 (0, 0)) := heap_alloc_new _ _
  have hbA := hb0 #[.int .i64 0, .string (str []), .int .i64 0, .string (str [])]
  have hsz : w.heap.size < (w.alloc (.cells #[.int .i64 0, .string (str []), .int .i64 0, .string (str [])] 23)).heap.size := by rw [World.size_alloc]; omega
  have HF := Lib.hid hzr
  clear ho hg hl hi hz0 hz1 hz2 hs hzr
  go_enter Tryd.func36, Tryd.ntmps36
  go_wp2_with fail
  refine (RGet_any _ _ _ _ _ _ hs1 hn).mono ?_
  rintro e w1 ⟨rfl, rfl⟩
  rw [HG.out]
  go_wp2_with fail
  refine (ROpen_any _ _ _ _ _ hs2 (by omega) (by omega)).mono ?_
  rintro e w2 ⟨v2, rfl, hown, hb2⟩
  rw [HO.out] at hown ⊢
  have hbB := hbA.trans (hb2.mono hbA.size)
  have hz' := (hb2.block w.heap.size hsz).trans hz
  obtain ⟨A2, c2, rfl, hc2, hs3, _, _⟩ := own_sl hown
  clear hown hb2 hbA hz hs3
  obtain ⟨z0, z1, z2, z3, fz, zl⟩ := row4_facts hz'
  have HZ := Lib.hid (heap_set4 (b0 := .int .i64 0) (b1 := .string ⟨#[]⟩) (b2 := .int .i64 0) (b3 := .string ⟨#[]⟩) hz')
  have HB := Lib.hid (below_set4 (b0 := .int .i64 0) (b1 := .string ⟨#[]⟩) (b2 := .int .i64 0) (b3 := .string ⟨#[]⟩) hbB (Nat.le_refl _))
  clear hbB hz'
  go_wp2_with fail
  refine bodyPost_ret (results_cell_tmp2_row rfl _ _ w.heap.size 23 _ _ _ rfl HZ.out Tryd.underlying23 rfl (by kernel_rfl)) rfl ⟨by rw [HF.out]; rfl, HB.out⟩

set_option maxRecDepth 100000 in
set_option maxHeartbeats 1000000 in
theorem ROne_nil (A : Option Addr) (n c : Nat) (bs : List UInt8) (p : Nat) (w : World) (hs : Sl 1 w A n (bys bs)) (hn : n ≤ 1099511627776) (hc : n ≤ c) (hp : p ≤ n) (x to : Nat) (hg : getS (bs.drop p) 0 = ((x : Int), (to : Int), 0)) (hx : x ≤ 4611686018427387903) (htl : to ≤ (bs.drop p).length) (h1 : p + to + x + 4 ≤ n) (ho : openS ((bs.drop (p + to)).take (x + 4)) = ([], 0)) (hzr : oneR (bs.drop p) = (zeroRec, 0)) :
    Calls Tryd.prog 36 #[.slice A n c, .int .i64 p] w fun e w' => e = .returned (roneV p (oneR (bs.drop p))) ∧ Below w.heap.size w w' := by
  have hl : bs.length = n := by have := hs.len; simpa [bys] using this
  have hb0 : ∀ cs, Below w.heap.size w (w.alloc (.cells cs 23)) := fun cs => (Below.refl _ _).alloc (Nat.le_refl _) _
  have hs1 := hs.below (hb0 #[.int .i64 0, .string (str []), .int .i64 0, .string (str [])])
  have HG := Lib.hid (getS_shift (by omega) hg)
  have htl' : to ≤ n - p := by rw [List.length_drop, hl] at htl; exact htl
  have HO := Lib.hid ho
  obtain ⟨i0, hi, hz0, hz1, hz2⟩ := info_parts info5
  have hsl : ∀ w : World, (Instr.slice 27 (.slice A n c) (some (.int .i64 (p + to))) (some (.int .i64 (p + to + (x + 4)))) none).run Tryd.prog w = .ok (.slice (subAt A (p + to) c 1) (x + 4) (c - (p + to))) w := fun w => by
    have := run_slice_sub (P := Tryd.prog) (w := w) (T := 27) under27 elem27 hi hz1 A n c (p + to) (p + to + (x + 4)) (by omega) (by omega) .i64 .i64 (p + to) (p + to + (x + 4)) (by omega) (by omega)
    rwa [show p + to + (x + 4) - (p + to) = x + 4 by omega] at this
  have hs2 := hs1.sub (p + to) (p + to + (x + 4)) c (by omega) (by omega) hc
  rw [show p + to + (x + 4) - (p + to) = x + 4 by omega] at hs2
  have hz : (w.alloc (.cells #[.int .i64 0, .string (str []), .int .i64 0, .string (str [])] 23)).heap[w.heap.size]? = some (.cells #[.int .i64 0, .string (str []), .int .i64 0, .string (str [])] 23 (0, 0)) := heap_alloc_new _ _
  have hbA := hb0 #[.int .i64 0, .string (str []), .int .i64 0, .string (str [])]
  have hsz : w.heap.size < (w.alloc (.cells #[.int .i64 0, .string (str []), .int .i64 0, .string (str [])] 23)).heap.size := by rw [World.size_alloc]; omega
  have HF := Lib.hid hzr
  clear ho hg hl hi hz0 hz1 hz2 hs hzr
  go_enter Tryd.func36, Tryd.ntmps36
  go_wp2_with fail
  refine (RGet_any _ _ _ _ _ _ hs1 hn).mono ?_
  rintro e w1 ⟨rfl, rfl⟩
  rw [HG.out]
  go_wp2_with fail
  refine (ROpen_any _ _ _ _ _ hs2 (by omega) (by omega)).mono ?_
  rintro e w2 ⟨v2, rfl, hown, hb2⟩
  rw [HO.out] at hown ⊢
  have hbB := hbA.trans (hb2.mono hbA.size)
  have hz' := (hb2.block w.heap.size hsz).trans hz
  obtain ⟨A2, c2, rfl, hc2, hs3, _, _⟩ := own_sl hown
  clear hown hb2 hbA hz hs3
  obtain ⟨z0, z1, z2, z3, fz, zl⟩ := row4_facts hz'
  have HZ := Lib.hid (heap_set4 (b0 := .int .i64 0) (b1 := .string ⟨#[]⟩) (b2 := .int .i64 0) (b3 := .string ⟨#[]⟩) hz')
  have HB := Lib.hid (below_set4 (b0 := .int .i64 0) (b1 := .string ⟨#[]⟩) (b2 := .int .i64 0) (b3 := .string ⟨#[]⟩) hbB (Nat.le_refl _))
  clear hbB hz'
  go_wp2_with fail
  refine bodyPost_ret (results_cell_tmp2_row rfl _ _ w.heap.size 23 _ _ _ rfl HZ.out Tryd.underlying23 rfl (by kernel_rfl)) rfl ⟨by rw [HF.out]; rfl, HB.out⟩

set_option maxRecDepth 100000 in
set_option maxHeartbeats 1000000 in
theorem ROne_text (A : Option Addr) (n c : Nat) (bs : List UInt8) (p : Nat) (w : World) (hs : Sl 1 w A n (bys bs)) (hn : n ≤ 1099511627776) (hc : n ≤ c) (hp : p ≤ n) (x to : Nat) (hg : getS (bs.drop p) 0 = ((x : Int), (to : Int), 0)) (hx : x ≤ 4611686018427387903) (htl : to ≤ (bs.drop p).length) (h1 : p + to + x + 4 ≤ n) (own : List UInt8) (ho : openS ((bs.drop (p + to)).take (x + 4)) = (own, 0)) (c0 : UInt8) (l : List UInt8) (hbs : own = c0 :: l) (pa : List UInt8) (t1 e1 : Int) (hgt : getT own 1 200 = (pa, t1, e1)) (he1 : e1 ≠ 0) (hzr : oneR (bs.drop p) = (zeroRec, 0)) :
    Calls Tryd.prog 36 #[.slice A n c, .int .i64 p] w fun e w' => e = .returned (roneV p (oneR (bs.drop p))) ∧ Below w.heap.size w w' := by
  have hl : bs.length = n := by have := hs.len; simpa [bys] using this
  have hb0 : ∀ cs, Below w.heap.size w (w.alloc (.cells cs 23)) := fun cs => (Below.refl _ _).alloc (Nat.le_refl _) _
  have hs1 := hs.below (hb0 #[.int .i64 0, .string (str []), .int .i64 0, .string (str [])])
  have HG := Lib.hid (getS_shift (by omega) hg)
  have htl' : to ≤ n - p := by rw [List.length_drop, hl] at htl; exact htl
  have HO := Lib.hid ho
  obtain ⟨i0, hi, hz0, hz1, hz2⟩ := info_parts info5
  have hsl : ∀ w : World, (Instr.slice 27 (.slice A n c) (some (.int .i64 (p + to))) (some (.int .i64 (p + to + (x + 4)))) none).run Tryd.prog w = .ok (.slice (subAt A (p + to) c 1) (x + 4) (c - (p + to))) w := fun w => by
    have := run_slice_sub (P := Tryd.prog) (w := w) (T := 27) under27 elem27 hi hz1 A n c (p + to) (p + to + (x + 4)) (by omega) (by omega) .i64 .i64 (p + to) (p + to + (x + 4)) (by omega) (by omega)
    rwa [show p + to + (x + 4) - (p + to) = x + 4 by omega] at this
  have hs2 := hs1.sub (p + to) (p + to + (x + 4)) c (by omega) (by omega) hc
  rw [show p + to + (x + 4) - (p + to) = x + 4 by omega] at hs2
  have hz : (w.alloc (.cells #[.int .i64 0, .string (str []), .int .i64 0, .string (str [])] 23)).heap[w.heap.size]? = some (.cells #[.int .i64 0, .string (str []), .int .i64 0, .string (str [])] 23 (0, 0)) := heap_alloc_new _ _
  have hbA := hb0 #[.int .i64 0, .string (str []), .int .i64 0, .string (str [])]
  have hsz : w.heap.size < (w.alloc (.cells #[.int .i64 0, .string (str []), .int .i64 0, .string (str [])] 23)).heap.size := by rw [World.size_alloc]; omega
  have HBS := Lib.hid hbs
  have hc256 : c0.toNat < 256 := c0.toNat_lt
  have o2 := (openS_ok ho).2
  have hown0 : own.length = x := by rw [List.length_take, List.length_drop, hl] at o2; omega
  have hpos : 0 < x := by rw [hbs] at hown0; simp at hown0; omega
  have HF := Lib.hid hzr
  have HGT := Lib.hid hgt
  clear ho hg hl hi hz0 hz1 hz2 hs hzr hgt hbs o2
  go_enter Tryd.func36, Tryd.ntmps36
  go_wp2_with fail
  refine (RGet_any _ _ _ _ _ _ hs1 hn).mono ?_
  rintro e w1 ⟨rfl, rfl⟩
  rw [HG.out]
  go_wp2_with fail
  refine (ROpen_any _ _ _ _ _ hs2 (by omega) (by omega)).mono ?_
  rintro e w2 ⟨v2, rfl, hown, hb2⟩
  rw [HO.out] at hown ⊢
  simp only [hown0] at hown
  have hbB := hbA.trans (hb2.mono hbA.size)
  have hz' := (hb2.block w.heap.size hsz).trans hz
  obtain ⟨A2, c2, rfl, hc2, hs3, _, _⟩ := own_sl hown
  obtain ⟨b, o, rfl, hk2, hcell, hbl⟩ := hs3.byte hpos
  have hc0 : own[0] = c0 := by have := HBS.out; subst this; rfl
  rw [hc0] at hcell
  have hcell0 : w2.cell? ⟨b, o, none⟩ = some (.int .u8 (c0.toNat : Int)) := hcell
  have hs5 := hs1.below hb2
  clear hown hb2 hbA hz hc0 hcell
  obtain ⟨z0, z1, z2, z3, fz, zl⟩ := row4_facts hz'
  have hs4 := hs3.below ((Below.refl _ _).alloc (Nat.le_refl _) (.cells #[.int .i64 (c0.toNat : Int), .string ⟨#[]⟩, .int .i64 0, .string ⟨#[]⟩] 23))
  go_wp2_with fail
  refine (RGetText_any _ _ _ _ _ _ _ hs4 (by omega) hc2 (by omega)).mono ?_
  rintro e w3 ⟨rfl, rfl⟩
  rw [HGT.out]
  have HBB := Lib.hid hbB
  have HZ' := Lib.hid hz'
  clear hbB hz'
  go_wp2_with fail
  refine bodyPost_ret (results_cell_tmp2_row rfl _ _ w.heap.size 23 _ _ _ rfl ((heap_alloc_old _ _ (by rw [size_set4]; exact zl)).trans (heap_set4 HZ'.out)) Tryd.underlying23 rfl (by kernel_rfl)) rfl ⟨by rw [HF.out]; rfl, (below_set4 HBB.out (Nat.le_refl _)).alloc (by rw [size_set4]; exact HBB.out.size) _⟩

set_option maxRecDepth 100000 in
set_option maxHeartbeats 1000000 in
theorem ROne_num (A : Option Addr) (n c : Nat) (bs : List UInt8) (p : Nat) (w : World) (hs : Sl 1 w A n (bys bs)) (hn : n ≤ 1099511627776) (hc : n ≤ c) (hp : p ≤ n) (x to : Nat) (hg : getS (bs.drop p) 0 = ((x : Int), (to : Int), 0)) (hx : x ≤ 4611686018427387903) (htl : to ≤ (bs.drop p).length) (h1 : p + to + x + 4 ≤ n) (own : List UInt8) (ho : openS ((bs.drop (p + to)).take (x + 4)) = (own, 0)) (c0 : UInt8) (l : List UInt8) (hbs : own = c0 :: l) (pa : List UInt8) (t1 : Int) (hgt : getT own 1 200 = (pa, t1, 0)) (nn t2 e3 : Int) (hgs : getS own t1 = (nn, t2, e3)) (he3 : e3 ≠ 0) (hzr : oneR (bs.drop p) = (zeroRec, 0)) :
    Calls Tryd.prog 36 #[.slice A n c, .int .i64 p] w fun e w' => e = .returned (roneV p (oneR (bs.drop p))) ∧ Below w.heap.size w w' := by
  have hl : bs.length = n := by have := hs.len; simpa [bys] using this
  have hb0 : ∀ cs, Below w.heap.size w (w.alloc (.cells cs 23)) := fun cs => (Below.refl _ _).alloc (Nat.le_refl _) _
  have hs1 := hs.below (hb0 #[.int .i64 0, .string (str []), .int .i64 0, .string (str [])])
  have HG := Lib.hid (getS_shift (by omega) hg)
  have htl' : to ≤ n - p := by rw [List.length_drop, hl] at htl; exact htl
  have HO := Lib.hid ho
  obtain ⟨i0, hi, hz0, hz1, hz2⟩ := info_parts info5
  have hsl : ∀ w : World, (Instr.slice 27 (.slice A n c) (some (.int .i64 (p + to))) (some (.int .i64 (p + to + (x + 4)))) none).run Tryd.prog w = .ok (.slice (subAt A (p + to) c 1) (x + 4) (c - (p + to))) w := fun w => by
    have := run_slice_sub (P := Tryd.prog) (w := w) (T := 27) under27 elem27 hi hz1 A n c (p + to) (p + to + (x + 4)) (by omega) (by omega) .i64 .i64 (p + to) (p + to + (x + 4)) (by omega) (by omega)
    rwa [show p + to + (x + 4) - (p + to) = x + 4 by omega] at this
  have hs2 := hs1.sub (p + to) (p + to + (x + 4)) c (by omega) (by omega) hc
  rw [show p + to + (x + 4) - (p + to) = x + 4 by omega] at hs2
  have hz : (w.alloc (.cells #[.int .i64 0, .string (str []), .int .i64 0, .string (str [])] 23)).heap[w.heap.size]? = some (.cells #[.int .i64 0, .string (str []), .int .i64 0, .string (str [])] 23 (0, 0)) := heap_alloc_new _ _
  have hbA := hb0 #[.int .i64 0, .string (str []), .int .i64 0, .string (str [])]
  have hsz : w.heap.size < (w.alloc (.cells #[.int .i64 0, .string (str []), .int .i64 0, .string (str [])] 23)).heap.size := by rw [World.size_alloc]; omega
  have HBS := Lib.hid hbs
  have hc256 : c0.toNat < 256 := c0.toNat_lt
  have o2 := (openS_ok ho).2
  have hown0 : own.length = x := by rw [List.length_take, List.length_drop, hl] at o2; omega
  have hpos : 0 < x := by rw [hbs] at hown0; simp at hown0; omega
  have HF := Lib.hid hzr
  have HGT := Lib.hid hgt
  have HGS := Lib.hid hgs
  clear ho hg hl hi hz0 hz1 hz2 hs hzr hgt hgs hbs o2
  go_enter Tryd.func36, Tryd.ntmps36
  go_wp2_with fail
  refine (RGet_any _ _ _ _ _ _ hs1 hn).mono ?_
  rintro e w1 ⟨rfl, rfl⟩
  rw [HG.out]
  go_wp2_with fail
  refine (ROpen_any _ _ _ _ _ hs2 (by omega) (by omega)).mono ?_
  rintro e w2 ⟨v2, rfl, hown, hb2⟩
  rw [HO.out] at hown ⊢
  simp only [hown0] at hown
  have hbB := hbA.trans (hb2.mono hbA.size)
  have hz' := (hb2.block w.heap.size hsz).trans hz
  obtain ⟨A2, c2, rfl, hc2, hs3, _, _⟩ := own_sl hown
  obtain ⟨b, o, rfl, hk2, hcell, hbl⟩ := hs3.byte hpos
  have hc0 : own[0] = c0 := by have := HBS.out; subst this; rfl
  rw [hc0] at hcell
  have hcell0 : w2.cell? ⟨b, o, none⟩ = some (.int .u8 (c0.toNat : Int)) := hcell
  have hs5 := hs1.below hb2
  clear hown hb2 hbA hz hc0 hcell
  obtain ⟨z0, z1, z2, z3, fz, zl⟩ := row4_facts hz'
  have hs4 := hs3.below ((Below.refl _ _).alloc (Nat.le_refl _) (.cells #[.int .i64 (c0.toNat : Int), .string ⟨#[]⟩, .int .i64 0, .string ⟨#[]⟩] 23))
  go_wp2_with fail
  refine (RGetText_any _ _ _ _ _ _ _ hs4 (by omega) hc2 (by omega)).mono ?_
  rintro e w3 ⟨rfl, rfl⟩
  rw [HGT.out]
  have HBB := Lib.hid hbB
  have HZ' := Lib.hid hz'
  clear hbB hz'
  go_wp2_with fail
  refine (RGet_any _ _ _ _ _ _ hs4 (by omega)).mono ?_
  rintro e w4 ⟨rfl, rfl⟩
  rw [HGS.out]
  go_wp2_with fail
  refine bodyPost_ret (results_cell_tmp2_row rfl _ _ w.heap.size 23 _ _ _ rfl ((heap_alloc_old _ _ (by rw [size_set4]; exact zl)).trans (heap_set4 HZ'.out)) Tryd.underlying23 rfl (by kernel_rfl)) rfl ⟨by rw [HF.out]; rfl, (below_set4 HBB.out (Nat.le_refl _)).alloc (by rw [size_set4]; exact HBB.out.size) _⟩

set_option maxRecDepth 100000 in
set_option maxHeartbeats 1000000 in
theorem ROne_not (A : Option Addr) (n c : Nat) (bs : List UInt8) (p : Nat) (w : World) (hs : Sl 1 w A n (bys bs)) (hn : n ≤ 1099511627776) (hc : n ≤ c) (hp : p ≤ n) (x to : Nat) (hg : getS (bs.drop p) 0 = ((x : Int), (to : Int), 0)) (hx : x ≤ 4611686018427387903) (htl : to ≤ (bs.drop p).length) (h1 : p + to + x + 4 ≤ n) (own : List UInt8) (ho : openS ((bs.drop (p + to)).take (x + 4)) = (own, 0)) (c0 : UInt8) (l : List UInt8) (hbs : own = c0 :: l) (pa : List UInt8) (t1 : Int) (hgt : getT own 1 200 = (pa, t1, 0)) (x2 t3 : Nat) (hgs : getS own t1 = ((x2 : Int), (t3 : Int), 0)) (htl2 : t3 ≤ x) (hm : ¬ May ⟨c0.toNat, str pa, x2, str (own.drop t3)⟩) (hzr : oneR (bs.drop p) = (zeroRec, 0)) :
    Calls Tryd.prog 36 #[.slice A n c, .int .i64 p] w fun e w' => e = .returned (roneV p (oneR (bs.drop p))) ∧ Below w.heap.size w w' := by
  have hl : bs.length = n := by have := hs.len; simpa [bys] using this
  have hb0 : ∀ cs, Below w.heap.size w (w.alloc (.cells cs 23)) := fun cs => (Below.refl _ _).alloc (Nat.le_refl _) _
  have hs1 := hs.below (hb0 #[.int .i64 0, .string (str []), .int .i64 0, .string (str [])])
  have HG := Lib.hid (getS_shift (by omega) hg)
  have htl' : to ≤ n - p := by rw [List.length_drop, hl] at htl; exact htl
  have HO := Lib.hid ho
  obtain ⟨i0, hi, hz0, hz1, hz2⟩ := info_parts info5
  have hsl : ∀ w : World, (Instr.slice 27 (.slice A n c) (some (.int .i64 (p + to))) (some (.int .i64 (p + to + (x + 4)))) none).run Tryd.prog w = .ok (.slice (subAt A (p + to) c 1) (x + 4) (c - (p + to))) w := fun w => by
    have := run_slice_sub (P := Tryd.prog) (w := w) (T := 27) under27 elem27 hi hz1 A n c (p + to) (p + to + (x + 4)) (by omega) (by omega) .i64 .i64 (p + to) (p + to + (x + 4)) (by omega) (by omega)
    rwa [show p + to + (x + 4) - (p + to) = x + 4 by omega] at this
  have hs2 := hs1.sub (p + to) (p + to + (x + 4)) c (by omega) (by omega) hc
  rw [show p + to + (x + 4) - (p + to) = x + 4 by omega] at hs2
  have hz : (w.alloc (.cells #[.int .i64 0, .string (str []), .int .i64 0, .string (str [])] 23)).heap[w.heap.size]? = some (.cells #[.int .i64 0, .string (str []), .int .i64 0, .string (str [])] 23 (0, 0)) := heap_alloc_new _ _
  have hbA := hb0 #[.int .i64 0, .string (str []), .int .i64 0, .string (str [])]
  have hsz : w.heap.size < (w.alloc (.cells #[.int .i64 0, .string (str []), .int .i64 0, .string (str [])] 23)).heap.size := by rw [World.size_alloc]; omega
  have HBS := Lib.hid hbs
  have hc256 : c0.toNat < 256 := c0.toNat_lt
  have o2 := (openS_ok ho).2
  have hown0 : own.length = x := by rw [List.length_take, List.length_drop, hl] at o2; omega
  have hpos : 0 < x := by rw [hbs] at hown0; simp at hown0; omega
  have HF := Lib.hid hzr
  have HGT := Lib.hid hgt
  have HGS := Lib.hid hgs
  have HM := Lib.hid hm
  have hslE : ∀ (A2 : Option Addr) (c2 : Nat) (w : World), (Instr.slice 27 (.slice A2 x c2) (some (.int .i64 t3)) none none).run Tryd.prog w = .ok (.slice (subAt A2 t3 c2 1) (x - t3) (c2 - t3)) w := fun A2 c2 w => run_slice_from under27 elem27 hi hz1 _ _ _ _ htl2 _ _ rfl
  clear ho hg hl hi hz0 hz1 hz2 hs hzr hgt hgs hbs o2 hm
  go_enter Tryd.func36, Tryd.ntmps36
  go_wp2_with fail
  refine (RGet_any _ _ _ _ _ _ hs1 hn).mono ?_
  rintro e w1 ⟨rfl, rfl⟩
  rw [HG.out]
  go_wp2_with fail
  refine (ROpen_any _ _ _ _ _ hs2 (by omega) (by omega)).mono ?_
  rintro e w2 ⟨v2, rfl, hown, hb2⟩
  rw [HO.out] at hown ⊢
  simp only [hown0] at hown
  have hbB := hbA.trans (hb2.mono hbA.size)
  have hz' := (hb2.block w.heap.size hsz).trans hz
  obtain ⟨A2, c2, rfl, hc2, hs3, _, _⟩ := own_sl hown
  obtain ⟨b, o, rfl, hk2, hcell, hbl⟩ := hs3.byte hpos
  have hc0 : own[0] = c0 := by have := HBS.out; subst this; rfl
  rw [hc0] at hcell
  have hcell0 : w2.cell? ⟨b, o, none⟩ = some (.int .u8 (c0.toNat : Int)) := hcell
  have hs5 := hs1.below hb2
  clear hown hb2 hbA hz hc0 hcell
  obtain ⟨z0, z1, z2, z3, fz, zl⟩ := row4_facts hz'
  have hs4 := hs3.below ((Below.refl _ _).alloc (Nat.le_refl _) (.cells #[.int .i64 (c0.toNat : Int), .string ⟨#[]⟩, .int .i64 0, .string ⟨#[]⟩] 23))
  go_wp2_with fail
  refine (RGetText_any _ _ _ _ _ _ _ hs4 (by omega) hc2 (by omega)).mono ?_
  rintro e w3 ⟨rfl, rfl⟩
  rw [HGT.out]
  have HBB := Lib.hid hbB
  have HZ' := Lib.hid hz'
  clear hbB hz'
  go_wp2_with fail
  refine (RGet_any _ _ _ _ _ _ hs4 (by omega)).mono ?_
  rintro e w4 ⟨rfl, rfl⟩
  rw [HGS.out]
  have hsA := hs3.below ((Below.refl _ _).alloc (Nat.le_refl _) (.cells #[.int .i64 (c0.toNat : Int), .string (str pa), .int .i64 (x2 : Int), .string ⟨#[]⟩] 23))
  have hcv := run_conv_str (P := Tryd.prog) (src := 27) Tryd.underlying27 Tryd.underlying5 (dst := 9) Tryd.underlying9 (c := c2 - t3) (hsA.from t3 c2 htl2 hc2 hsA.sub)
  go_wp2_with fail
  refine (RPut34_no ⟨c0.toNat, str pa, x2, str (own.drop t3)⟩ _ HM.out).mono ?_
  rintro e w5 ⟨rfl, hb5⟩
  have hbX : Below w.heap.size w w5 := (HBB.out.alloc HBB.out.size _).trans (hb5.mono (by rw [World.size_alloc]; have := HBB.out.size; omega))
  have hz5 := (hb5.block w.heap.size (by rw [World.size_alloc]; omega)).trans ((heap_alloc_old _ _ zl).trans HZ'.out)
  clear hcv hsA hs4 z0 z1 z2 z3 fz hb5
  obtain ⟨z0, z1, z2, z3, fz, zl5⟩ := row4_facts hz5
  have HBX := Lib.hid hbX
  have HZ5 := Lib.hid hz5
  clear hbX hz5
  go_wp2_with fail
  go_quiet (fail)
  go_wp2_with fail
  refine bodyPost_ret (results_cell_tmp2_row rfl _ _ w.heap.size 23 _ _ _ rfl (heap_set4 (w1 := w5.drewN nq) (by rw [World.heap_drewN]; exact HZ5.out)) Tryd.underlying23 rfl (by kernel_rfl)) rfl ⟨by rw [HF.out]; rfl, below_set4 (below_drewN HBX.out nq) (Nat.le_refl _)⟩

set_option maxRecDepth 100000 in
set_option maxHeartbeats 1000000 in
theorem ROne_yes (A : Option Addr) (n c : Nat) (bs : List UInt8) (p : Nat) (w : World) (hs : Sl 1 w A n (bys bs)) (hn : n ≤ 1099511627776) (hc : n ≤ c) (hp : p ≤ n) (x to : Nat) (hg : getS (bs.drop p) 0 = ((x : Int), (to : Int), 0)) (hx : x ≤ 4611686018427387903) (htl : to ≤ (bs.drop p).length) (h1 : p + to + x + 4 ≤ n) (own : List UInt8) (ho : openS ((bs.drop (p + to)).take (x + 4)) = (own, 0)) (c0 : UInt8) (l : List UInt8) (hbs : own = c0 :: l) (pa : List UInt8) (t1 : Int) (hgt : getT own 1 200 = (pa, t1, 0)) (x2 t3 : Nat) (hgs : getS own t1 = ((x2 : Int), (t3 : Int), 0)) (htl2 : t3 ≤ x) (hm : May ⟨c0.toNat, str pa, x2, str (own.drop t3)⟩) (hzr : oneR (bs.drop p) = (⟨c0.toNat, str pa, x2, str (own.drop t3)⟩, ((to + x + 4 : Nat) : Int))) :
    Calls Tryd.prog 36 #[.slice A n c, .int .i64 p] w fun e w' => e = .returned (roneV p (oneR (bs.drop p))) ∧ Below w.heap.size w w' := by
  have hl : bs.length = n := by have := hs.len; simpa [bys] using this
  have hb0 : ∀ cs, Below w.heap.size w (w.alloc (.cells cs 23)) := fun cs => (Below.refl _ _).alloc (Nat.le_refl _) _
  have hs1 := hs.below (hb0 #[.int .i64 0, .string (str []), .int .i64 0, .string (str [])])
  have HG := Lib.hid (getS_shift (by omega) hg)
  have htl' : to ≤ n - p := by rw [List.length_drop, hl] at htl; exact htl
  have HO := Lib.hid ho
  obtain ⟨i0, hi, hz0, hz1, hz2⟩ := info_parts info5
  have hsl : ∀ w : World, (Instr.slice 27 (.slice A n c) (some (.int .i64 (p + to))) (some (.int .i64 (p + to + (x + 4)))) none).run Tryd.prog w = .ok (.slice (subAt A (p + to) c 1) (x + 4) (c - (p + to))) w := fun w => by
    have := run_slice_sub (P := Tryd.prog) (w := w) (T := 27) under27 elem27 hi hz1 A n c (p + to) (p + to + (x + 4)) (by omega) (by omega) .i64 .i64 (p + to) (p + to + (x + 4)) (by omega) (by omega)
    rwa [show p + to + (x + 4) - (p + to) = x + 4 by omega] at this
  have hs2 := hs1.sub (p + to) (p + to + (x + 4)) c (by omega) (by omega) hc
  rw [show p + to + (x + 4) - (p + to) = x + 4 by omega] at hs2
  have hz : (w.alloc (.cells #[.int .i64 0, .string (str []), .int .i64 0, .string (str [])] 23)).heap[w.heap.size]? = some (.cells #[.int .i64 0, .string (str []), .int .i64 0, .string (str [])] 23 (0, 0)) := heap_alloc_new _ _
  have hbA := hb0 #[.int .i64 0, .string (str []), .int .i64 0, .string (str [])]
  have hsz : w.heap.size < (w.alloc (.cells #[.int .i64 0, .string (str []), .int .i64 0, .string (str [])] 23)).heap.size := by rw [World.size_alloc]; omega
  have HBS := Lib.hid hbs
  have hc256 : c0.toNat < 256 := c0.toNat_lt
  have o2 := (openS_ok ho).2
  have hown0 : own.length = x := by rw [List.length_take, List.length_drop, hl] at o2; omega
  have hpos : 0 < x := by rw [hbs] at hown0; simp at hown0; omega
  have HF := Lib.hid hzr
  have HGT := Lib.hid hgt
  have HGS := Lib.hid hgs
  have HM := Lib.hid hm
  have hcan := (oneR_canon hzr (by omega)).2.1
  have HC := Lib.hid hcan
  have hsl3 : ∀ w : World, (Instr.slice 27 (.slice A n c) (some (.int .i64 p)) (some (.int .i64 (p + to + (x + 4)))) none).run Tryd.prog w = .ok (.slice (subAt A p c 1) (to + x + 4) (c - p)) w := fun w => by
    have := run_slice_sub (P := Tryd.prog) (w := w) (T := 27) under27 elem27 hi hz1 A n c p (p + to + (x + 4)) (by omega) (by omega) .i64 .i64 p (p + to + (x + 4)) (by omega) (by omega)
    rwa [show p + to + (x + 4) - p = to + x + 4 by omega] at this
  have hslE : ∀ (A2 : Option Addr) (c2 : Nat) (w : World), (Instr.slice 27 (.slice A2 x c2) (some (.int .i64 t3)) none none).run Tryd.prog w = .ok (.slice (subAt A2 t3 c2 1) (x - t3) (c2 - t3)) w := fun A2 c2 w => run_slice_from under27 elem27 hi hz1 _ _ _ _ htl2 _ _ rfl
  clear ho hg hl hi hz0 hz1 hz2 hs hzr hgt hgs hbs o2 hm hcan
  go_enter Tryd.func36, Tryd.ntmps36
  go_wp2_with fail
  refine (RGet_any _ _ _ _ _ _ hs1 hn).mono ?_
  rintro e w1 ⟨rfl, rfl⟩
  rw [HG.out]
  go_wp2_with fail
  refine (ROpen_any _ _ _ _ _ hs2 (by omega) (by omega)).mono ?_
  rintro e w2 ⟨v2, rfl, hown, hb2⟩
  rw [HO.out] at hown ⊢
  simp only [hown0] at hown
  have hbB := hbA.trans (hb2.mono hbA.size)
  have hz' := (hb2.block w.heap.size hsz).trans hz
  obtain ⟨A2, c2, rfl, hc2, hs3, _, _⟩ := own_sl hown
  obtain ⟨b, o, rfl, hk2, hcell, hbl⟩ := hs3.byte hpos
  have hc0 : own[0] = c0 := by have := HBS.out; subst this; rfl
  rw [hc0] at hcell
  have hcell0 : w2.cell? ⟨b, o, none⟩ = some (.int .u8 (c0.toNat : Int)) := hcell
  have hs5 := hs1.below hb2
  clear hown hb2 hbA hz hc0 hcell
  obtain ⟨z0, z1, z2, z3, fz, zl⟩ := row4_facts hz'
  have hs4 := hs3.below ((Below.refl _ _).alloc (Nat.le_refl _) (.cells #[.int .i64 (c0.toNat : Int), .string ⟨#[]⟩, .int .i64 0, .string ⟨#[]⟩] 23))
  go_wp2_with fail
  refine (RGetText_any _ _ _ _ _ _ _ hs4 (by omega) hc2 (by omega)).mono ?_
  rintro e w3 ⟨rfl, rfl⟩
  rw [HGT.out]
  have HBB := Lib.hid hbB
  have HZ' := Lib.hid hz'
  clear hbB hz'
  go_wp2_with fail
  refine (RGet_any _ _ _ _ _ _ hs4 (by omega)).mono ?_
  rintro e w4 ⟨rfl, rfl⟩
  rw [HGS.out]
  have hsA := hs3.below ((Below.refl _ _).alloc (Nat.le_refl _) (.cells #[.int .i64 (c0.toNat : Int), .string (str pa), .int .i64 (x2 : Int), .string ⟨#[]⟩] 23))
  have hcv := run_conv_str (P := Tryd.prog) (src := 27) Tryd.underlying27 Tryd.underlying5 (dst := 9) Tryd.underlying9 (c := c2 - t3) (hsA.from t3 c2 htl2 hc2 hsA.sub)
  go_wp2_with fail
  refine (RPut34_yes ⟨c0.toNat, str pa, x2, str (own.drop t3)⟩ _ HM.out).mono ?_
  rintro e w5 ⟨v5, rfl, hown5, hb5⟩
  have hbX : Below w.heap.size w w5 := (HBB.out.alloc HBB.out.size _).trans (hb5.mono (by rw [World.size_alloc]; have := HBB.out.size; omega))
  have hz5 := (hb5.block w.heap.size (by rw [World.size_alloc]; omega)).trans ((heap_alloc_old _ _ zl).trans HZ'.out)
  have hbx5 := (Box4.mk_alloc w2 ⟨c0.toNat, str pa, x2, str (own.drop t3)⟩ 23).below hb5
  obtain ⟨A5, c5, rfl, hc5, hs6, _, _⟩ := own_sl hown5
  have hsB := (hs5.below ((Below.refl _ _).alloc (Nat.le_refl _) (.cells #[.int .i64 (c0.toNat : Int), .string (str pa), .int .i64 (x2 : Int), .string (str (own.drop t3))] 23))).below hb5
  have hsC := hsB.sub p (p + to + (x + 4)) c (by omega) (by omega) hc
  rw [show p + to + (x + 4) - p = to + x + 4 by omega, HC.out] at hsC
  have hcv5 := fun m : Nat => run_conv_str (P := Tryd.prog) (w := w5.drewN m) (src := 27) Tryd.underlying27 Tryd.underlying5 (dst := 9) Tryd.underlying9 (c := c5) (hs6.drewN m)
  have hcv6 := fun m : Nat => run_conv_str (P := Tryd.prog) (w := w5.drewN m) (src := 27) Tryd.underlying27 Tryd.underlying5 (dst := 9) Tryd.underlying9 (c := c - p) (hsC.drewN m)
  clear hcv hsA hs4 z0 z1 z2 z3 fz hb5 hown5 hs6 hsB hsC
  obtain ⟨z0, z1, z2, z3, fz, zl5⟩ := row4_facts hz5
  obtain ⟨y0, y1, y2, y3⟩ := hbx5
  have HBX := Lib.hid hbX
  have HZ5 := Lib.hid hz5
  clear hbX hz5
  go_wp2_with fail
  go_quiet (fail)
  go_wp2_with fail
  refine bodyPost_ret (results_cell_tmp2_row rfl _ _ w.heap.size 23 _ _ _ rfl (heap_set4 (w1 := w5.drewN nq) (by rw [World.heap_drewN]; exact HZ5.out)) Tryd.underlying23 rfl (by kernel_rfl)) rfl ⟨?_, below_set4 (below_drewN HBX.out nq) (Nat.le_refl _)⟩
  rw [HF.out, roneV, if_neg (by omega)]
  have ha : (p : Int) + (to : Int) + ((x : Int) + 4) = (p : Int) + ((to + x + 4 : Nat) : Int) := by omega
  rw [ha]
  rfl

end Go.Proofs.YthkjnpbbgfagkaaDoor
