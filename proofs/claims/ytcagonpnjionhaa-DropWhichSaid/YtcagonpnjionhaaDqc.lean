import Derived.Test.YtcagonpnjionhaaPx2c
/-! The document's At, why and may. -/
set_option linter.unusedVariables false
set_option linter.unusedSimpArgs false
namespace Go.Proofs.Ytcagonpnjionhaa
open Go.RowKit

set_option maxRecDepth 100000 in
set_option maxHeartbeats 4000000 in
theorem refAt_any (sA : Option Addr) (sn sc : Nat) (S : List En) (x : En) (w : World) (hs : Sl 11 w sA sn (encEs S)) (hc : checkE S = true) :
    Calls Try.prog 48 #[.slice sA sn sc, aggE x] w fun f w' => f = .returned (.bool (thereU S x)) ∧ Below w.heap.size w w' := by
  have hb0 := (Below.refl w.heap.size w).alloc (Nat.le_refl _) (.cells #[.string x.path, .int .i64 x.kind, .int .i64 x.size, .int .i64 x.m0, .int .i64 x.m1, .int .i64 x.m2, .int .i64 x.m3, .int .i64 x.m4, .string x.target, .string x.sum, .int .i64 x.group] 37)
  have HF := Lib.hid (refFind_any sA sn sc S x.path _ (hs.below hb0))
  have HN0 := Lib.hid (show Blk (w.alloc (.cells #[.string x.path, .int .i64 x.kind, .int .i64 x.size, .int .i64 x.m0, .int .i64 x.m1, .int .i64 x.m2, .int .i64 x.m3, .int .i64 x.m4, .string x.target, .string x.sum, .int .i64 x.group] 37)) w.heap.size 37 (encE x) from Blk.newA w 37 #[.string x.path, .int .i64 x.kind, .int .i64 x.size, .int .i64 x.m0, .int .i64 x.m1, .int .i64 x.m2, .int .i64 x.m3, .int .i64 x.m4, .string x.target, .string x.sum, .int .i64 x.group])
  have HB0 := Lib.hid hb0
  have HT := Lib.hid (thereU_find hc x)
  have HS := Lib.hid hs
  have HSL := Lib.hid hs.enLen
  obtain ⟨c0, c1, c2, c3, c4, c5, c6, c7, c8, c9, c10⟩ := encE_cells (x := x) HN0.out
  clear hb0 hs hc
  generalize thereU S x = X at *
  unfold aggE
  go_enter Try.func48, Try.ntmps48
  go_wp2_with fail
  refine HF.out.mono ?_
  rintro e w2 ⟨rfl, hb2⟩
  have N2 := Lib.hid (HN0.out.below hb2)
  have B2 := Lib.hid (HB0.out.trans (hb2.mono HB0.out.size))
  clear hb2 HF c0 c1 c2 c3 c4 c5 c6 c7 c8 c9 c10 HN0 HB0
  obtain ⟨c0, c1, _⟩ := encE_cells (x := x) N2.out
  rcases HT.out with ⟨hf, rfl⟩ | ⟨k, s, hk, hf, rfl⟩
  · rw [hf]
    clear hf HT
    go_wp2_with fail
    go_quiet (fail)
    have B3 := Lib.hid (below_drewN B2.out nq)
    go_wp2_with fail
    go_ret
    exact ⟨rfl, B3.out⟩
  · rw [hf]
    clear hf HT
    have hkl : k < sn := by rw [← HSL.out]; exact (List.getElem?_eq_some_iff.1 hk).1
    obtain ⟨sb, so, s', hsA, hs', hsg⟩ := (HS.out.below B2.out).enRow hkl
    rw [hk] at hs'
    cases hs'
    have s0 := (enCells hsg).1
    have s1 := (enCells hsg).2.1
    have hk1 : (0 : Int) ≤ (k : Int) := by omega
    have hk2 : (k : Int) < (sn : Int) := by omega
    subst hsA
    clear hsg
    generalize hsk : (s.kind == 2) = sk at *
    generalize hxk : (x.kind == 2) = xk at *
    go_wp2_with fail
    go_quiet (fail)
    have B3 := Lib.hid (below_drewN B2.out nq)
    go_wp2_with fail
    go_ret
    exact ⟨by show _ = Ending.returned (.bool ((s.kind == 2) == (x.kind == 2))); rw [hsk, hxk]; rfl, B3.out⟩
set_option maxRecDepth 100000 in
set_option maxHeartbeats 4000000 in
theorem refWhy_any (sA : Option Addr) (sn sc : Nat) (rA : Option Addr) (rn rc : Nat) (S : List En) (R : List Ru) (x : En) (w : World) (hs : Sl 11 w sA sn (encEs S)) (hr : Sl 4 w rA rn (encUs R)) (hR : ∀ r ∈ R, r.pat.size ≤ 140737488355328) (hp : x.path.size ≤ 2097152) (hc : checkE S = true) :
    Calls Try.prog 37 #[.slice sA sn sc, aggE x, .slice rA rn rc] w fun f w' => f = .returned (.int .i64 (firstU S R x)) ∧ Below w.heap.size w w' := by
  obtain ⟨X, hX⟩ : ∃ X, firstU S R x = X := ⟨_, rfl⟩
  have HX : Hid ((if thereU S x = true then 1 else if hiddenU R x.path.data.toList (x.kind == 2) = true then 2 else if safeU R x.path.data.toList (x.kind == 2) = true then 3 else 0) = X) := Lib.hid hX
  rw [hX]
  clear hX
  have hb0 := (Below.refl w.heap.size w).alloc (Nat.le_refl _) (.cells #[.string x.path, .int .i64 x.kind, .int .i64 x.size, .int .i64 x.m0, .int .i64 x.m1, .int .i64 x.m2, .int .i64 x.m3, .int .i64 x.m4, .string x.target, .string x.sum, .int .i64 x.group] 37)
  have HA := Lib.hid (refAt_any sA sn sc S x _ (hs.below hb0) hc)
  have HH := Lib.hid (fun w' (h : Below w.heap.size w w') => refHidden_any rA rn rc R x.path (x.kind == 2) w' (hr.below h) hR hp)
  have HSF := Lib.hid (fun w' (h : Below w.heap.size w w') => refSafe_any rA rn rc R x.path (x.kind == 2) w' (hr.below h) hR hp)
  have HN0 := Lib.hid (show Blk (w.alloc (.cells #[.string x.path, .int .i64 x.kind, .int .i64 x.size, .int .i64 x.m0, .int .i64 x.m1, .int .i64 x.m2, .int .i64 x.m3, .int .i64 x.m4, .string x.target, .string x.sum, .int .i64 x.group] 37)) w.heap.size 37 (encE x) from Blk.newA w 37 #[.string x.path, .int .i64 x.kind, .int .i64 x.size, .int .i64 x.m0, .int .i64 x.m1, .int .i64 x.m2, .int .i64 x.m3, .int .i64 x.m4, .string x.target, .string x.sum, .int .i64 x.group])
  have HB0 := Lib.hid hb0
  obtain ⟨c0, c1, c2, c3, c4, c5, c6, c7, c8, c9, c10⟩ := encE_cells (x := x) HN0.out
  clear hb0 hs hc hr hR
  generalize hxk : (x.kind == 2) = xk at *
  generalize thereU S x = b1 at *
  generalize hiddenU R x.path.data.toList xk = b2 at *
  generalize safeU R x.path.data.toList xk = b3 at *
  unfold aggE at *
  go_enter Try.func37, Try.ntmps37
  go_wp2_with fail
  refine HA.out.mono ?_
  rintro e w2 ⟨rfl, hb2⟩
  have N2 := Lib.hid (HN0.out.below hb2)
  have B2 := Lib.hid (HB0.out.trans (hb2.mono HB0.out.size))
  clear hb2 HA c0 c1 c2 c3 c4 c5 c6 c7 c8 c9 c10 HN0 HB0
  obtain ⟨c0, c1, _⟩ := encE_cells (x := x) N2.out
  cases b1 with
  | true =>
    have K := Lib.hid (show X = 1 by rw [← HX.out]; rfl)
    go_wp2_with fail
    go_ret
    exact ⟨by rw [K.out]; rfl, B2.out⟩
  | false =>
  go_wp2_with fail
  refine (HH.out w2 B2.out).mono ?_
  rintro e w3 ⟨rfl, hb3⟩
  have N3 := Lib.hid (N2.out.below hb3)
  have B3 := Lib.hid (B2.out.trans (hb3.mono B2.out.size))
  clear hb3 HH c0 c1 N2 B2
  obtain ⟨c0, c1, _⟩ := encE_cells (x := x) N3.out
  cases b2 with
  | true =>
    have K := Lib.hid (show X = 2 by rw [← HX.out]; rfl)
    go_wp2_with fail
    go_ret
    exact ⟨by rw [K.out]; rfl, B3.out⟩
  | false =>
  go_wp2_with fail
  refine (HSF.out w3 B3.out).mono ?_
  rintro e w4 ⟨rfl, hb4⟩
  have B4 := Lib.hid (B3.out.trans (hb4.mono B3.out.size))
  clear hb4 HSF c0 c1 N3 B3
  cases b3 with
  | true =>
    have K := Lib.hid (show X = 3 by rw [← HX.out]; rfl)
    go_wp2_with fail
    go_ret
    exact ⟨by rw [K.out]; rfl, B4.out⟩
  | false =>
    have K := Lib.hid (show X = 0 by rw [← HX.out]; rfl)
    go_wp2_with fail
    go_ret
    exact ⟨by rw [K.out]; rfl, B4.out⟩
set_option maxRecDepth 100000 in
set_option maxHeartbeats 1000000 in
theorem refMay_any (sA : Option Addr) (sn sc : Nat) (dA : Option Addr) (dn dc : Nat) (S D : List En) (w : World) (hs : Sl 11 w sA sn (encEs S)) (hd : Sl 11 w dA dn (encEs D)) (hsp : ∀ x ∈ S, x.path.size ≤ 2097152) (hdp : ∀ x ∈ D, x.path.size ≤ 2097152) (hsn : sn ≤ 500) (hdn : dn ≤ 500) (hsc : sn ≤ sc) (hdc : dn ≤ dc) :
    Calls Try.prog 23 #[.slice sA sn sc, .slice dA dn dc] w fun f w' => f = .returned (.bool (checkE S && checkE D)) ∧ Below w.heap.size w w' := by
  have H1 := Lib.hid (refCheckL_any sA sn sc S w hs hsp (by omega) hsc)
  have H2 := Lib.hid (fun w' (h : Below w.heap.size w w') => refCheckL_any dA dn dc D w' (hd.below h) hdp (by omega) hdc)
  generalize checkE S = b1 at *
  generalize checkE D = b2 at *
  clear hs hd hsp hdp
  go_enter Try.func23, Try.ntmps23
  go_wp2_with fail
  refine H1.out.mono ?_
  rintro e w1 ⟨⟨k, rfl, hk⟩, hb1⟩
  have B1 := Lib.hid hb1
  clear hb1 H1
  cases b1 with
  | false =>
    go_wp2_with fail
    go_ret
    exact ⟨rfl, B1.out⟩
  | true =>
  go_wp2_with fail
  refine (H2.out w1 B1.out).mono ?_
  rintro e w2 ⟨⟨k2, rfl, hk2⟩, hb2⟩
  have B2 := Lib.hid (B1.out.trans (hb2.mono B1.out.size))
  clear hb2 H2 B1
  go_wp2_with fail
  go_ret
  exact ⟨rfl, B2.out⟩
end Go.Proofs.Ytcagonpnjionhaa
