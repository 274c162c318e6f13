/- DropWhich: for any two lists of entries, any rules and any options the law of package remoralaw24 returns true, and its arguments read as before. No other condition than the statement's own. -/
import Derived.Test.YtcagonpnjionhaaRic
import Derived.Test.YtcagonpnjionhaaWrc
set_option linter.unusedVariables false
set_option linter.unusedSimpArgs false
namespace Go.Proofs.Ytcagonpnjionhaa
open Go.ChangeShapes Go.WideShapes Go.ChangeAt Go.RowKit Go.Joins Go.Deep

theorem cellsBool : Try.prog.cellsOf 4 = 1 := by kernel_rfl
theorem cellsOpts : Try.prog.cellsOf 25 = 21 := by kernel_rfl
theorem list21 {α : Type} {l : List α} (h : l.length = 21) : ∃ a0 a1 a2 a3 a4 a5 a6 a7 a8 a9 a10 a11 a12 a13 a14 a15 a16 a17 a18 a19 a20, l = [a0, a1, a2, a3, a4, a5, a6, a7, a8, a9, a10, a11, a12, a13, a14, a15, a16, a17, a18, a19, a20] := by
  rcases l with _ | ⟨a0, l⟩; · simp at h
  rcases l with _ | ⟨a1, l⟩; · simp at h
  rcases l with _ | ⟨a2, l⟩; · simp at h
  rcases l with _ | ⟨a3, l⟩; · simp at h
  rcases l with _ | ⟨a4, l⟩; · simp at h
  rcases l with _ | ⟨a5, l⟩; · simp at h
  rcases l with _ | ⟨a6, l⟩; · simp at h
  rcases l with _ | ⟨a7, l⟩; · simp at h
  rcases l with _ | ⟨a8, l⟩; · simp at h
  rcases l with _ | ⟨a9, l⟩; · simp at h
  rcases l with _ | ⟨a10, l⟩; · simp at h
  rcases l with _ | ⟨a11, l⟩; · simp at h
  rcases l with _ | ⟨a12, l⟩; · simp at h
  rcases l with _ | ⟨a13, l⟩; · simp at h
  rcases l with _ | ⟨a14, l⟩; · simp at h
  rcases l with _ | ⟨a15, l⟩; · simp at h
  rcases l with _ | ⟨a16, l⟩; · simp at h
  rcases l with _ | ⟨a17, l⟩; · simp at h
  rcases l with _ | ⟨a18, l⟩; · simp at h
  rcases l with _ | ⟨a19, l⟩; · simp at h
  rcases l with _ | ⟨a20, l⟩; · simp at h
  rcases l with _ | ⟨q, l⟩
  · exact ⟨a0, a1, a2, a3, a4, a5, a6, a7, a8, a9, a10, a11, a12, a13, a14, a15, a16, a17, a18, a19, a20, rfl⟩
  · simp at h
set_option maxRecDepth 100000 in
set_option maxHeartbeats 1000000 in
theorem open_opts {H : Type} {enc : TypeId × Value → H} {W : World} {base : Nat} {spare : Nat → Bool} {held : Bool} {r : Reach} {b0 : Nat} {v : Value} {d : DataW H} {ps : List MemPlace}
    (hval : Value.okWide Try.prog W r b0 25 v) (h1 : DataW.Trod enc Try.prog W base spare held 25 v d ps) :
    ∃ (del most : Int) (b0 b1 b2 b3 b4 b5 b6 b7 b8 b9 b10 b11 b12 b13 b14 b15 : Bool) (i0 i1 i2 : Int), v = .agg #[.int .i64 del, .int .i64 most, .bool b0, .bool b1, .bool b2, .bool b3, .bool b4, .bool b5, .bool b6, .bool b7, .bool b8, .bool b9, .bool b10, .bool b11, .bool b12, .bool b13, .bool b14, .bool b15, .int .i64 i0, .int .i64 i1, .int .i64 i2] := by
  obtain ⟨cs, rfl, hsz⟩ := okWide_struct Try.underlying25 hval
  obtain ⟨fuel, hf⟩ := h1
  obtain ⟨xs, n, _, hx, hl, hxl, hat⟩ := DataW.trod_struct Try.underlying25 hf
  have hl : cs.toList.length = 21 := by rw [← cellsOpts]; simpa [Value.cells] using hl
  have hxl : xs.length = 21 := hxl
  obtain ⟨l⟩ := cs
  obtain ⟨a0, a1, a2, a3, a4, a5, a6, a7, a8, a9, a10, a11, a12, a13, a14, a15, a16, a17, a18, a19, a20, rfl⟩ := list21 (show l.length = 21 from hl)
  obtain ⟨y0, z0⟩ := some_at hxl (i := 0) (by omega)
  have t0 : DataW.trod enc Try.prog W base spare held n 3 (([a0, a1, a2, a3, a4, a5, a6, a7, a8, a9, a10, a11, a12, a13, a14, a15, a16, a17, a18, a19, a20].drop 0).take (Try.prog.cellsOf 3)) = xs[0]? := hat 0 _ rfl
  rw [cellsInt, z0] at t0
  obtain ⟨s0, r0, _⟩ := DataW.trod_int Try.underlying3 t0
  obtain ⟨y1, z1⟩ := some_at hxl (i := 1) (by omega)
  have t1 : DataW.trod enc Try.prog W base spare held n 3 (([a0, a1, a2, a3, a4, a5, a6, a7, a8, a9, a10, a11, a12, a13, a14, a15, a16, a17, a18, a19, a20].drop 1).take (Try.prog.cellsOf 3)) = xs[1]? := hat 1 _ rfl
  rw [cellsInt, z1] at t1
  obtain ⟨s1, r1, _⟩ := DataW.trod_int Try.underlying3 t1
  obtain ⟨y2, z2⟩ := some_at hxl (i := 2) (by omega)
  have t2 : DataW.trod enc Try.prog W base spare held n 4 (([a0, a1, a2, a3, a4, a5, a6, a7, a8, a9, a10, a11, a12, a13, a14, a15, a16, a17, a18, a19, a20].drop 2).take (Try.prog.cellsOf 4)) = xs[2]? := hat 2 _ rfl
  rw [cellsBool, z2] at t2
  obtain ⟨s2, r2, _⟩ := DataW.trod_bool Try.underlying4 t2
  obtain ⟨y3, z3⟩ := some_at hxl (i := 3) (by omega)
  have t3 : DataW.trod enc Try.prog W base spare held n 4 (([a0, a1, a2, a3, a4, a5, a6, a7, a8, a9, a10, a11, a12, a13, a14, a15, a16, a17, a18, a19, a20].drop 3).take (Try.prog.cellsOf 4)) = xs[3]? := hat 3 _ rfl
  rw [cellsBool, z3] at t3
  obtain ⟨s3, r3, _⟩ := DataW.trod_bool Try.underlying4 t3
  obtain ⟨y4, z4⟩ := some_at hxl (i := 4) (by omega)
  have t4 : DataW.trod enc Try.prog W base spare held n 4 (([a0, a1, a2, a3, a4, a5, a6, a7, a8, a9, a10, a11, a12, a13, a14, a15, a16, a17, a18, a19, a20].drop 4).take (Try.prog.cellsOf 4)) = xs[4]? := hat 4 _ rfl
  rw [cellsBool, z4] at t4
  obtain ⟨s4, r4, _⟩ := DataW.trod_bool Try.underlying4 t4
  obtain ⟨y5, z5⟩ := some_at hxl (i := 5) (by omega)
  have t5 : DataW.trod enc Try.prog W base spare held n 4 (([a0, a1, a2, a3, a4, a5, a6, a7, a8, a9, a10, a11, a12, a13, a14, a15, a16, a17, a18, a19, a20].drop 5).take (Try.prog.cellsOf 4)) = xs[5]? := hat 5 _ rfl
  rw [cellsBool, z5] at t5
  obtain ⟨s5, r5, _⟩ := DataW.trod_bool Try.underlying4 t5
  obtain ⟨y6, z6⟩ := some_at hxl (i := 6) (by omega)
  have t6 : DataW.trod enc Try.prog W base spare held n 4 (([a0, a1, a2, a3, a4, a5, a6, a7, a8, a9, a10, a11, a12, a13, a14, a15, a16, a17, a18, a19, a20].drop 6).take (Try.prog.cellsOf 4)) = xs[6]? := hat 6 _ rfl
  rw [cellsBool, z6] at t6
  obtain ⟨s6, r6, _⟩ := DataW.trod_bool Try.underlying4 t6
  obtain ⟨y7, z7⟩ := some_at hxl (i := 7) (by omega)
  have t7 : DataW.trod enc Try.prog W base spare held n 4 (([a0, a1, a2, a3, a4, a5, a6, a7, a8, a9, a10, a11, a12, a13, a14, a15, a16, a17, a18, a19, a20].drop 7).take (Try.prog.cellsOf 4)) = xs[7]? := hat 7 _ rfl
  rw [cellsBool, z7] at t7
  obtain ⟨s7, r7, _⟩ := DataW.trod_bool Try.underlying4 t7
  obtain ⟨y8, z8⟩ := some_at hxl (i := 8) (by omega)
  have t8 : DataW.trod enc Try.prog W base spare held n 4 (([a0, a1, a2, a3, a4, a5, a6, a7, a8, a9, a10, a11, a12, a13, a14, a15, a16, a17, a18, a19, a20].drop 8).take (Try.prog.cellsOf 4)) = xs[8]? := hat 8 _ rfl
  rw [cellsBool, z8] at t8
  obtain ⟨s8, r8, _⟩ := DataW.trod_bool Try.underlying4 t8
  obtain ⟨y9, z9⟩ := some_at hxl (i := 9) (by omega)
  have t9 : DataW.trod enc Try.prog W base spare held n 4 (([a0, a1, a2, a3, a4, a5, a6, a7, a8, a9, a10, a11, a12, a13, a14, a15, a16, a17, a18, a19, a20].drop 9).take (Try.prog.cellsOf 4)) = xs[9]? := hat 9 _ rfl
  rw [cellsBool, z9] at t9
  obtain ⟨s9, r9, _⟩ := DataW.trod_bool Try.underlying4 t9
  obtain ⟨y10, z10⟩ := some_at hxl (i := 10) (by omega)
  have t10 : DataW.trod enc Try.prog W base spare held n 4 (([a0, a1, a2, a3, a4, a5, a6, a7, a8, a9, a10, a11, a12, a13, a14, a15, a16, a17, a18, a19, a20].drop 10).take (Try.prog.cellsOf 4)) = xs[10]? := hat 10 _ rfl
  rw [cellsBool, z10] at t10
  obtain ⟨s10, r10, _⟩ := DataW.trod_bool Try.underlying4 t10
  obtain ⟨y11, z11⟩ := some_at hxl (i := 11) (by omega)
  have t11 : DataW.trod enc Try.prog W base spare held n 4 (([a0, a1, a2, a3, a4, a5, a6, a7, a8, a9, a10, a11, a12, a13, a14, a15, a16, a17, a18, a19, a20].drop 11).take (Try.prog.cellsOf 4)) = xs[11]? := hat 11 _ rfl
  rw [cellsBool, z11] at t11
  obtain ⟨s11, r11, _⟩ := DataW.trod_bool Try.underlying4 t11
  obtain ⟨y12, z12⟩ := some_at hxl (i := 12) (by omega)
  have t12 : DataW.trod enc Try.prog W base spare held n 4 (([a0, a1, a2, a3, a4, a5, a6, a7, a8, a9, a10, a11, a12, a13, a14, a15, a16, a17, a18, a19, a20].drop 12).take (Try.prog.cellsOf 4)) = xs[12]? := hat 12 _ rfl
  rw [cellsBool, z12] at t12
  obtain ⟨s12, r12, _⟩ := DataW.trod_bool Try.underlying4 t12
  obtain ⟨y13, z13⟩ := some_at hxl (i := 13) (by omega)
  have t13 : DataW.trod enc Try.prog W base spare held n 4 (([a0, a1, a2, a3, a4, a5, a6, a7, a8, a9, a10, a11, a12, a13, a14, a15, a16, a17, a18, a19, a20].drop 13).take (Try.prog.cellsOf 4)) = xs[13]? := hat 13 _ rfl
  rw [cellsBool, z13] at t13
  obtain ⟨s13, r13, _⟩ := DataW.trod_bool Try.underlying4 t13
  obtain ⟨y14, z14⟩ := some_at hxl (i := 14) (by omega)
  have t14 : DataW.trod enc Try.prog W base spare held n 4 (([a0, a1, a2, a3, a4, a5, a6, a7, a8, a9, a10, a11, a12, a13, a14, a15, a16, a17, a18, a19, a20].drop 14).take (Try.prog.cellsOf 4)) = xs[14]? := hat 14 _ rfl
  rw [cellsBool, z14] at t14
  obtain ⟨s14, r14, _⟩ := DataW.trod_bool Try.underlying4 t14
  obtain ⟨y15, z15⟩ := some_at hxl (i := 15) (by omega)
  have t15 : DataW.trod enc Try.prog W base spare held n 4 (([a0, a1, a2, a3, a4, a5, a6, a7, a8, a9, a10, a11, a12, a13, a14, a15, a16, a17, a18, a19, a20].drop 15).take (Try.prog.cellsOf 4)) = xs[15]? := hat 15 _ rfl
  rw [cellsBool, z15] at t15
  obtain ⟨s15, r15, _⟩ := DataW.trod_bool Try.underlying4 t15
  obtain ⟨y16, z16⟩ := some_at hxl (i := 16) (by omega)
  have t16 : DataW.trod enc Try.prog W base spare held n 4 (([a0, a1, a2, a3, a4, a5, a6, a7, a8, a9, a10, a11, a12, a13, a14, a15, a16, a17, a18, a19, a20].drop 16).take (Try.prog.cellsOf 4)) = xs[16]? := hat 16 _ rfl
  rw [cellsBool, z16] at t16
  obtain ⟨s16, r16, _⟩ := DataW.trod_bool Try.underlying4 t16
  obtain ⟨y17, z17⟩ := some_at hxl (i := 17) (by omega)
  have t17 : DataW.trod enc Try.prog W base spare held n 4 (([a0, a1, a2, a3, a4, a5, a6, a7, a8, a9, a10, a11, a12, a13, a14, a15, a16, a17, a18, a19, a20].drop 17).take (Try.prog.cellsOf 4)) = xs[17]? := hat 17 _ rfl
  rw [cellsBool, z17] at t17
  obtain ⟨s17, r17, _⟩ := DataW.trod_bool Try.underlying4 t17
  obtain ⟨y18, z18⟩ := some_at hxl (i := 18) (by omega)
  have t18 : DataW.trod enc Try.prog W base spare held n 3 (([a0, a1, a2, a3, a4, a5, a6, a7, a8, a9, a10, a11, a12, a13, a14, a15, a16, a17, a18, a19, a20].drop 18).take (Try.prog.cellsOf 3)) = xs[18]? := hat 18 _ rfl
  rw [cellsInt, z18] at t18
  obtain ⟨s18, r18, _⟩ := DataW.trod_int Try.underlying3 t18
  obtain ⟨y19, z19⟩ := some_at hxl (i := 19) (by omega)
  have t19 : DataW.trod enc Try.prog W base spare held n 3 (([a0, a1, a2, a3, a4, a5, a6, a7, a8, a9, a10, a11, a12, a13, a14, a15, a16, a17, a18, a19, a20].drop 19).take (Try.prog.cellsOf 3)) = xs[19]? := hat 19 _ rfl
  rw [cellsInt, z19] at t19
  obtain ⟨s19, r19, _⟩ := DataW.trod_int Try.underlying3 t19
  obtain ⟨y20, z20⟩ := some_at hxl (i := 20) (by omega)
  have t20 : DataW.trod enc Try.prog W base spare held n 3 (([a0, a1, a2, a3, a4, a5, a6, a7, a8, a9, a10, a11, a12, a13, a14, a15, a16, a17, a18, a19, a20].drop 20).take (Try.prog.cellsOf 3)) = xs[20]? := hat 20 _ rfl
  rw [cellsInt, z20] at t20
  obtain ⟨s20, r20, _⟩ := DataW.trod_int Try.underlying3 t20
  simp only [List.drop_zero, List.drop_succ_cons, List.take_succ_cons, List.take_zero, List.cons.injEq, and_true] at r0 r1 r2 r3 r4 r5 r6 r7 r8 r9 r10 r11 r12 r13 r14 r15 r16 r17 r18 r19 r20
  subst r0 r1 r2 r3 r4 r5 r6 r7 r8 r9 r10 r11 r12 r13 r14 r15 r16 r17 r18 r19 r20
  exact ⟨s0, s1, s2, s3, s4, s5, s6, s7, s8, s9, s10, s11, s12, s13, s14, s15, s16, s17, s18, s19, s20, rfl⟩
theorem reach47 : reachBytes ≤ 140737488355328 := by decide
set_option maxRecDepth 100000 in
theorem which_lifted (os : Os) (started : os.Started) (H : Type) (enc : TypeId × Value → H) :
    ReturnsInHanded {} Try.checked os 3 .any (Rows.dropWhichSpec.pre6 enc Try.prog Try.f3 Rows.dropWhichRow.domain false) (Rows.dropWhichSpec.post enc Try.prog Try.f3 false true false false) := by
  refine returnsInHanded_of_change_sized (C := Try.checked) own started (by kernel_rfl) Try.func3
    (ChangeSpec.witness6 (enc := enc) (C := Try.checked) false ⟨#[], #[.slice none 0 0, .slice none 0 0, .slice none 0 0, .agg #[.int .i64 0, .int .i64 0, .bool false, .bool false, .bool false, .bool false, .bool false, .bool false, .bool false, .bool false, .bool false, .bool false, .bool false, .bool false, .bool false, .bool false, .bool false, .bool false, .int .i64 0, .int .i64 0, .int .i64 0]], []⟩ 8 (by kernel_rfl) (by kernel_rfl) (by kernel_rfl) (by kernel_rfl)) ?_
  intro W base args ds gs before hval0 hW _ hz0 _
  have hval : ∀ (j : Nat) t v, Try.f3.params[j]? = some t → args[j]? = some v → Value.okWide Try.prog W .any base t v := hval0
  have hz : (DataW.weightsEach Try.prog (Try.f3.params.toList ++ Rows.dropWhichSpec.plain.varTypes Try.prog) (ds ++ gs)).all (· ≤ reachBytes) = true := hz0
  clear hz0
  have hW' := hW
  obtain ⟨p, q, hA0, hV, rfl, hfz, hnd⟩ := hW
  have hA : DataW.TrodAll enc Try.prog W 0 (fun _ => true) true Try.f3.params.toList args.toList ds p := hA0
  rw [Try.params3] at hA hval hz
  obtain ⟨v0, v1, v2, v3, d0, d1, d2, d3, p0, p1, p2, p3, rfl, rfl, rfl, h0, h1, h2, h3⟩ := trodAll_four hA
  obtain ⟨rfl, rfl⟩ := trodVars_none hV
  have hwt : ∀ {j : Nat} {t : TypeId} {d : DataW H}, ((#[22, 22, 23, 25] : Array TypeId).toList ++ Rows.dropWhichSpec.plain.varTypes Try.prog)[j]? = some t → (([d0, d1, d2, d3] : List (DataW H)) ++ [])[j]? = some d → ∀ k ∈ d.weights Try.prog t, k ≤ 140737488355328 := fun ht hd k hk => by
    have := List.all_eq_true.1 hz _ (DataW.weights_mem_each ht hd k hk)
    have h2 : k ≤ reachBytes := by simpa using this
    exact Nat.le_trans h2 reach47
  obtain ⟨A0, n0, c0, L0, rfl, hnc0, hsl0⟩ := open_ents (hval 0 22 v0 rfl rfl) h0
  obtain ⟨A1, n1, c1, L1, rfl, hnc1, hsl1⟩ := open_ents (hval 1 22 v1 rfl rfl) h1
  obtain ⟨A2, n2, c2, L2, rfl, hnc2, hsl2, hpat⟩ := open_rules (hval 2 23 v2 rfl rfl) h2 (hwt (j := 2) rfl rfl)
  obtain ⟨del, most, b0, b1, b2, b3, b4, b5, b6, b7, b8, b9, b10, b11, b12, b13, b14, b15, i0, i1, i2, rfl⟩ := open_opts (hval 3 25 v3 rfl rfl) h3
  have hlt : ∀ x ∈ p0 ++ (p1 ++ (p2 ++ p3)), x.block < W.heap.size := fun x hx => hW'.lt x (by simpa using hx)
  have hlt0 : ∀ x ∈ p0, x.block < W.heap.size := fun x hx => hlt x (List.mem_append_left _ hx)
  have hlt1 : ∀ x ∈ p1, x.block < W.heap.size := fun x hx => hlt x (List.mem_append_right _ (List.mem_append_left _ hx))
  have hlt2 : ∀ x ∈ p2, x.block < W.heap.size := fun x hx => hlt x (List.mem_append_right _ (List.mem_append_right _ (List.mem_append_left _ hx)))
  have hlt3 : ∀ x ∈ p3, x.block < W.heap.size := fun x hx => hlt x (List.mem_append_right _ (List.mem_append_right _ (List.mem_append_right _ hx)))
  refine (dropWhich_any A0 n0 c0 A1 n1 c1 A2 n2 c2 L0 L1 L2 del most b0 b1 b2 b3 b4 b5 b6 b7 b8 b9 b10 b11 b12 b13 b14 b15 i0 i1 i2 W hsl0 hsl1 hsl2 hpat hnc0 hnc1).mono fun e W' ⟨he, hb⟩ => ?_
  subst he
  refine ⟨_, rfl, _, _, _, [], (p0 ++ (p1 ++ (p2 ++ p3))), [], hW', ?_, ?_, rfl, hb.frame _, fun h => by cases h⟩
  · exact trodAll_mk1 (shut_bool Try.underlying4 true)
  · exact trodAll_mk4 (Below.trod laidOut (by kernel_rfl) (of_decide_eq_true (by kernel_rfl)) h0 hb hlt0) (Below.trod laidOut (by kernel_rfl) (of_decide_eq_true (by kernel_rfl)) h1 hb hlt1) (Below.trod laidOut (by kernel_rfl) (of_decide_eq_true (by kernel_rfl)) h2 hb hlt2) (Below.trod laidOut (by kernel_rfl) (of_decide_eq_true (by kernel_rfl)) h3 hb hlt3)

theorem dropWhich_holds : Rows.DropWhichSaid :=
  OpenClaim.holds_of_wide 3 Try.f3 rfl rfl rfl rfl rfl rfl rfl ⟨rfl, rfl, rfl, rfl, rfl⟩ rfl rfl rfl rfl rfl (by kernel_rfl) Try.func3 (by kernel_rfl)
    (of_decide_eq_true (by kernel_rfl)) (by unfold Func.isWrapper; first | (rw [if_pos (by decide +kernel)]; kernel_rfl) | (rw [if_neg (by decide +kernel)]; exact ⟨rfl, rfl⟩))
    (fun os started H enc _ => which_lifted os started H enc)
end Go.Proofs.Ytcagonpnjionhaa
