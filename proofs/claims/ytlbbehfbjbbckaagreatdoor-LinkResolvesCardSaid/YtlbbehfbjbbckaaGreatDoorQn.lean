import Derived.Test.YtlbbehfbjbbckaaGreatDoorQm
/-! The document's Sort of paths. -/
set_option linter.unusedVariables false
set_option linter.unusedSimpArgs false
namespace Go.Proofs.YtlbbehfbjbbckaaGreatDoor
open Go.RowKit
attribute [local go_sem] str_toList

theorem own_strs {w : World} {base n : Nat} {v : Value} {L : List (List UInt8)} (h : w.ownsRow base 9 1 v n (strs L)) (hn : n ≤ 9223372036854775807) : ∃ A c, v = .slice A n c ∧ n ≤ c ∧ c ≤ 9223372036854775807 ∧ Sl 1 w A n (strs L) := by
  obtain ⟨h1, h2⟩ := h
  rcases h2 with ⟨rfl, rfl⟩ | ⟨g, cap, cur, rfl, hg, hh, h3, h4, h5, h6⟩
  · have : L = [] := by
      have : (strs L).length = 0 := by simpa using h1
      simpa [strs] using this
    subst this
    exact ⟨none, 0, rfl, Nat.le_refl _, Nat.zero_le _, Sl.nil _ _ _⟩
  · refine ⟨_, cap, rfl, h3, h4, h1, hn, .inr ⟨g, 0, rfl, fun j v hj => ?_⟩⟩
    rw [Nat.zero_add, cell_of_row w g j cur 9 _ hh]
    rw [← h6, List.getElem?_take] at hj
    split at hj
    · rwa [Array.getElem?_toList] at hj
    · cases hj
theorem Sl.dropS {w : World} {A : Option Addr} {n : Nat} {X : List (List UInt8)} (h : Sl 1 w A n (strs X)) (m c : Nat) (hm : m ≤ n) (hc : n ≤ c) : Sl 1 w (subAt A m c 1) (n - m) (strs (X.drop m)) := by
  have hl : X.length = n := by have := h.len; rw [strs_len] at this; omega
  refine ⟨by rw [strs_len, List.length_drop]; omega, by have := h.max; omega, ?_⟩
  by_cases e : m = n
  · left
    rw [List.drop_eq_nil_of_le (by omega)]; rfl
  rcases h.at_ with h0 | ⟨b, o, rfl, hc'⟩
  · have : X = [] := by simpa [strs] using h0
    subst this
    simp at hl; omega
  · right
    refine ⟨b, o + m, ?_, fun j v hj => ?_⟩
    · unfold subAt
      rw [if_neg (by omega), Nat.mul_one]; simp [Addr.add]
    · have : (strs X)[m + j]? = some v := by
        rw [← hj]; simp [strs, List.getElem?_drop]
      rw [Nat.add_assoc]; exact hc' _ v this
theorem strs_app (a b : List (List UInt8)) : strs (a ++ b) = strs a ++ strs b := by simp [strs]
theorem one_strs (L : List (List UInt8)) : ∀ u ∈ strs L, u.oneCell' = true := by
  intro u hu
  simp [strs] at hu
  obtain ⟨x, _, rfl⟩ := hu
  rfl
set_option maxRecDepth 100000 in
set_option maxHeartbeats 16000000 in
theorem refSort_core (n : Nat) (ih : ∀ m, m < n → ∀ (A : Option Addr) (c : Nat) (L : List (List UInt8)) (w : World), m ≤ c → Sl 1 w A m (strs L) → (∀ x ∈ L, x.length ≤ 2097152) →
      Calls Tryz.prog 71 #[.slice A m c] w fun e w' => (∃ v L', e = .returned v ∧ w'.ownsRow w.heap.size 9 1 v m (strs L') ∧ L'.Perm L ∧ SortedL L') ∧ Below w.heap.size w w')
    (A : Option Addr) (c : Nat) (L : List (List UInt8)) (w : World) (hnc : n ≤ c) (hs : Sl 1 w A n (strs L)) (hL : ∀ x ∈ L, x.length ≤ 2097152) (hn : n ≤ 1000000) :
    Calls Tryz.prog 71 #[.slice A n c] w fun e w' => (∃ v L', e = .returned v ∧ w'.ownsRow w.heap.size 9 1 v n (strs L') ∧ L'.Perm L ∧ SortedL L') ∧ Below w.heap.size w w' := by
  obtain ⟨i0, hi0, hz0, hz1, hz2⟩ := info_parts infoS
  have hlen : L.length = n := by have := hs.len; rw [strs_len] at this; omega
  rcases Nat.lt_or_ge n 2 with h2 | h2
  · obtain ⟨v', w', hap, hown, hg⟩ := run_append_sl (P := Tryz.prog) (w := w) w.heap.size 35 35 9 i0 _ 1 16 Tryz.underlying35 hi0 hz0 hz1 hz2 rfl (by decide) (World.ownsRow_nil _ _ _ _) (c := c) hs (one_strs L) (by omega) (by omega) (Nat.le_refl _)
    rw [List.nil_append, Nat.zero_add] at hown
    have hgb : Below w.heap.size w w' := (Below.refl w.heap.size w).grown hg (Nat.le_refl _) (fun k hk => by cases hk)
    have K := Lib.hid (show (∃ v L', Ending.returned v' = .returned v ∧ w'.ownsRow w.heap.size 9 1 v n (strs L') ∧ L'.Perm L ∧ SortedL L') ∧ Below w.heap.size w w' from ⟨⟨v', L, rfl, hown, List.Perm.refl _, sorted_short (by omega)⟩, hgb⟩)
    obtain ⟨A1, c1, rfl, _⟩ := own_strs hown (by omega)
    have z1 : (n : Int) < 2 := by omega
    clear hown hg hgb hs ih hlen
    go_enter Tryz.func71, Tryz.ntmps71
    go_wp2_with (at_builtin; refine halt_in ?_)
    refine Halted.out (wpList_append_run rfl _ _ _ _ rfl rfl rfl hap ?_)
    go_wp2_with fail
    go_ret
    exact K.out
  · obtain ⟨m, hm⟩ : ∃ m, m = n / 2 := ⟨_, rfl⟩
    have z1 : ¬ (n : Int) < 2 := by omega
    have z3 : (n : Int).tdiv 2 = (m : Int) := by rw [Int.tdiv_eq_ediv_of_nonneg (by omega)]; omega
    have z4 : (n : Int) / 2 = (m : Int) := by omega
    have z5 : IntKind.i64.wrap (m : Int) = (m : Int) := by rw [IntKind.wrap_i64]; omega
    have hsl1 : ∀ w : World, (Instr.slice 35 (.slice A n c) none (some (.int .i64 (m : Int))) none).run Tryz.prog w = .ok (.slice (subAt A 0 c 1) m c) w := fun w => run_slice_to undSt elemSt hi0 hz1 A n c m (by omega) .i64 _ rfl
    have hsl2 : ∀ w : World, (Instr.slice 35 (.slice A n c) (some (.int .i64 (m : Int))) none none).run Tryz.prog w = .ok (.slice (subAt A m c 1) (n - m) (c - m)) w := fun w => run_slice_from undSt elemSt hi0 hz1 A n c m (by omega) .i64 _ rfl
    have HI1 := Lib.hid (fun w' (hb : Below w.heap.size w w') => ih m (by omega) (subAt A 0 c 1) c (L.take m) w' (by omega) ((hs.below hb).head m c (by omega)) (fun x hx => hL x (List.mem_of_mem_take hx)))
    have HI2 := Lib.hid (fun w' (hb : Below w.heap.size w w') => ih (n - m) (by omega) (subAt A m c 1) (c - m) (L.drop m) w' (by omega) ((hs.below hb).dropS m c (by omega) hnc) (fun x hx => hL x (List.mem_of_mem_drop hx)))
    have HM := Lib.hid (show m ≤ n ∧ n ≤ 1000000 from ⟨by omega, hn⟩)
    have HL := Lib.hid hL
    have HLN := Lib.hid hlen
    clear hs hL ih hm h2 hlen hnc
    go_enter Tryz.func71, Tryz.ntmps71
    go_wp2_with fail
    refine wp_region_held_drew (S := fun w' => Below (w.drew).heap.size (w.drew) w') (by kernel_rfl) (Below.refl _ _) (fun hHeld => ?_)
    refine wpAnyH_take (i := 0) (oi := ?oi1) (v := ?v1) ?hi1 ?hs1 ?hf1 ?hr1 ?hQ1 (Or.inl ⟨?hg1, ?hy1⟩) hHeld ?rest1
    case hi1 => simp only [List.getElem?_toArray, List.getElem?_cons_succ, List.getElem?_cons_zero]; rfl
    case hs1 => kernel_rfl
    case hf1 => kernel_rfl
    case hr1 => kernel_rfl
    case hg1 => rfl
    case hy1 => (intro w hSw; first | (go_simp; done) | (go_simp; with_reducible rfl))
    case hQ1 => exact fun _ _ _ h => h
    try simp only [Act.put, List.setIfInBounds_toArray, List.set_cons_zero, List.set_cons_succ]
    refine wpAnyH_take (i := 1) (oi := ?oi2) (v := ?v2) ?hi2 ?hs2 ?hf2 ?hr2 ?hQ2 (Or.inl ⟨?hg2, ?hy2⟩) hHeld ?rest2
    case hi2 => simp only [List.getElem?_toArray, List.getElem?_cons_succ, List.getElem?_cons_zero]; rfl
    case hs2 => kernel_rfl
    case hf2 => kernel_rfl
    case hr2 => kernel_rfl
    case hg2 => rfl
    case hy2 => (intro w hSw; first | (go_simp; done) | (go_simp; with_reducible rfl))
    case hQ2 => exact fun _ _ _ h => h
    try simp only [Act.put, List.setIfInBounds_toArray, List.set_cons_zero, List.set_cons_succ]
    refine wpAnyH_take (i := 2) (oi := ?oi3) (v := ?v3) ?hi3 ?hs3 ?hf3 ?hr3 ?hQ3 (Or.inl ⟨?hg3, ?hy3⟩) hHeld ?rest3
    case hi3 => simp only [List.getElem?_toArray, List.getElem?_cons_succ, List.getElem?_cons_zero]; rfl
    case hs3 => kernel_rfl
    case hf3 => kernel_rfl
    case hr3 => kernel_rfl
    case hg3 => rfl
    case hy3 => (intro w hSw; first | (go_simp; done) | (go_simp; with_reducible rfl))
    case hQ3 => exact fun _ _ _ h => h
    try simp only [Act.put, List.setIfInBounds_toArray, List.set_cons_zero, List.set_cons_succ]
    refine wpAnyH_take (i := 3) (oi := ?oi4) (v := ?v4) ?hi4 ?hs4 ?hf4 ?hr4 ?hQ4 (Or.inl ⟨?hg4, ?hy4⟩) hHeld ?rest4
    case hi4 => simp only [List.getElem?_toArray, List.getElem?_cons_succ, List.getElem?_cons_zero]; rfl
    case hs4 => kernel_rfl
    case hf4 => kernel_rfl
    case hr4 => kernel_rfl
    case hg4 => rfl
    case hy4 => (intro w hSw; first | (go_simp; done) | (go_simp; with_reducible rfl))
    case hQ4 => exact fun _ _ _ h => h
    try simp only [Act.put, List.setIfInBounds_toArray, List.set_cons_zero, List.set_cons_succ]
    refine wpAnyH_take (i := 4) (oi := ?oi5) (v := ?v5) ?hi5 ?hs5 ?hf5 ?hr5 ?hQ5 (Or.inl ⟨?hg5, ?hy5⟩) hHeld ?rest5
    case hi5 => simp only [List.getElem?_toArray, List.getElem?_cons_succ, List.getElem?_cons_zero]; rfl
    case hs5 => kernel_rfl
    case hf5 => kernel_rfl
    case hr5 => kernel_rfl
    case hg5 => rfl
    case hy5 => (intro w hSw; have x0 := hsl1; first | (go_simp; done) | (go_simp; with_reducible rfl))
    case hQ5 => exact fun _ _ _ h => h
    try simp only [Act.put, List.setIfInBounds_toArray, List.set_cons_zero, List.set_cons_succ]
    refine wpAnyH_take (i := 6) (oi := ?oi6) (v := ?v6) ?hi6 ?hs6 ?hf6 ?hr6 ?hQ6 (Or.inl ⟨?hg6, ?hy6⟩) hHeld ?rest6
    case hi6 => simp only [List.getElem?_toArray, List.getElem?_cons_succ, List.getElem?_cons_zero]; rfl
    case hs6 => kernel_rfl
    case hf6 => kernel_rfl
    case hr6 => kernel_rfl
    case hg6 => rfl
    case hy6 => (intro w hSw; first | (go_simp; done) | (go_simp; with_reducible rfl))
    case hQ6 => exact fun _ _ _ h => h
    try simp only [Act.put, List.setIfInBounds_toArray, List.set_cons_zero, List.set_cons_succ]
    refine wpAnyH_take (i := 7) (oi := ?oi7) (v := ?v7) ?hi7 ?hs7 ?hf7 ?hr7 ?hQ7 (Or.inl ⟨?hg7, ?hy7⟩) hHeld ?rest7
    case hi7 => simp only [List.getElem?_toArray, List.getElem?_cons_succ, List.getElem?_cons_zero]; rfl
    case hs7 => kernel_rfl
    case hf7 => kernel_rfl
    case hr7 => kernel_rfl
    case hg7 => rfl
    case hy7 => (intro w hSw; first | (go_simp; done) | (go_simp; with_reducible rfl))
    case hQ7 => exact fun _ _ _ h => h
    try simp only [Act.put, List.setIfInBounds_toArray, List.set_cons_zero, List.set_cons_succ]
    refine wpAnyH_take (i := 8) (oi := ?oi8) (v := ?v8) ?hi8 ?hs8 ?hf8 ?hr8 ?hQ8 (Or.inl ⟨?hg8, ?hy8⟩) hHeld ?rest8
    case hi8 => simp only [List.getElem?_toArray, List.getElem?_cons_succ, List.getElem?_cons_zero]; rfl
    case hs8 => kernel_rfl
    case hf8 => kernel_rfl
    case hr8 => kernel_rfl
    case hg8 => rfl
    case hy8 => (intro w hSw; first | (go_simp; done) | (go_simp; with_reducible rfl))
    case hQ8 => exact fun _ _ _ h => h
    try simp only [Act.put, List.setIfInBounds_toArray, List.set_cons_zero, List.set_cons_succ]
    refine wpAnyH_take (i := 9) (oi := ?oi9) (v := ?v9) ?hi9 ?hs9 ?hf9 ?hr9 ?hQ9 (Or.inl ⟨?hg9, ?hy9⟩) hHeld ?rest9
    case hi9 => simp only [List.getElem?_toArray, List.getElem?_cons_succ, List.getElem?_cons_zero]; rfl
    case hs9 => kernel_rfl
    case hf9 => kernel_rfl
    case hr9 => kernel_rfl
    case hg9 => rfl
    case hy9 => (intro w hSw; first | (go_simp; done) | (go_simp; with_reducible rfl))
    case hQ9 => exact fun _ _ _ h => h
    try simp only [Act.put, List.setIfInBounds_toArray, List.set_cons_zero, List.set_cons_succ]
    refine wpAnyH_take (i := 10) (oi := ?oi10) (v := ?v10) ?hi10 ?hs10 ?hf10 ?hr10 ?hQ10 (Or.inl ⟨?hg10, ?hy10⟩) hHeld ?rest10
    case hi10 => simp only [List.getElem?_toArray, List.getElem?_cons_succ, List.getElem?_cons_zero]; rfl
    case hs10 => kernel_rfl
    case hf10 => kernel_rfl
    case hr10 => kernel_rfl
    case hg10 => rfl
    case hy10 => (intro w hSw; have x0 := hsl2; first | (go_simp; done) | (go_simp; with_reducible rfl))
    case hQ10 => exact fun _ _ _ h => h
    try simp only [Act.put, List.setIfInBounds_toArray, List.set_cons_zero, List.set_cons_succ]
    refine wpAnyH_ready (rs := [5]) (by kernel_rfl) (by simp) ?_
    refine AllReadyH.cons (o := ?oi11) ?hi11 (fun K hK => ?_) AllReadyH.nil
    case hi11 => simp only [List.getElem?_toArray, List.getElem?_cons_succ, List.getElem?_cons_zero]; rfl
    go_simp; go_at_call 71; refine (HI1.out _ ((Below.refl w.heap.size w).drew)).mono ?_; rintro e w1 ⟨⟨va, La, rfl, hoa, hpa, hsa⟩, hb1⟩; go_wp2_with fail
    refine hK.out _ _ (hb1) (fun _ => ?_)
    clear hK K hHeld
    refine wpAnyH_change (S' := fun w' => Below (w1).heap.size (w1) w') (fun w' h => (hb1).trans (h.mono (hb1).size)) _ _ _ _ ?_
    have hHeld : Below (w1).heap.size (w1) (w1) := Below.refl _ _
    try simp only [Act.put, List.setIfInBounds_toArray, List.set_cons_zero, List.set_cons_succ]
    have OA := Lib.hid hoa
    have PA := Lib.hid hpa
    have SA := Lib.hid hsa
    have B1 := Lib.hid (((Below.refl w.heap.size w).drew).trans hb1)
    clear hoa hpa hsa hb1
    refine wpAnyH_ready (rs := [11]) (by kernel_rfl) (by simp) ?_
    refine AllReadyH.cons (o := ?oi12) ?hi12 (fun K hK => ?_) AllReadyH.nil
    case hi12 => simp only [List.getElem?_toArray, List.getElem?_cons_succ, List.getElem?_cons_zero]; rfl
    go_simp; go_at_call 71; refine (HI2.out w1 B1.out).mono ?_; rintro e w2 ⟨⟨vb, Lb, rfl, hob, hpb, hsb⟩, hb2⟩; go_wp2_with fail
    refine hK.out _ _ (hb2) (fun _ => ?_)
    clear hK K hHeld
    refine wpAnyH_change (S' := fun w' => Below (w2).heap.size (w2) w') (fun w' h => (hb2).trans (h.mono (hb2).size)) _ _ _ _ ?_
    have hHeld : Below (w2).heap.size (w2) (w2) := Below.refl _ _
    try simp only [Act.put, List.setIfInBounds_toArray, List.set_cons_zero, List.set_cons_succ]
    have OB := Lib.hid hob
    have PB := Lib.hid hpb
    have SB := Lib.hid hsb
    have OA2 := Lib.hid (row_heap OA.out (fun b hb => hb2.block b (row_lt OA.out hb).2))
    have B2 := Lib.hid (B1.out.trans (hb2.mono B1.out.size))
    clear hob hpb hsb hb2 OA B1 HI1 HI2
    refine wpAnyH_take (i := 12) (oi := ?oi13) (v := ?v13) ?hi13 ?hs13 ?hf13 ?hr13 ?hQ13 (Or.inl ⟨?hg13, ?hy13⟩) hHeld ?rest13
    case hi13 => simp only [List.getElem?_toArray, List.getElem?_cons_succ, List.getElem?_cons_zero]; rfl
    case hs13 => kernel_rfl
    case hf13 => kernel_rfl
    case hr13 => kernel_rfl
    case hg13 => rfl
    case hy13 => (intro w hSw; first | (go_simp; done) | (go_simp; with_reducible rfl))
    case hQ13 => exact fun _ _ _ h => h
    try simp only [Act.put, List.setIfInBounds_toArray, List.set_cons_zero, List.set_cons_succ]
    refine wpAnyH_take (i := 13) (oi := ?oi14) (v := ?v14) ?hi14 ?hs14 ?hf14 ?hr14 ?hQ14 (Or.inl ⟨?hg14, ?hy14⟩) hHeld ?rest14
    case hi14 => simp only [List.getElem?_toArray, List.getElem?_cons_succ, List.getElem?_cons_zero]; rfl
    case hs14 => kernel_rfl
    case hf14 => kernel_rfl
    case hr14 => kernel_rfl
    case hg14 => rfl
    case hy14 => (intro w hSw; first | (go_simp; done) | (go_simp; with_reducible rfl))
    case hQ14 => exact fun _ _ _ h => h
    try simp only [Act.put, List.setIfInBounds_toArray, List.set_cons_zero, List.set_cons_succ]
    refine wpAnyH_done (by kernel_rfl) ?_ _
    clear hHeld
    obtain ⟨Aa, ca, rfl, hca, hca2, hsla⟩ := own_strs OA2.out (by have := HM.out; omega)
    obtain ⟨Ab, cb, rfl, hcb, hcb2, hslb⟩ := own_strs OB.out (by have := HM.out; omega)
    have HSA := Lib.hid hsla
    have HSB := Lib.hid hslb
    have HST := Lib.hid (MergeI.start (L := L) ((PA.out.append PB.out).trans (by rw [List.take_append_drop])) SA.out SB.out)
    have HMEM := Lib.hid (fun (out X Y : List (List UInt8)) (M : MergeI L out X Y) => (show ∀ x, x ∈ X ∨ x ∈ Y → x.length ≤ 2097152 from fun x hx => HL.out x (M.perm.mem_iff.1 (by simp; exact .inr hx))))
    have HCNT := Lib.hid (fun (out X Y : List (List UInt8)) (M : MergeI L out X Y) => (show out.length + (X.length + Y.length) = n from by have := M.perm.length_eq; simp at this; rw [HLN.out] at this; omega))
    clear hsla hslb z1 z3 z4 z5 hsl1 hsl2 OA2 OB PA PB SA SB
    go_wp2_with fail
    go_loopw [4, 5, 6] (fun va vb vo wr => ∃ (A1 : Option Addr) (n1 c1 : Nat) (A2 : Option Addr) (n2 c2 : Nat) (X Y out : List (List UInt8)), va = .slice A1 n1 c1 ∧ vb = .slice A2 n2 c2 ∧ n1 ≤ c1 ∧ n2 ≤ c2 ∧ Sl 1 w2 A1 n1 (strs X) ∧ Sl 1 w2 A2 n2 (strs Y) ∧ wr.ownsRow w2.heap.size 9 1 vo out.length (strs out) ∧ MergeI L out X Y ∧ Below w2.heap.size w2 wr) (fun va vb _ _ => (match va with | .slice _ k _ => k | _ => 0) + (match vb with | .slice _ k _ => k | _ => 0))
    case atStart => exact ⟨Aa, m, ca, Ab, n - m, cb, La, Lb, [], rfl, rfl, hca, hcb, HSA.out, HSB.out, World.ownsRow_nil _ _ _ _, HST.out, Below.refl _ _⟩
    case round =>
      obtain ⟨A1, n1, c1, A2, n2, c2, X, Y, out, rfl, rfl, h1, h2, hX, hY, hO, hMg, hb⟩ := hrel
      have HX := Lib.hid hX
      have HY := Lib.hid hY
      have HO := Lib.hid hO
      have HG := Lib.hid hMg
      have HB := Lib.hid hb
      have hl1 : X.length = n1 := by have := hX.len; rw [strs_len] at this; omega
      have hl2 : Y.length = n2 := by have := hY.len; rw [strs_len] at this; omega
      have hct := HCNT.out out X Y hMg
      rw [hl1, hl2] at hct
      obtain ⟨Ao, co, rfl, hco, hco2, hso⟩ := own_strs hO (by have := HM.out; omega)
      have HL1 := Lib.hid hl1
      have HL2 := Lib.hid hl2
      have HCT := Lib.hid hct
      clear hX hY hO hMg hb hl1 hl2 hso
      by_cases hfin : n1 = 0 ∨ n2 = 0
      · have hD := HG.out.done (by
          rcases hfin with e | e
          · left; have := HL1.out; rw [e] at this; exact List.eq_nil_of_length_eq_zero this
          · right; have := HL2.out; rw [e] at this; exact List.eq_nil_of_length_eq_zero this)
        obtain ⟨v4, w4, hap4, hown4, hg4⟩ := run_append_sl (P := Tryz.prog) (w := wr) w2.heap.size 35 35 9 i0 _ 1 16 Tryz.underlying35 hi0 hz0 hz1 hz2 rfl (by decide) HO.out (c := c1) (HX.out.below HB.out) (one_strs X) (by have := HM.out; omega) (by have := HM.out; omega) HB.out.size
        have hb4 : Below w2.heap.size w2 w4 := HB.out.grown hg4 HB.out.size (fun k hk => (row_lt HO.out hk).1)
        obtain ⟨v5, w5, hap5, hown5, hg5⟩ := run_append_sl (P := Tryz.prog) (w := w4) w2.heap.size 35 35 9 i0 _ 1 16 Tryz.underlying35 hi0 hz0 hz1 hz2 rfl (by decide) hown4 (c := c2) (HY.out.below hb4) (one_strs Y) (by have := HM.out; omega) (by have := HM.out; omega) hb4.size
        have hb5 : Below w2.heap.size w2 w5 := hb4.grown hg5 hb4.size (fun k hk => (row_lt hown4 hk).1)
        have e5 : out.length + n1 + n2 = n := by omega
        rw [← strs_app, ← strs_app, e5] at hown5
        have K := Lib.hid (show (∃ v L', Ending.returned v5 = .returned v ∧ w5.ownsRow w.heap.size 9 1 v n (strs L') ∧ L'.Perm L ∧ SortedL L') ∧ Below w.heap.size w w5 from
          ⟨⟨v5, _, rfl, ⟨hown5.1, hown5.2.imp id (fun ⟨g, cap, cur, a, b, r⟩ => ⟨g, cap, cur, a, Nat.le_trans B2.out.size b, r⟩)⟩, hD.2, hD.1⟩, B2.out.trans (hb5.mono B2.out.size)⟩)
        have hown4' := hown4
        rw [← strs_app] at hown4'
        obtain ⟨A4, c4, rfl, _⟩ := own_strs hown4' (by have := HM.out; omega)
        obtain ⟨A5, c5, rfl, _⟩ := own_strs hown5 (by have := HM.out; omega)
        clear hD hown4 hown4' hown5 hg4 hg5 hb4 hb5 e5 hct
        by_cases e1 : n1 = 0
        · subst e1
          clear hfin
          go_wp2_with (at_builtin; refine halt_in ?_)
          refine Halted.out (wpList_append_run rfl _ _ _ _ rfl rfl rfl hap4 ?_)
          go_wp2_with (at_builtin; refine halt_in ?_)
          refine Halted.out (wpList_append_run rfl _ _ _ _ rfl rfl rfl hap5 ?_)
          go_wp2_with fail
          go_ret
          exact K.out
        · obtain rfl : n2 = 0 := by omega
          have y1 : (0 : Int) < (n1 : Int) := by omega
          have y2 : decide ((0 : Int) < (n1 : Int)) = true := decide_eq_true y1
          clear hfin e1
          go_wp2_with (at_builtin; refine halt_in ?_)
          refine Halted.out (wpList_append_run rfl _ _ _ _ rfl rfl rfl hap4 ?_)
          go_wp2_with (at_builtin; refine halt_in ?_)
          refine Halted.out (wpList_append_run rfl _ _ _ _ rfl rfl rfl hap5 ?_)
          go_wp2_with fail
          go_ret
          exact K.out
      · obtain ⟨x, X, rfl⟩ : ∃ x X', X = x :: X' := by
          cases X with
          | nil => have := HL1.out; simp at this; omega
          | cons x X => exact ⟨x, X, rfl⟩
        obtain ⟨y, Y, rfl⟩ : ∃ y Y', Y = y :: Y' := by
          cases Y with
          | nil => have := HL2.out; simp at this; omega
          | cons y Y => exact ⟨y, Y, rfl⟩
        have hn1 : 0 < n1 := by omega
        have hn2 : 0 < n2 := by omega
        have y1 : (0 : Int) < (n1 : Int) := by omega
        have y2 : decide ((0 : Int) < (n1 : Int)) = true := decide_eq_true y1
        have y3 : (0 : Int) < (n2 : Int) := by omega
        have y4 : decide ((0 : Int) < (n2 : Int)) = true := decide_eq_true y3
        obtain ⟨b1, o1, x', rfl, hx', cx⟩ := (HX.out.below HB.out).strRow hn1
        obtain ⟨b2, o2, y', rfl, hy', cy⟩ := (HY.out.below HB.out).strRow hn2
        obtain rfl : x = x' := by simpa using hx'
        obtain rfl : y = y' := by simpa using hy'
        rw [Nat.add_zero] at cx cy
        have hxl := HMEM.out _ _ _ HG.out x (.inl (List.mem_cons_self ..))
        have hyl := HMEM.out _ _ _ HG.out y (.inr (List.mem_cons_self ..))
        have HLS := Lib.hid (fun w => refLess_any (str y) (str x) (splitB y) (splitB x) w (by rw [str_data]) (by rw [str_data]) (by rw [str_size]; exact hyl) (by rw [str_size]; exact hxl))
        have HTX := Lib.hid (HX.out.tailS h1).1
        have HTY := Lib.hid (HY.out.tailS h2).1
        have hslx : ∀ w : World, (Instr.slice 35 (.slice (some ⟨b1, o1, none⟩) n1 c1) (some (.int .i64 1)) none none).run Tryz.prog w = .ok (.slice (subAt (some ⟨b1, o1, none⟩) 1 c1 1) (n1 - 1) (c1 - 1)) w := fun w => run_slice_from undSt elemSt hi0 hz1 _ n1 c1 1 (by omega) .i64 1 rfl
        have hsly : ∀ w : World, (Instr.slice 35 (.slice (some ⟨b2, o2, none⟩) n2 c2) (some (.int .i64 1)) none none).run Tryz.prog w = .ok (.slice (subAt (some ⟨b2, o2, none⟩) 1 c2 1) (n2 - 1) (c2 - 1)) w := fun w => run_slice_from undSt elemSt hi0 hz1 _ n2 c2 1 (by omega) .i64 1 rfl
        have HNN := Lib.hid (show 0 < n1 ∧ n1 ≤ c1 ∧ 0 < n2 ∧ n2 ≤ c2 from ⟨hn1, h1, hn2, h2⟩)
        clear hx' hy' hxl hyl h1 h2 hfin hct hn1 hn2
        have cx0 := cx
        have cy0 := cy
        obtain ⟨sx, hsx⟩ : ∃ sx, str x = sx := ⟨_, rfl⟩
        obtain ⟨sy, hsy⟩ : ∃ sy, str y = sy := ⟨_, rfl⟩
        rw [hsx] at cx cx0 HLS
        rw [hsy] at cy cy0 HLS
        go_wp2_with fail
        refine wp_region_held_drew (S := fun w' => Below (wr.drew).heap.size (wr.drew) w') (by kernel_rfl) (Below.refl _ _) (fun hHeld => ?_)
        refine wpAnyH_take (i := 0) (oi := ?oi15) (v := ?v15) ?hi15 ?hs15 ?hf15 ?hr15 ?hQ15 (Or.inl ⟨?hg15, ?hy15⟩) hHeld ?rest15
        case hi15 => simp only [List.getElem?_toArray, List.getElem?_cons_succ, List.getElem?_cons_zero]; rfl
        case hs15 => kernel_rfl
        case hf15 => kernel_rfl
        case hr15 => kernel_rfl
        case hg15 => rfl
        case hy15 => (intro w hSw; first | (go_simp; done) | (go_simp; with_reducible rfl))
        case hQ15 => exact fun _ _ _ h => h
        try simp only [Act.put, List.setIfInBounds_toArray, List.set_cons_zero, List.set_cons_succ]
        refine wpAnyH_take (i := 1) (oi := ?oi16) (v := ?v16) ?hi16 ?hs16 ?hf16 ?hr16 ?hQ16 (Or.inl ⟨?hg16, ?hy16⟩) hHeld ?rest16
        case hi16 => simp only [List.getElem?_toArray, List.getElem?_cons_succ, List.getElem?_cons_zero]; rfl
        case hs16 => kernel_rfl
        case hf16 => kernel_rfl
        case hr16 => kernel_rfl
        case hg16 => rfl
        case hy16 => (intro w hSw; first | (go_simp; done) | (go_simp; with_reducible rfl))
        case hQ16 => exact fun _ _ _ h => h
        try simp only [Act.put, List.setIfInBounds_toArray, List.set_cons_zero, List.set_cons_succ]
        refine wpAnyH_take (i := 2) (oi := ?oi17) (v := ?v17) ?hi17 ?hs17 ?hf17 ?hr17 ?hQ17 (Or.inl ⟨?hg17, ?hy17⟩) hHeld ?rest17
        case hi17 => simp only [List.getElem?_toArray, List.getElem?_cons_succ, List.getElem?_cons_zero]; rfl
        case hs17 => kernel_rfl
        case hf17 => kernel_rfl
        case hr17 => kernel_rfl
        case hg17 => rfl
        case hy17 => (intro w hSw; have x0 := cell_below (w := wr.drew) cy hSw; first | (go_simp; done) | (go_simp; with_reducible rfl))
        case hQ17 => exact fun _ _ _ h => h
        try simp only [Act.put, List.setIfInBounds_toArray, List.set_cons_zero, List.set_cons_succ]
        refine wpAnyH_take (i := 3) (oi := ?oi18) (v := ?v18) ?hi18 ?hs18 ?hf18 ?hr18 ?hQ18 (Or.inl ⟨?hg18, ?hy18⟩) hHeld ?rest18
        case hi18 => simp only [List.getElem?_toArray, List.getElem?_cons_succ, List.getElem?_cons_zero]; rfl
        case hs18 => kernel_rfl
        case hf18 => kernel_rfl
        case hr18 => kernel_rfl
        case hg18 => rfl
        case hy18 => (intro w hSw; first | (go_simp; done) | (go_simp; with_reducible rfl))
        case hQ18 => exact fun _ _ _ h => h
        try simp only [Act.put, List.setIfInBounds_toArray, List.set_cons_zero, List.set_cons_succ]
        refine wpAnyH_take (i := 4) (oi := ?oi19) (v := ?v19) ?hi19 ?hs19 ?hf19 ?hr19 ?hQ19 (Or.inl ⟨?hg19, ?hy19⟩) hHeld ?rest19
        case hi19 => simp only [List.getElem?_toArray, List.getElem?_cons_succ, List.getElem?_cons_zero]; rfl
        case hs19 => kernel_rfl
        case hf19 => kernel_rfl
        case hr19 => kernel_rfl
        case hg19 => rfl
        case hy19 => (intro w hSw; first | (go_simp; done) | (go_simp; with_reducible rfl))
        case hQ19 => exact fun _ _ _ h => h
        try simp only [Act.put, List.setIfInBounds_toArray, List.set_cons_zero, List.set_cons_succ]
        refine wpAnyH_take (i := 5) (oi := ?oi20) (v := ?v20) ?hi20 ?hs20 ?hf20 ?hr20 ?hQ20 (Or.inl ⟨?hg20, ?hy20⟩) hHeld ?rest20
        case hi20 => simp only [List.getElem?_toArray, List.getElem?_cons_succ, List.getElem?_cons_zero]; rfl
        case hs20 => kernel_rfl
        case hf20 => kernel_rfl
        case hr20 => kernel_rfl
        case hg20 => rfl
        case hy20 => (intro w hSw; have x0 := cell_below (w := wr.drew) cx hSw; first | (go_simp; done) | (go_simp; with_reducible rfl))
        case hQ20 => exact fun _ _ _ h => h
        try simp only [Act.put, List.setIfInBounds_toArray, List.set_cons_zero, List.set_cons_succ]
        refine wpAnyH_ready (rs := [6]) (by kernel_rfl) (by simp) ?_
        refine AllReadyH.cons (o := ?oi21) ?hi21 (fun K hK => ?_) AllReadyH.nil
        case hi21 => simp only [List.getElem?_toArray, List.getElem?_cons_succ, List.getElem?_cons_zero]; rfl
        go_simp; go_at_call 122; refine (HLS.out _).mono ?_; rintro e w3 ⟨rfl, hb3⟩; go_wp2_with fail
        refine hK.out _ _ (hb3) (fun _ => ?_)
        clear hK K hHeld
        refine wpAnyH_change (S' := fun w' => Below (w3).heap.size (w3) w') (fun w' h => (hb3).trans (h.mono (hb3).size)) _ _ _ _ ?_
        have hHeld : Below (w3).heap.size (w3) (w3) := Below.refl _ _
        try simp only [Act.put, List.setIfInBounds_toArray, List.set_cons_zero, List.set_cons_succ]
        have B3 := Lib.hid (HB.out.trans ((((Below.refl wr.heap.size wr).drew).trans hb3).mono HB.out.size))
        have R3 := Lib.hid (row_heap HO.out (fun b hb => (((Below.refl wr.heap.size wr).drew).trans hb3).block b (row_lt HO.out hb).2))
        have cx3 := cell_below (w := wr.drew) cx0 hb3
        have cy3 := cell_below (w := wr.drew) cy0 hb3
        clear hb3 cx cy cx0 cy0 HO HB HLS
        refine wpAnyH_done (by kernel_rfl) ?_ _
        clear hHeld
        obtain ⟨ls, hls⟩ : ∃ ls, lessP (splitB y) (splitB x) = ls := ⟨_, rfl⟩
        rw [hls]
        cases ls with
        | true =>
          have G2 := Lib.hid (HG.out.right hls)
          have hb4 := (Below.refl w3.heap.size w3).alloc (Nat.le_refl _) (.cells #[.string sy] 9)
          have hsl4 : Sl 1 (w3.alloc (.cells #[.string sy] 9)) (some ⟨w3.heap.size, 0, none⟩) 1 (strs [y]) := by
            have := (Blk.new w3 9 [.string sy]).sl (o := 0) (n := 1) (sz := 1) (ds := [.string sy]) rfl rfl (by omega)
            rw [← hsy] at this ⊢; exact this
          have hr4 := row_heap R3.out (fun b hb => hb4.block b (row_lt R3.out hb).2)
          have hz4 : (w3.alloc (.cells #[.string sy] 9)).heap.size = w3.heap.size + 1 := World.size_alloc _ _
          have hw3 := B3.out.size
          obtain ⟨v4, w4, hap4, hown4, hg4⟩ := run_append_sl (P := Tryz.prog) (w := w3.alloc (.cells #[.string sy] 9)) w2.heap.size 35 35 9 i0 _ 1 16 Tryz.underlying35 hi0 hz0 hz1 hz2 rfl (by decide) hr4 (c := 1) hsl4 (one_strs [y]) (by have := HM.out; have := HCT.out; omega) (by have := HM.out; have := HCT.out; omega) (by omega)
          rw [← strs_app] at hown4
          have O4 := Lib.hid (show w4.ownsRow w2.heap.size 9 1 v4 (out ++ [y]).length (strs (out ++ [y])) by rw [List.length_append]; exact hown4)
          have B4 := Lib.hid ((B3.out.trans (hb4.mono B3.out.size)).grown hg4 (by omega) (fun k hk => (row_lt hr4 hk).1))
          obtain ⟨A4, c4, rfl, _⟩ := own_strs hown4 (by have := HM.out; have := HCT.out; omega)
          clear hls hb4 hsl4 hr4 hz4 hw3 hown4 hg4 cx3 R3 B3
          go_wp2_with (at_builtin; refine halt_in ?_)
          refine Halted.out (wpList_append_run rfl _ _ _ _ rfl rfl rfl hap4 ?_)
          clear hap4 y1 y2 y3 y4
          go_wp2_with fail
          go_roundw
          case rel => exact ⟨_, n1, c1, _, n2 - 1, c2 - 1, _, _, _, rfl, rfl, HNN.out.2.1, by have := HNN.out; omega, HX.out, HTY.out, O4.out, G2.out, B4.out⟩
          case measure => have := HNN.out; simp <;> omega
        | false =>
          have G2 := Lib.hid (HG.out.left hls)
          have hb4 := (Below.refl w3.heap.size w3).alloc (Nat.le_refl _) (.cells #[.string sx] 9)
          have hsl4 : Sl 1 (w3.alloc (.cells #[.string sx] 9)) (some ⟨w3.heap.size, 0, none⟩) 1 (strs [x]) := by
            have := (Blk.new w3 9 [.string sx]).sl (o := 0) (n := 1) (sz := 1) (ds := [.string sx]) rfl rfl (by omega)
            rw [← hsx] at this ⊢; exact this
          have hr4 := row_heap R3.out (fun b hb => hb4.block b (row_lt R3.out hb).2)
          have hz4 : (w3.alloc (.cells #[.string sx] 9)).heap.size = w3.heap.size + 1 := World.size_alloc _ _
          have hw3 := B3.out.size
          obtain ⟨v4, w4, hap4, hown4, hg4⟩ := run_append_sl (P := Tryz.prog) (w := w3.alloc (.cells #[.string sx] 9)) w2.heap.size 35 35 9 i0 _ 1 16 Tryz.underlying35 hi0 hz0 hz1 hz2 rfl (by decide) hr4 (c := 1) hsl4 (one_strs [x]) (by have := HM.out; have := HCT.out; omega) (by have := HM.out; have := HCT.out; omega) (by omega)
          rw [← strs_app] at hown4
          have O4 := Lib.hid (show w4.ownsRow w2.heap.size 9 1 v4 (out ++ [x]).length (strs (out ++ [x])) by rw [List.length_append]; exact hown4)
          have B4 := Lib.hid ((B3.out.trans (hb4.mono B3.out.size)).grown hg4 (by omega) (fun k hk => (row_lt hr4 hk).1))
          obtain ⟨A4, c4, rfl, _⟩ := own_strs hown4 (by have := HM.out; have := HCT.out; omega)
          clear hls hb4 hsl4 hr4 hz4 hw3 hown4 hg4 cy3 R3 B3
          go_wp2_with (at_builtin; refine halt_in ?_)
          refine Halted.out (wpList_append_run rfl _ _ _ _ rfl rfl rfl hap4 ?_)
          clear hap4 y1 y2 y3 y4
          go_wp2_with fail
          go_roundw
          case rel => exact ⟨_, n1 - 1, c1 - 1, _, n2, c2, _, _, _, rfl, rfl, by have := HNN.out; omega, HNN.out.2.2.2, HTX.out, HY.out, O4.out, G2.out, B4.out⟩
          case measure => have := HNN.out; simp <;> omega
theorem refSort_any (n : Nat) : ∀ (A : Option Addr) (c : Nat) (L : List (List UInt8)) (w : World), n ≤ c → Sl 1 w A n (strs L) → (∀ x ∈ L, x.length ≤ 2097152) → n ≤ 1000000 →
    Calls Tryz.prog 71 #[.slice A n c] w fun e w' => (∃ v L', e = .returned v ∧ w'.ownsRow w.heap.size 9 1 v n (strs L') ∧ L'.Perm L ∧ SortedL L') ∧ Below w.heap.size w w' := by
  induction n using Nat.strongRecOn with
  | _ n ih =>
    intro A c L w h1 h2 h3 h4
    exact refSort_core n (fun m hm A c L w g1 g2 g3 => ih m hm A c L w g1 g2 g3 (by omega)) A c L w h1 h2 h3 h4
end Go.Proofs.YtlbbehfbjbbckaaGreatDoor

/-! The document's tree: a name goes. -/
set_option linter.unusedVariables false
set_option linter.unusedSimpArgs false
namespace Go.Proofs.YtlbbehfbjbbckaaGreatDoor
open Go.RowKit
attribute [local go_sem] str_toList

theorem one_encDs (B : Int → Nat) : ∀ l : List (List UInt8 × Int), ∀ u ∈ encDs B l, u.oneCell' = true
  | [], u, hu => by cases hu
  | x :: l, u, hu => by
    rw [encDs_cons] at hu
    rcases List.mem_append.1 hu with h | h
    · simp [ptrB] at h
      rcases h with rfl | rfl <;> rfl
    · exact one_encDs B l u h
theorem encDs_drop (B : Int → Nat) : ∀ (k : Nat) (l : List (List UInt8 × Int)), encDs B (l.drop k) = (encDs B l).drop (k * 2)
  | 0, l => by simp
  | k + 1, [] => by simp [encDs]
  | k + 1, x :: l => by
    rw [List.drop_succ_cons, encDs_drop B k l, encDs_cons, show (k + 1) * 2 = k * 2 + 1 + 1 by omega]; rfl
theorem encDs_take (B : Int → Nat) : ∀ (k : Nat) (l : List (List UInt8 × Int)), encDs B (l.take k) = (encDs B l).take (k * 2)
  | 0, l => by simp [encDs]
  | k + 1, [] => by simp [encDs]
  | k + 1, x :: l => by
    rw [List.take_succ_cons, encDs_cons, encDs_take B k l, encDs_cons, show (k + 1) * 2 = k * 2 + 1 + 1 by omega]; rfl
/-- Two parts of a row of names. -/
theorem names_parts {w : World} {g n cap : Nat} {B : Int → Nat} {ls : List (List UInt8 × Int)} (h : Sl 2 w (some ⟨g, 0, none⟩) n (encDs B ls)) (hl : ls.length = n) (hc : n ≤ cap) (i : Nat) (hi : i < n) :
    Sl 2 w (subAt (some ⟨g, 0, none⟩) 0 cap 2) i (encDs B (ls.take i)) ∧ Sl 2 w (subAt (some ⟨g, 0, none⟩) (i + 1) cap 2) (n - (i + 1)) (encDs B (ls.drop (i + 1))) := by
  have hcell : ∀ j v, (encDs B ls)[j]? = some v → w.cell? ⟨g, j, none⟩ = some v := fun j v hj => by
    rcases h.at_ with h0 | ⟨b, o, e, hc'⟩
    · rw [h0] at hj; simp at hj
    · cases e
      have := hc' j v hj
      rwa [Nat.zero_add] at this
  have hm := h.max
  refine ⟨⟨by rw [encDs_len, List.length_take]; omega, by omega, .inr ⟨g, 0, ?_, fun j v hj => ?_⟩⟩, ⟨by rw [encDs_len, List.length_drop]; omega, by omega, ?_⟩⟩
  · unfold subAt; rw [if_neg (by omega)]; simp [Addr.add]
  · rw [encDs_take, List.getElem?_take] at hj
    split at hj
    · rw [Nat.zero_add]; exact hcell j v hj
    · cases hj
  · by_cases e : cap = i + 1
    · left
      rw [List.drop_eq_nil_of_le (by omega)]; rfl
    · right
      refine ⟨g, (i + 1) * 2, ?_, fun j v hj => ?_⟩
      · unfold subAt; rw [if_neg e]; simp [Addr.add]
      · rw [encDs_drop, List.getElem?_drop] at hj
        exact hcell _ v hj
theorem DocAt.sl {w : World} {t : Nat} {v : Value} {S : St} {B : Int → Nat} {D : Int → Dt} (h : DocAt w t v S B D) (ht : TopS S) (hl : S.ls.length ≤ 1000000) : ∃ g cap, v = .slice (some ⟨g, 0, none⟩) S.ls.length cap ∧ S.ls.length ≤ cap ∧ Sl 2 w (some ⟨g, 0, none⟩) S.ls.length (encDs B S.ls) := by
  obtain ⟨g, cap, cs, rfl, h1, h2, _, hB, h3, _, _⟩ := row_at h.row ht.pos
  exact ⟨g, cap, rfl, h1, by rw [encDs_len], by omega, .inr ⟨g, 0, rfl, fun j v hj => by rw [Nat.zero_add]; exact h3 j v hj⟩⟩
theorem elemNm : Tryz.prog.elem 130 = 129 := by kernel_rfl
theorem undNm : Tryz.prog.underlying 130 = some (.slice (Tryz.prog.elem 130)) := by rw [elemNm]; exact Tryz.underlying130
theorem filter_same {S : St} {p : List UInt8} (h : S.at p = none) : S.ls.filter (fun y => y.1 != p) = S.ls := by
  rw [List.filter_eq_self]
  intro y hy
  have : y.1 ≠ p := fun e => by
    have h2 : ∀ l : List (List UInt8 × Int), y ∈ l → l.lookup y.1 ≠ none := fun l hl => by
      induction l with
      | nil => cases hl
      | cons z l ih =>
        obtain ⟨z1, z2⟩ := z
        rw [List.lookup_cons]
        by_cases e : y.1 = z1
        · have : (y.1 == z1) = true := by simpa using e
          rw [this]; simp
        · have : (y.1 == z1) = false := by simpa using e
          rw [this]
          rcases List.mem_cons.1 hl with h | h
          · rw [h] at e; exact absurd rfl e
          · exact ih h
    unfold St.at at h
    rw [← e] at h
    exact h2 _ hy h
  simpa using this
set_option maxRecDepth 100000 in
set_option maxHeartbeats 16000000 in
theorem gone_any (t : Nat) (v : Value) (S : St) (B : Int → Nat) (D : Int → Dt) (p : ByteArray) (w : World) (h : DocAt w t v S B D) (ho : OkS S) (ht : TopS S) (hl : S.ls.length ≤ 1000000) (hp : p.data.toList ≠ []) :
    Calls Tryz.prog 117 #[.pointer (some ⟨t, 0, none⟩), .string p] w fun e w' => e = .returned (.tuple #[]) ∧ ∃ v', DocAt w' t v' { S with ls := S.ls.filter (fun y => y.1 != p.data.toList) } B D ∧ Only (fun k => k = t) w w' ∧ ∀ k, v'.ownBlock = some k → v.ownBlock = some k ∨ w.heap.size ≤ k := by
  have HA := Lib.hid (At_any t v S B D p w h ho ht hl)
  have HT := Lib.hid h
  have HO := Lib.hid ho
  have HTOP := Lib.hid ht
  have HP := Lib.hid hp
  obtain ⟨g, cap, rfl, hcap, hslv⟩ := h.sl ht hl
  have HSL := Lib.hid hslv
  clear h ho ht hp hslv
  go_enter Tryz.func117, Tryz.ntmps117
  go_wp2_with fail
  refine HA.out.mono ?_
  rintro e w1 ⟨⟨r, rfl, hr⟩, rfl⟩
  rcases hr with ⟨rfl, hr⟩ | ⟨i, x, rfl, hx, hx1, hr⟩
  · have HF := Lib.hid (filter_same hr)
    clear hr
    go_wp2_with fail
    go_end0
    exact ⟨rfl, _, by rw [HF.out]; exact HT.out, Only.refl _ _, fun k hk => .inl hk⟩
  · have hi0 : 0 < i := by
      rcases Nat.eq_zero_or_pos i with e | e
      · subst e
        have := HTOP.out
        unfold TopS at this
        rw [hx, Option.some.injEq] at this
        rw [this] at hx1
        exact absurd hx1.symm HP.out
      · exact e
    have hin : i < S.ls.length := (List.getElem?_eq_some_iff.1 hx).1
    have HGL := Lib.hid (show S.ls.take i ++ S.ls.drop (i + 1) = S.ls.filter (fun y => y.1 != p.data.toList) by rw [gone_list HO.out.nodup hx, hx1])
    obtain ⟨hs1, hs2⟩ := names_parts HSL.out rfl hcap i hin
    obtain ⟨n, hn⟩ : ∃ n, S.ls.length = n := ⟨_, rfl⟩
    have HN := Lib.hid hn
    rw [hn] at hin hcap hl hs2
    obtain ⟨i0, hi0', hz0, hz1, hz2⟩ := info_parts infoN
    have hsl1 : ∀ w : World, (Instr.slice 130 (.slice (some ⟨g, 0, none⟩) n cap) none (some (.int .i64 (i : Int))) none).run Tryz.prog w = .ok (.slice (subAt (some ⟨g, 0, none⟩) 0 cap 2) i cap) w := fun w => run_slice_to undNm elemNm hi0' hz1 _ n cap i (by omega) .i64 _ rfl
    have hsl2 : ∀ w : World, (Instr.slice 130 (.slice (some ⟨g, 0, none⟩) n cap) (some (.int .i64 ((i : Int) + 1))) none none).run Tryz.prog w = .ok (.slice (subAt (some ⟨g, 0, none⟩) (i + 1) cap 2) (n - (i + 1)) (cap - (i + 1))) w := fun w => run_slice_from undNm elemNm hi0' hz1 _ n cap (i + 1) (by omega) .i64 _ (by omega)
    have z1 : (0 : Int) < (i : Int) := by omega
    have z2 : IntKind.i64.wrap ((i : Int) + 1) = (i : Int) + 1 := by rw [IntKind.wrap_i64]; omega
    -- the two appends
    have hb0 : Below w1.heap.size w1 (w1.drew.alloc (.cells #[] 129)) := ((Below.refl w1.heap.size w1).drew).alloc (Nat.le_refl _) (.cells #[] 129)
    have hsz : (w1.drew.alloc (.cells #[] 129)).heap.size = w1.heap.size + 1 := World.size_alloc _ _
    obtain ⟨v5, w5, hap5, hown5, hg5⟩ := run_append_sl (w := w1.drew.alloc (.cells #[] 129)) w1.heap.size 130 130 129 i0 _ 2 24 Tryz.underlying130 hi0' hz0 hz1 hz2 rfl (by decide)
      (World.ownsRow_made w1.drew (base := w1.heap.size) (e := 129) (size := 2) #[] 0 (Nat.le_refl _) (by decide) rfl) (c := cap) (hs1.below hb0) (one_encDs B _) (by omega) (by omega) (by rw [hsz]; omega)
    rw [List.nil_append] at hown5
    rw [Nat.zero_add] at hown5
    have hb5 : Below w1.heap.size w1 w5 := hb0.grown hg5 (by rw [hsz]; omega) (fun k hk => by cases hk; exact Nat.le_refl _)
    obtain ⟨v6, w6, hap6, hown6, hg6⟩ := run_append_sl (w := w5) w1.heap.size 130 130 129 i0 _ 2 24 Tryz.underlying130 hi0' hz0 hz1 hz2 rfl (by decide) hown5 (c := cap - (i + 1)) (hs2.below hb5) (one_encDs B _) (by omega) (by omega) hb5.size
    have hb6 : Below w1.heap.size w1 w6 := hb5.grown hg6 hb5.size (fun k hk => (row_lt hown5 hk).1)
    rw [← encDs_app, HGL.out] at hown6
    have e6 : i + (n - (i + 1)) = (S.ls.filter (fun y => y.1 != p.data.toList)).length := by
      rw [← HGL.out, List.length_append, List.length_take, List.length_drop, HN.out]; omega
    rw [e6] at hown6
    have tl := HT.out.tree.lt
    have t6 := HT.out.tree.below hb6
    have hO7 : Only (fun k => k = t) w1 (w6.setCell ⟨t, 0, none⟩ v6) := (Only.of hb6).trans (Only.set (P := fun k => k = t) w6 ⟨t, 0, none⟩ v6 rfl)
    have h7 : DocAt (w6.setCell ⟨t, 0, none⟩ v6) t v6 { S with ls := S.ls.filter (fun y => y.1 != p.data.toList) } B D := HT.out.list_to _ (t6.set 0 v6)
      (row_heap ⟨hown6.1, hown6.2.imp id (fun ⟨g, cap, cur, a, b, r⟩ => ⟨g, cap, cur, a, Nat.zero_le _, r⟩)⟩ (fun b hb => heap_setCell_other w6 ⟨t, 0, none⟩ b v6 (by have := (row_lt hown6 hb).1; show b ≠ t; omega)))
      (fun k hk => hO7.block k (HT.out.thing_lt hk) (HT.out.thing_ne hk HT.out.tree (by decide) (by decide)))
      (fun y hy => ⟨y, (List.mem_filter.1 hy).1, rfl⟩)
    have K := Lib.hid (show ∃ v', DocAt (w6.setCell ⟨t, 0, none⟩ v6) t v' { S with ls := S.ls.filter (fun y => y.1 != p.data.toList) } B D ∧ Only (fun k => k = t) w1 (w6.setCell ⟨t, 0, none⟩ v6) ∧ ∀ k, v'.ownBlock = some k → (Value.slice (some ⟨g, 0, none⟩) S.ls.length cap).ownBlock = some k ∨ w1.heap.size ≤ k from
      ⟨v6, h7, hO7, fun k hk => .inr (row_lt hown6 hk).1⟩)
    have c0 : w1.drew.cell? ⟨t, 0, none⟩ = some (.slice (some ⟨g, 0, none⟩) n cap) := by have := HT.out.tree.cell 0; rw [HN.out] at this; exact this
    have c1 := cell_below (show w1.cell? ⟨t, 0, none⟩ = some (.slice (some ⟨g, 0, none⟩) n cap) from c0) hb0
    have c1a := cell_below (show w1.cell? ⟨t, 0, none⟩ = some (.slice (some ⟨g, 0, none⟩) n cap) from c0) ((Below.refl w1.heap.size w1).alloc (Nat.le_refl _) (.cells #[] 129))
    have c5 := cell_below (show w1.cell? ⟨t, 0, none⟩ = some (.slice (some ⟨g, 0, none⟩) n cap) from c0) hb5
    have c6 := cell_below (show w1.cell? ⟨t, 0, none⟩ = some (.slice (some ⟨g, 0, none⟩) n cap) from c0) hb6
    have f6 := t6.frozen 0
    have P0 := Lib.hid (Only.refl (fun k => k = t) w1.drew)
    have P1 := Lib.hid (show Only (fun k => k = t) w1.drew (w1.drew.alloc (.cells #[] 129)) from Only.of ((Below.refl w1.drew.heap.size w1.drew).alloc (Nat.le_refl _) _))
    have P5 := Lib.hid (show Only (fun k => k = t) w1.drew w5 from Only.of ⟨hb5.os, hb5.tape, hb5.output, hb5.size, hb5.block⟩)
    have P6 := Lib.hid (show Only (fun k => k = t) w1.drew w6 from Only.of ⟨hb6.os, hb6.tape, hb6.output, hb6.size, hb6.block⟩)
    have P7 := Lib.hid (P6.out.trans (Only.set (P := fun k => k = t) w6 ⟨t, 0, none⟩ v6 rfl))
    obtain ⟨A5, m5, q5, rfl⟩ : ∃ A m c, v5 = .slice A m c := by
      rcases hown5.2 with ⟨hv, _⟩ | ⟨g, cap, cur, hv, _⟩
      · exact ⟨_, _, _, hv⟩
      · exact ⟨_, _, _, hv⟩
    obtain ⟨A6, m6, q6, rfl⟩ : ∃ A m c, v6 = .slice A m c := by
      rcases hown6.2 with ⟨hv, _⟩ | ⟨g, cap, cur, hv, _⟩
      · exact ⟨_, _, _, hv⟩
      · exact ⟨_, _, _, hv⟩
    clear hx hx1 hr hs1 hs2 hb0 hsz hown5 hg5 hb5 hown6 hg6 hb6 e6 tl t6 hO7 h7 hn hin hcap hi0
    go_wp2_with fail
    clear z1
    refine wp_region_held_drew (S := (fun w' => Only (fun k => k = t) w1.drew w')) (by kernel_rfl) (P0.out) (fun hHeld => ?_)
    refine wpAnyH_take (i := 0) (oi := ?oi1) (v := ?v1) ?hi1 ?hs1 ?hf1 ?hr1 ?hQ1 (Or.inl ⟨?hg1, ?hy1⟩) hHeld ?rest1
    case hi1 => simp only [List.getElem?_toArray, List.getElem?_cons_succ, List.getElem?_cons_zero]; rfl
    case hs1 => kernel_rfl
    case hf1 => kernel_rfl
    case hr1 => kernel_rfl
    case hg1 => rfl
    case hy1 => (intro w hSw; first | (go_simp; done) | (go_simp; with_reducible rfl))
    case hQ1 => exact fun _ _ _ h => h
    try simp only [Act.put, List.setIfInBounds_toArray, List.set_cons_zero, List.set_cons_succ]
    refine wpAnyH_take (i := 2) (oi := ?oi2) (v := ?v2) ?hi2 ?hs2 ?hf2 ?hr2 ?hQ2 (Or.inl ⟨?hg2, ?hy2⟩) hHeld ?rest2
    case hi2 => simp only [List.getElem?_toArray, List.getElem?_cons_succ, List.getElem?_cons_zero]; rfl
    case hs2 => kernel_rfl
    case hf2 => kernel_rfl
    case hr2 => kernel_rfl
    case hg2 => rfl
    case hy2 => (intro w hSw; first | (go_simp; done) | (go_simp; with_reducible rfl))
    case hQ2 => exact fun _ _ _ h => h
    try simp only [Act.put, List.setIfInBounds_toArray, List.set_cons_zero, List.set_cons_succ]
    refine wpAnyH_take (i := 3) (oi := ?oi3) (v := ?v3) ?hi3 ?hs3 ?hf3 ?hr3 ?hQ3 (Or.inl ⟨?hg3, ?hy3⟩) hHeld ?rest3
    case hi3 => simp only [List.getElem?_toArray, List.getElem?_cons_succ, List.getElem?_cons_zero]; rfl
    case hs3 => kernel_rfl
    case hf3 => kernel_rfl
    case hr3 => kernel_rfl
    case hg3 => rfl
    case hy3 => (intro w hSw; first | (go_simp; done) | (go_simp; with_reducible rfl))
    case hQ3 => exact fun _ _ _ h => h
    try simp only [Act.put, List.setIfInBounds_toArray, List.set_cons_zero, List.set_cons_succ]
    refine wpAnyH_take (i := 4) (oi := ?oi4) (v := ?v4) ?hi4 ?hs4 ?hf4 ?hr4 ?hQ4 (Or.inl ⟨?hg4, ?hy4⟩) hHeld ?rest4
    case hi4 => simp only [List.getElem?_toArray, List.getElem?_cons_succ, List.getElem?_cons_zero]; rfl
    case hs4 => kernel_rfl
    case hf4 => kernel_rfl
    case hr4 => kernel_rfl
    case hg4 => rfl
    case hy4 => (intro w hSw; first | (go_simp; done) | (go_simp; with_reducible rfl))
    case hQ4 => exact fun _ _ _ h => h
    try simp only [Act.put, List.setIfInBounds_toArray, List.set_cons_zero, List.set_cons_succ]
    refine wpAnyH_take (i := 6) (oi := ?oi5) (v := ?v5) ?hi5 ?hs5 ?hf5 ?hr5 ?hQ5 (Or.inl ⟨?hg5, ?hy5⟩) hHeld ?rest5
    case hi5 => simp only [List.getElem?_toArray, List.getElem?_cons_succ, List.getElem?_cons_zero]; rfl
    case hs5 => kernel_rfl
    case hf5 => kernel_rfl
    case hr5 => kernel_rfl
    case hg5 => rfl
    case hy5 => (intro w hSw; first | (go_simp; done) | (go_simp; with_reducible rfl))
    case hQ5 => exact fun _ _ _ h => h
    try simp only [Act.put, List.setIfInBounds_toArray, List.set_cons_zero, List.set_cons_succ]
    refine wpAnyH_take (i := 9) (oi := ?oi6) (v := ?v6) ?hi6 ?hs6 ?hf6 ?hr6 ?hQ6 (Or.inl ⟨?hg6, ?hy6⟩) hHeld ?rest6
    case hi6 => simp only [List.getElem?_toArray, List.getElem?_cons_succ, List.getElem?_cons_zero]; rfl
    case hs6 => kernel_rfl
    case hf6 => kernel_rfl
    case hr6 => kernel_rfl
    case hg6 => rfl
    case hy6 => (intro w hSw; first | (go_simp; done) | (go_simp; with_reducible rfl))
    case hQ6 => exact fun _ _ _ h => h
    try simp only [Act.put, List.setIfInBounds_toArray, List.set_cons_zero, List.set_cons_succ]
    refine wpAnyH_take (i := 10) (oi := ?oi7) (v := ?v7) ?hi7 ?hs7 ?hf7 ?hr7 ?hQ7 (Or.inl ⟨?hg7, ?hy7⟩) hHeld ?rest7
    case hi7 => simp only [List.getElem?_toArray, List.getElem?_cons_succ, List.getElem?_cons_zero]; rfl
    case hs7 => kernel_rfl
    case hf7 => kernel_rfl
    case hr7 => kernel_rfl
    case hg7 => rfl
    case hy7 => (intro w hSw; first | (go_simp; done) | (go_simp; with_reducible rfl))
    case hQ7 => exact fun _ _ _ h => h
    try simp only [Act.put, List.setIfInBounds_toArray, List.set_cons_zero, List.set_cons_succ]
    refine wpAnyH_take (i := 11) (oi := ?oi8) (v := ?v8) ?hi8 ?hs8 ?hf8 ?hr8 ?hQ8 (Or.inl ⟨?hg8, ?hy8⟩) hHeld ?rest8
    case hi8 => simp only [List.getElem?_toArray, List.getElem?_cons_succ, List.getElem?_cons_zero]; rfl
    case hs8 => kernel_rfl
    case hf8 => kernel_rfl
    case hr8 => kernel_rfl
    case hg8 => rfl
    case hy8 => (intro w hSw; first | (go_simp; done) | (go_simp; with_reducible rfl))
    case hQ8 => exact fun _ _ _ h => h
    try simp only [Act.put, List.setIfInBounds_toArray, List.set_cons_zero, List.set_cons_succ]
    refine wpAnyH_take (i := 13) (oi := ?oi9) (v := ?v9) ?hi9 ?hs9 ?hf9 ?hr9 ?hQ9 (Or.inl ⟨?hg9, ?hy9⟩) hHeld ?rest9
    case hi9 => simp only [List.getElem?_toArray, List.getElem?_cons_succ, List.getElem?_cons_zero]; rfl
    case hs9 => kernel_rfl
    case hf9 => kernel_rfl
    case hr9 => kernel_rfl
    case hg9 => rfl
    case hy9 => (intro w hSw; first | (go_simp; done) | (go_simp; with_reducible rfl))
    case hQ9 => exact fun _ _ _ h => h
    try simp only [Act.put, List.setIfInBounds_toArray, List.set_cons_zero, List.set_cons_succ]
    refine wpAnyH_take (i := 14) (oi := ?oi10) (v := ?v10) ?hi10 ?hs10 ?hf10 ?hr10 ?hQ10 (Or.inl ⟨?hg10, ?hy10⟩) hHeld ?rest10
    case hi10 => simp only [List.getElem?_toArray, List.getElem?_cons_succ, List.getElem?_cons_zero]; rfl
    case hs10 => kernel_rfl
    case hf10 => kernel_rfl
    case hr10 => kernel_rfl
    case hg10 => rfl
    case hy10 => (intro w hSw; first | (go_simp; done) | (go_simp; with_reducible rfl))
    case hQ10 => exact fun _ _ _ h => h
    try simp only [Act.put, List.setIfInBounds_toArray, List.set_cons_zero, List.set_cons_succ]
    refine wpAnyH_ready (rs := [1, 5, 12]) (by kernel_rfl) (by simp) ?_
    refine AllReadyH.cons (o := ?o11_0) ?h11_0 (fun K hK => ?_) (AllReadyH.cons (o := ?o11_1) ?h11_1 (fun K hK => ?_) (AllReadyH.cons (o := ?o11_2) ?h11_2 (fun K hK => ?_) AllReadyH.nil))
    case h11_0 => simp only [List.getElem?_toArray, List.getElem?_cons_succ, List.getElem?_cons_zero]; rfl
    case h11_1 => simp only [List.getElem?_toArray, List.getElem?_cons_succ, List.getElem?_cons_zero]; rfl
    case h11_2 => simp only [List.getElem?_toArray, List.getElem?_cons_succ, List.getElem?_cons_zero]; rfl
    · go_simp
      refine hK.out _ _ (P1.out) (fun hHeld2 => ?_)
      clear hK K hHeld
      have hHeld := hHeld2
      clear hHeld2
      try simp only [Act.put, List.setIfInBounds_toArray, List.set_cons_zero, List.set_cons_succ]
      refine wpAnyH_ready (rs := [5, 12]) (by kernel_rfl) (by simp) ?_
      refine AllReadyH.cons (o := ?o12_0) ?h12_0 (fun K hK => ?_) (AllReadyH.cons (o := ?o12_1) ?h12_1 (fun K hK => ?_) AllReadyH.nil)
      case h12_0 => simp only [List.getElem?_toArray, List.getElem?_cons_succ, List.getElem?_cons_zero]; rfl
      case h12_1 => simp only [List.getElem?_toArray, List.getElem?_cons_succ, List.getElem?_cons_zero]; rfl
      · go_simp
        refine hK.out _ _ (P1.out) (fun hHeld2 => ?_)
        clear hK K hHeld
        have hHeld := hHeld2
        clear hHeld2
        try simp only [Act.put, List.setIfInBounds_toArray, List.set_cons_zero, List.set_cons_succ]
        refine wpAnyH_take (i := 7) (oi := ?oi13) (v := ?v13) ?hi13 ?hs13 ?hf13 ?hr13 ?hQ13 (Or.inl ⟨?hg13, ?hy13⟩) hHeld ?rest13
        case hi13 => simp only [List.getElem?_toArray, List.getElem?_cons_succ, List.getElem?_cons_zero]; rfl
        case hs13 => kernel_rfl
        case hf13 => kernel_rfl
        case hr13 => kernel_rfl
        case hg13 => rfl
        case hy13 => (intro w hSw; have x0 := hsl1; first | (go_simp; done) | (go_simp; with_reducible rfl))
        case hQ13 => exact fun _ _ _ h => h
        try simp only [Act.put, List.setIfInBounds_toArray, List.set_cons_zero, List.set_cons_succ]
        refine wpAnyH_ready (rs := [8, 12]) (by kernel_rfl) (by simp) ?_
        refine AllReadyH.cons (o := ?o14_0) ?h14_0 (fun K hK => ?_) (AllReadyH.cons (o := ?o14_1) ?h14_1 (fun K hK => ?_) AllReadyH.nil)
        case h14_0 => simp only [List.getElem?_toArray, List.getElem?_cons_succ, List.getElem?_cons_zero]; rfl
        case h14_1 => simp only [List.getElem?_toArray, List.getElem?_cons_succ, List.getElem?_cons_zero]; rfl
        · refine step_append_run rfl (.tmp 11) (.tmp 17) 130 130 rfl rfl rfl hap5 ?_
          refine hK.out _ _ (P5.out) (fun hHeld2 => ?_)
          clear hK K hHeld
          have hHeld := hHeld2
          clear hHeld2
          try simp only [Act.put, List.setIfInBounds_toArray, List.set_cons_zero, List.set_cons_succ]
          refine wpAnyH_ready (rs := [12]) (by kernel_rfl) (by simp) ?_
          refine AllReadyH.cons (o := ?oi15) ?hi15 (fun K hK => ?_) AllReadyH.nil
          case hi15 => simp only [List.getElem?_toArray, List.getElem?_cons_succ, List.getElem?_cons_zero]; rfl
          go_simp
          refine hK.out _ _ (P5.out) (fun hHeld2 => ?_)
          clear hK K hHeld
          have hHeld := hHeld2
          clear hHeld2
          try simp only [Act.put, List.setIfInBounds_toArray, List.set_cons_zero, List.set_cons_succ]
          refine wpAnyH_take (i := 15) (oi := ?oi16) (v := ?v16) ?hi16 ?hs16 ?hf16 ?hr16 ?hQ16 (Or.inl ⟨?hg16, ?hy16⟩) hHeld ?rest16
          case hi16 => simp only [List.getElem?_toArray, List.getElem?_cons_succ, List.getElem?_cons_zero]; rfl
          case hs16 => kernel_rfl
          case hf16 => kernel_rfl
          case hr16 => kernel_rfl
          case hg16 => rfl
          case hy16 => (intro w hSw; have x0 := hsl2; first | (go_simp; done) | (go_simp; with_reducible rfl))
          case hQ16 => exact fun _ _ _ h => h
          try simp only [Act.put, List.setIfInBounds_toArray, List.set_cons_zero, List.set_cons_succ]
          refine wpAnyH_ready (rs := [16]) (by kernel_rfl) (by simp) ?_
          refine AllReadyH.cons (o := ?oi17) ?hi17 (fun K hK => ?_) AllReadyH.nil
          case hi17 => simp only [List.getElem?_toArray, List.getElem?_cons_succ, List.getElem?_cons_zero]; rfl
          refine step_append_run rfl (.tmp 18) (.tmp 25) 130 130 rfl rfl rfl hap6 ?_
          refine hK.out _ _ (P6.out) (fun hHeld2 => ?_)
          clear hK K hHeld
          have hHeld := hHeld2
          clear hHeld2
          try simp only [Act.put, List.setIfInBounds_toArray, List.set_cons_zero, List.set_cons_succ]
          refine wpAnyH_take (i := 17) (oi := ?oi18) (v := ?v18) ?hi18 ?hs18 ?hf18 ?hr18 ?hQ18 (Or.inl ⟨?hg18, ?hy18⟩) hHeld ?rest18
          case hi18 => simp only [List.getElem?_toArray, List.getElem?_cons_succ, List.getElem?_cons_zero]; rfl
          case hs18 => kernel_rfl
          case hf18 => kernel_rfl
          case hr18 => kernel_rfl
          case hg18 => rfl
          case hy18 => (intro w hSw; first | (go_simp; done) | (go_simp; with_reducible rfl))
          case hQ18 => exact fun _ _ _ h => h
          try simp only [Act.put, List.setIfInBounds_toArray, List.set_cons_zero, List.set_cons_succ]
          refine wpAnyH_take (i := 18) (oi := ?oi19) (v := ?v19) ?hi19 ?hs19 ?hf19 ?hr19 ?hQ19 (Or.inl ⟨?hg19, ?hy19⟩) hHeld ?rest19
          case hi19 => simp only [List.getElem?_toArray, List.getElem?_cons_succ, List.getElem?_cons_zero]; rfl
          case hs19 => kernel_rfl
          case hf19 => kernel_rfl
          case hr19 => kernel_rfl
          case hg19 => rfl
          case hy19 => (intro w hSw; first | (go_simp; done) | (go_simp; with_reducible rfl))
          case hQ19 => exact fun _ _ _ h => h
          try simp only [Act.put, List.setIfInBounds_toArray, List.set_cons_zero, List.set_cons_succ]
          refine wpAnyH_ready (rs := [19]) (by kernel_rfl) (by simp) ?_
          refine AllReadyH.cons (o := ?oi20) ?hi20 (fun K hK => ?_) AllReadyH.nil
          case hi20 => simp only [List.getElem?_toArray, List.getElem?_cons_succ, List.getElem?_cons_zero]; rfl
          go_simp
          refine hK.out _ _ (P7.out) (fun hHeld2 => ?_)
          clear hK K hHeld
          have hHeld := hHeld2
          clear hHeld2
          try simp only [Act.put, List.setIfInBounds_toArray, List.set_cons_zero, List.set_cons_succ]
          refine wpAnyH_done (by kernel_rfl) ?_ _
          clear hHeld
          go_wp2_with fail
          go_end0
          exact ⟨rfl, K.out⟩
        · go_simp
          refine hK.out _ _ (P1.out) (fun hHeld2 => ?_)
          clear hK K hHeld
          have hHeld := hHeld2
          clear hHeld2
          try simp only [Act.put, List.setIfInBounds_toArray, List.set_cons_zero, List.set_cons_succ]
          refine wpAnyH_take (i := 15) (oi := ?oi21) (v := ?v21) ?hi21 ?hs21 ?hf21 ?hr21 ?hQ21 (Or.inl ⟨?hg21, ?hy21⟩) hHeld ?rest21
          case hi21 => simp only [List.getElem?_toArray, List.getElem?_cons_succ, List.getElem?_cons_zero]; rfl
          case hs21 => kernel_rfl
          case hf21 => kernel_rfl
          case hr21 => kernel_rfl
          case hg21 => rfl
          case hy21 => (intro w hSw; have x0 := hsl2; first | (go_simp; done) | (go_simp; with_reducible rfl))
          case hQ21 => exact fun _ _ _ h => h
          try simp only [Act.put, List.setIfInBounds_toArray, List.set_cons_zero, List.set_cons_succ]
          refine wpAnyH_ready (rs := [8]) (by kernel_rfl) (by simp) ?_
          refine AllReadyH.cons (o := ?oi22) ?hi22 (fun K hK => ?_) AllReadyH.nil
          case hi22 => simp only [List.getElem?_toArray, List.getElem?_cons_succ, List.getElem?_cons_zero]; rfl
          refine step_append_run rfl (.tmp 11) (.tmp 17) 130 130 rfl rfl rfl hap5 ?_
          refine hK.out _ _ (P5.out) (fun hHeld2 => ?_)
          clear hK K hHeld
          have hHeld := hHeld2
          clear hHeld2
          try simp only [Act.put, List.setIfInBounds_toArray, List.set_cons_zero, List.set_cons_succ]
          refine wpAnyH_ready (rs := [16]) (by kernel_rfl) (by simp) ?_
          refine AllReadyH.cons (o := ?oi23) ?hi23 (fun K hK => ?_) AllReadyH.nil
          case hi23 => simp only [List.getElem?_toArray, List.getElem?_cons_succ, List.getElem?_cons_zero]; rfl
          refine step_append_run rfl (.tmp 18) (.tmp 25) 130 130 rfl rfl rfl hap6 ?_
          refine hK.out _ _ (P6.out) (fun hHeld2 => ?_)
          clear hK K hHeld
          have hHeld := hHeld2
          clear hHeld2
          try simp only [Act.put, List.setIfInBounds_toArray, List.set_cons_zero, List.set_cons_succ]
          refine wpAnyH_take (i := 17) (oi := ?oi24) (v := ?v24) ?hi24 ?hs24 ?hf24 ?hr24 ?hQ24 (Or.inl ⟨?hg24, ?hy24⟩) hHeld ?rest24
          case hi24 => simp only [List.getElem?_toArray, List.getElem?_cons_succ, List.getElem?_cons_zero]; rfl
          case hs24 => kernel_rfl
          case hf24 => kernel_rfl
          case hr24 => kernel_rfl
          case hg24 => rfl
          case hy24 => (intro w hSw; first | (go_simp; done) | (go_simp; with_reducible rfl))
          case hQ24 => exact fun _ _ _ h => h
          try simp only [Act.put, List.setIfInBounds_toArray, List.set_cons_zero, List.set_cons_succ]
          refine wpAnyH_take (i := 18) (oi := ?oi25) (v := ?v25) ?hi25 ?hs25 ?hf25 ?hr25 ?hQ25 (Or.inl ⟨?hg25, ?hy25⟩) hHeld ?rest25
          case hi25 => simp only [List.getElem?_toArray, List.getElem?_cons_succ, List.getElem?_cons_zero]; rfl
          case hs25 => kernel_rfl
          case hf25 => kernel_rfl
          case hr25 => kernel_rfl
          case hg25 => rfl
          case hy25 => (intro w hSw; first | (go_simp; done) | (go_simp; with_reducible rfl))
          case hQ25 => exact fun _ _ _ h => h
          try simp only [Act.put, List.setIfInBounds_toArray, List.set_cons_zero, List.set_cons_succ]
          refine wpAnyH_ready (rs := [19]) (by kernel_rfl) (by simp) ?_
          refine AllReadyH.cons (o := ?oi26) ?hi26 (fun K hK => ?_) AllReadyH.nil
          case hi26 => simp only [List.getElem?_toArray, List.getElem?_cons_succ, List.getElem?_cons_zero]; rfl
          go_simp
          refine hK.out _ _ (P7.out) (fun hHeld2 => ?_)
          clear hK K hHeld
          have hHeld := hHeld2
          clear hHeld2
          try simp only [Act.put, List.setIfInBounds_toArray, List.set_cons_zero, List.set_cons_succ]
          refine wpAnyH_done (by kernel_rfl) ?_ _
          clear hHeld
          go_wp2_with fail
          go_end0
          exact ⟨rfl, K.out⟩
      · go_simp
        refine hK.out _ _ (P1.out) (fun hHeld2 => ?_)
        clear hK K hHeld
        have hHeld := hHeld2
        clear hHeld2
        try simp only [Act.put, List.setIfInBounds_toArray, List.set_cons_zero, List.set_cons_succ]
        refine wpAnyH_take (i := 15) (oi := ?oi27) (v := ?v27) ?hi27 ?hs27 ?hf27 ?hr27 ?hQ27 (Or.inl ⟨?hg27, ?hy27⟩) hHeld ?rest27
        case hi27 => simp only [List.getElem?_toArray, List.getElem?_cons_succ, List.getElem?_cons_zero]; rfl
        case hs27 => kernel_rfl
        case hf27 => kernel_rfl
        case hr27 => kernel_rfl
        case hg27 => rfl
        case hy27 => (intro w hSw; have x0 := hsl2; first | (go_simp; done) | (go_simp; with_reducible rfl))
        case hQ27 => exact fun _ _ _ h => h
        try simp only [Act.put, List.setIfInBounds_toArray, List.set_cons_zero, List.set_cons_succ]
        refine wpAnyH_ready (rs := [5]) (by kernel_rfl) (by simp) ?_
        refine AllReadyH.cons (o := ?oi28) ?hi28 (fun K hK => ?_) AllReadyH.nil
        case hi28 => simp only [List.getElem?_toArray, List.getElem?_cons_succ, List.getElem?_cons_zero]; rfl
        go_simp
        refine hK.out _ _ (P1.out) (fun hHeld2 => ?_)
        clear hK K hHeld
        have hHeld := hHeld2
        clear hHeld2
        try simp only [Act.put, List.setIfInBounds_toArray, List.set_cons_zero, List.set_cons_succ]
        refine wpAnyH_take (i := 7) (oi := ?oi29) (v := ?v29) ?hi29 ?hs29 ?hf29 ?hr29 ?hQ29 (Or.inl ⟨?hg29, ?hy29⟩) hHeld ?rest29
        case hi29 => simp only [List.getElem?_toArray, List.getElem?_cons_succ, List.getElem?_cons_zero]; rfl
        case hs29 => kernel_rfl
        case hf29 => kernel_rfl
        case hr29 => kernel_rfl
        case hg29 => rfl
        case hy29 => (intro w hSw; have x0 := hsl1; first | (go_simp; done) | (go_simp; with_reducible rfl))
        case hQ29 => exact fun _ _ _ h => h
        try simp only [Act.put, List.setIfInBounds_toArray, List.set_cons_zero, List.set_cons_succ]
        refine wpAnyH_ready (rs := [8]) (by kernel_rfl) (by simp) ?_
        refine AllReadyH.cons (o := ?oi30) ?hi30 (fun K hK => ?_) AllReadyH.nil
        case hi30 => simp only [List.getElem?_toArray, List.getElem?_cons_succ, List.getElem?_cons_zero]; rfl
        refine step_append_run rfl (.tmp 11) (.tmp 17) 130 130 rfl rfl rfl hap5 ?_
        refine hK.out _ _ (P5.out) (fun hHeld2 => ?_)
        clear hK K hHeld
        have hHeld := hHeld2
        clear hHeld2
        try simp only [Act.put, List.setIfInBounds_toArray, List.set_cons_zero, List.set_cons_succ]
        refine wpAnyH_ready (rs := [16]) (by kernel_rfl) (by simp) ?_
        refine AllReadyH.cons (o := ?oi31) ?hi31 (fun K hK => ?_) AllReadyH.nil
        case hi31 => simp only [List.getElem?_toArray, List.getElem?_cons_succ, List.getElem?_cons_zero]; rfl
        refine step_append_run rfl (.tmp 18) (.tmp 25) 130 130 rfl rfl rfl hap6 ?_
        refine hK.out _ _ (P6.out) (fun hHeld2 => ?_)
        clear hK K hHeld
        have hHeld := hHeld2
        clear hHeld2
        try simp only [Act.put, List.setIfInBounds_toArray, List.set_cons_zero, List.set_cons_succ]
        refine wpAnyH_take (i := 17) (oi := ?oi32) (v := ?v32) ?hi32 ?hs32 ?hf32 ?hr32 ?hQ32 (Or.inl ⟨?hg32, ?hy32⟩) hHeld ?rest32
        case hi32 => simp only [List.getElem?_toArray, List.getElem?_cons_succ, List.getElem?_cons_zero]; rfl
        case hs32 => kernel_rfl
        case hf32 => kernel_rfl
        case hr32 => kernel_rfl
        case hg32 => rfl
        case hy32 => (intro w hSw; first | (go_simp; done) | (go_simp; with_reducible rfl))
        case hQ32 => exact fun _ _ _ h => h
        try simp only [Act.put, List.setIfInBounds_toArray, List.set_cons_zero, List.set_cons_succ]
        refine wpAnyH_take (i := 18) (oi := ?oi33) (v := ?v33) ?hi33 ?hs33 ?hf33 ?hr33 ?hQ33 (Or.inl ⟨?hg33, ?hy33⟩) hHeld ?rest33
        case hi33 => simp only [List.getElem?_toArray, List.getElem?_cons_succ, List.getElem?_cons_zero]; rfl
        case hs33 => kernel_rfl
        case hf33 => kernel_rfl
        case hr33 => kernel_rfl
        case hg33 => rfl
        case hy33 => (intro w hSw; first | (go_simp; done) | (go_simp; with_reducible rfl))
        case hQ33 => exact fun _ _ _ h => h
        try simp only [Act.put, List.setIfInBounds_toArray, List.set_cons_zero, List.set_cons_succ]
        refine wpAnyH_ready (rs := [19]) (by kernel_rfl) (by simp) ?_
        refine AllReadyH.cons (o := ?oi34) ?hi34 (fun K hK => ?_) AllReadyH.nil
        case hi34 => simp only [List.getElem?_toArray, List.getElem?_cons_succ, List.getElem?_cons_zero]; rfl
        go_simp
        refine hK.out _ _ (P7.out) (fun hHeld2 => ?_)
        clear hK K hHeld
        have hHeld := hHeld2
        clear hHeld2
        try simp only [Act.put, List.setIfInBounds_toArray, List.set_cons_zero, List.set_cons_succ]
        refine wpAnyH_done (by kernel_rfl) ?_ _
        clear hHeld
        go_wp2_with fail
        go_end0
        exact ⟨rfl, K.out⟩
    · go_simp
      refine hK.out _ _ (P0.out) (fun hHeld2 => ?_)
      clear hK K hHeld
      have hHeld := hHeld2
      clear hHeld2
      try simp only [Act.put, List.setIfInBounds_toArray, List.set_cons_zero, List.set_cons_succ]
      refine wpAnyH_take (i := 7) (oi := ?oi35) (v := ?v35) ?hi35 ?hs35 ?hf35 ?hr35 ?hQ35 (Or.inl ⟨?hg35, ?hy35⟩) hHeld ?rest35
      case hi35 => simp only [List.getElem?_toArray, List.getElem?_cons_succ, List.getElem?_cons_zero]; rfl
      case hs35 => kernel_rfl
      case hf35 => kernel_rfl
      case hr35 => kernel_rfl
      case hg35 => rfl
      case hy35 => (intro w hSw; have x0 := hsl1; first | (go_simp; done) | (go_simp; with_reducible rfl))
      case hQ35 => exact fun _ _ _ h => h
      try simp only [Act.put, List.setIfInBounds_toArray, List.set_cons_zero, List.set_cons_succ]
      refine wpAnyH_ready (rs := [1, 12]) (by kernel_rfl) (by simp) ?_
      refine AllReadyH.cons (o := ?o36_0) ?h36_0 (fun K hK => ?_) (AllReadyH.cons (o := ?o36_1) ?h36_1 (fun K hK => ?_) AllReadyH.nil)
      case h36_0 => simp only [List.getElem?_toArray, List.getElem?_cons_succ, List.getElem?_cons_zero]; rfl
      case h36_1 => simp only [List.getElem?_toArray, List.getElem?_cons_succ, List.getElem?_cons_zero]; rfl
      · go_simp
        refine hK.out _ _ (P1.out) (fun hHeld2 => ?_)
        clear hK K hHeld
        have hHeld := hHeld2
        clear hHeld2
        try simp only [Act.put, List.setIfInBounds_toArray, List.set_cons_zero, List.set_cons_succ]
        refine wpAnyH_ready (rs := [8, 12]) (by kernel_rfl) (by simp) ?_
        refine AllReadyH.cons (o := ?o37_0) ?h37_0 (fun K hK => ?_) (AllReadyH.cons (o := ?o37_1) ?h37_1 (fun K hK => ?_) AllReadyH.nil)
        case h37_0 => simp only [List.getElem?_toArray, List.getElem?_cons_succ, List.getElem?_cons_zero]; rfl
        case h37_1 => simp only [List.getElem?_toArray, List.getElem?_cons_succ, List.getElem?_cons_zero]; rfl
        · refine step_append_run rfl (.tmp 11) (.tmp 17) 130 130 rfl rfl rfl hap5 ?_
          refine hK.out _ _ (P5.out) (fun hHeld2 => ?_)
          clear hK K hHeld
          have hHeld := hHeld2
          clear hHeld2
          try simp only [Act.put, List.setIfInBounds_toArray, List.set_cons_zero, List.set_cons_succ]
          refine wpAnyH_ready (rs := [12]) (by kernel_rfl) (by simp) ?_
          refine AllReadyH.cons (o := ?oi38) ?hi38 (fun K hK => ?_) AllReadyH.nil
          case hi38 => simp only [List.getElem?_toArray, List.getElem?_cons_succ, List.getElem?_cons_zero]; rfl
          go_simp
          refine hK.out _ _ (P5.out) (fun hHeld2 => ?_)
          clear hK K hHeld
          have hHeld := hHeld2
          clear hHeld2
          try simp only [Act.put, List.setIfInBounds_toArray, List.set_cons_zero, List.set_cons_succ]
          refine wpAnyH_take (i := 15) (oi := ?oi39) (v := ?v39) ?hi39 ?hs39 ?hf39 ?hr39 ?hQ39 (Or.inl ⟨?hg39, ?hy39⟩) hHeld ?rest39
          case hi39 => simp only [List.getElem?_toArray, List.getElem?_cons_succ, List.getElem?_cons_zero]; rfl
          case hs39 => kernel_rfl
          case hf39 => kernel_rfl
          case hr39 => kernel_rfl
          case hg39 => rfl
          case hy39 => (intro w hSw; have x0 := hsl2; first | (go_simp; done) | (go_simp; with_reducible rfl))
          case hQ39 => exact fun _ _ _ h => h
          try simp only [Act.put, List.setIfInBounds_toArray, List.set_cons_zero, List.set_cons_succ]
          refine wpAnyH_ready (rs := [16]) (by kernel_rfl) (by simp) ?_
          refine AllReadyH.cons (o := ?oi40) ?hi40 (fun K hK => ?_) AllReadyH.nil
          case hi40 => simp only [List.getElem?_toArray, List.getElem?_cons_succ, List.getElem?_cons_zero]; rfl
          refine step_append_run rfl (.tmp 18) (.tmp 25) 130 130 rfl rfl rfl hap6 ?_
          refine hK.out _ _ (P6.out) (fun hHeld2 => ?_)
          clear hK K hHeld
          have hHeld := hHeld2
          clear hHeld2
          try simp only [Act.put, List.setIfInBounds_toArray, List.set_cons_zero, List.set_cons_succ]
          refine wpAnyH_take (i := 17) (oi := ?oi41) (v := ?v41) ?hi41 ?hs41 ?hf41 ?hr41 ?hQ41 (Or.inl ⟨?hg41, ?hy41⟩) hHeld ?rest41
          case hi41 => simp only [List.getElem?_toArray, List.getElem?_cons_succ, List.getElem?_cons_zero]; rfl
          case hs41 => kernel_rfl
          case hf41 => kernel_rfl
          case hr41 => kernel_rfl
          case hg41 => rfl
          case hy41 => (intro w hSw; first | (go_simp; done) | (go_simp; with_reducible rfl))
          case hQ41 => exact fun _ _ _ h => h
          try simp only [Act.put, List.setIfInBounds_toArray, List.set_cons_zero, List.set_cons_succ]
          refine wpAnyH_take (i := 18) (oi := ?oi42) (v := ?v42) ?hi42 ?hs42 ?hf42 ?hr42 ?hQ42 (Or.inl ⟨?hg42, ?hy42⟩) hHeld ?rest42
          case hi42 => simp only [List.getElem?_toArray, List.getElem?_cons_succ, List.getElem?_cons_zero]; rfl
          case hs42 => kernel_rfl
          case hf42 => kernel_rfl
          case hr42 => kernel_rfl
          case hg42 => rfl
          case hy42 => (intro w hSw; first | (go_simp; done) | (go_simp; with_reducible rfl))
          case hQ42 => exact fun _ _ _ h => h
          try simp only [Act.put, List.setIfInBounds_toArray, List.set_cons_zero, List.set_cons_succ]
          refine wpAnyH_ready (rs := [19]) (by kernel_rfl) (by simp) ?_
          refine AllReadyH.cons (o := ?oi43) ?hi43 (fun K hK => ?_) AllReadyH.nil
          case hi43 => simp only [List.getElem?_toArray, List.getElem?_cons_succ, List.getElem?_cons_zero]; rfl
          go_simp
          refine hK.out _ _ (P7.out) (fun hHeld2 => ?_)
          clear hK K hHeld
          have hHeld := hHeld2
          clear hHeld2
          try simp only [Act.put, List.setIfInBounds_toArray, List.set_cons_zero, List.set_cons_succ]
          refine wpAnyH_done (by kernel_rfl) ?_ _
          clear hHeld
          go_wp2_with fail
          go_end0
          exact ⟨rfl, K.out⟩
        · go_simp
          refine hK.out _ _ (P1.out) (fun hHeld2 => ?_)
          clear hK K hHeld
          have hHeld := hHeld2
          clear hHeld2
          try simp only [Act.put, List.setIfInBounds_toArray, List.set_cons_zero, List.set_cons_succ]
          refine wpAnyH_take (i := 15) (oi := ?oi44) (v := ?v44) ?hi44 ?hs44 ?hf44 ?hr44 ?hQ44 (Or.inl ⟨?hg44, ?hy44⟩) hHeld ?rest44
          case hi44 => simp only [List.getElem?_toArray, List.getElem?_cons_succ, List.getElem?_cons_zero]; rfl
          case hs44 => kernel_rfl
          case hf44 => kernel_rfl
          case hr44 => kernel_rfl
          case hg44 => rfl
          case hy44 => (intro w hSw; have x0 := hsl2; first | (go_simp; done) | (go_simp; with_reducible rfl))
          case hQ44 => exact fun _ _ _ h => h
          try simp only [Act.put, List.setIfInBounds_toArray, List.set_cons_zero, List.set_cons_succ]
          refine wpAnyH_ready (rs := [8]) (by kernel_rfl) (by simp) ?_
          refine AllReadyH.cons (o := ?oi45) ?hi45 (fun K hK => ?_) AllReadyH.nil
          case hi45 => simp only [List.getElem?_toArray, List.getElem?_cons_succ, List.getElem?_cons_zero]; rfl
          refine step_append_run rfl (.tmp 11) (.tmp 17) 130 130 rfl rfl rfl hap5 ?_
          refine hK.out _ _ (P5.out) (fun hHeld2 => ?_)
          clear hK K hHeld
          have hHeld := hHeld2
          clear hHeld2
          try simp only [Act.put, List.setIfInBounds_toArray, List.set_cons_zero, List.set_cons_succ]
          refine wpAnyH_ready (rs := [16]) (by kernel_rfl) (by simp) ?_
          refine AllReadyH.cons (o := ?oi46) ?hi46 (fun K hK => ?_) AllReadyH.nil
          case hi46 => simp only [List.getElem?_toArray, List.getElem?_cons_succ, List.getElem?_cons_zero]; rfl
          refine step_append_run rfl (.tmp 18) (.tmp 25) 130 130 rfl rfl rfl hap6 ?_
          refine hK.out _ _ (P6.out) (fun hHeld2 => ?_)
          clear hK K hHeld
          have hHeld := hHeld2
          clear hHeld2
          try simp only [Act.put, List.setIfInBounds_toArray, List.set_cons_zero, List.set_cons_succ]
          refine wpAnyH_take (i := 17) (oi := ?oi47) (v := ?v47) ?hi47 ?hs47 ?hf47 ?hr47 ?hQ47 (Or.inl ⟨?hg47, ?hy47⟩) hHeld ?rest47
          case hi47 => simp only [List.getElem?_toArray, List.getElem?_cons_succ, List.getElem?_cons_zero]; rfl
          case hs47 => kernel_rfl
          case hf47 => kernel_rfl
          case hr47 => kernel_rfl
          case hg47 => rfl
          case hy47 => (intro w hSw; first | (go_simp; done) | (go_simp; with_reducible rfl))
          case hQ47 => exact fun _ _ _ h => h
          try simp only [Act.put, List.setIfInBounds_toArray, List.set_cons_zero, List.set_cons_succ]
          refine wpAnyH_take (i := 18) (oi := ?oi48) (v := ?v48) ?hi48 ?hs48 ?hf48 ?hr48 ?hQ48 (Or.inl ⟨?hg48, ?hy48⟩) hHeld ?rest48
          case hi48 => simp only [List.getElem?_toArray, List.getElem?_cons_succ, List.getElem?_cons_zero]; rfl
          case hs48 => kernel_rfl
          case hf48 => kernel_rfl
          case hr48 => kernel_rfl
          case hg48 => rfl
          case hy48 => (intro w hSw; first | (go_simp; done) | (go_simp; with_reducible rfl))
          case hQ48 => exact fun _ _ _ h => h
          try simp only [Act.put, List.setIfInBounds_toArray, List.set_cons_zero, List.set_cons_succ]
          refine wpAnyH_ready (rs := [19]) (by kernel_rfl) (by simp) ?_
          refine AllReadyH.cons (o := ?oi49) ?hi49 (fun K hK => ?_) AllReadyH.nil
          case hi49 => simp only [List.getElem?_toArray, List.getElem?_cons_succ, List.getElem?_cons_zero]; rfl
          go_simp
          refine hK.out _ _ (P7.out) (fun hHeld2 => ?_)
          clear hK K hHeld
          have hHeld := hHeld2
          clear hHeld2
          try simp only [Act.put, List.setIfInBounds_toArray, List.set_cons_zero, List.set_cons_succ]
          refine wpAnyH_done (by kernel_rfl) ?_ _
          clear hHeld
          go_wp2_with fail
          go_end0
          exact ⟨rfl, K.out⟩
      · go_simp
        refine hK.out _ _ (P0.out) (fun hHeld2 => ?_)
        clear hK K hHeld
        have hHeld := hHeld2
        clear hHeld2
        try simp only [Act.put, List.setIfInBounds_toArray, List.set_cons_zero, List.set_cons_succ]
        refine wpAnyH_take (i := 15) (oi := ?oi50) (v := ?v50) ?hi50 ?hs50 ?hf50 ?hr50 ?hQ50 (Or.inl ⟨?hg50, ?hy50⟩) hHeld ?rest50
        case hi50 => simp only [List.getElem?_toArray, List.getElem?_cons_succ, List.getElem?_cons_zero]; rfl
        case hs50 => kernel_rfl
        case hf50 => kernel_rfl
        case hr50 => kernel_rfl
        case hg50 => rfl
        case hy50 => (intro w hSw; have x0 := hsl2; first | (go_simp; done) | (go_simp; with_reducible rfl))
        case hQ50 => exact fun _ _ _ h => h
        try simp only [Act.put, List.setIfInBounds_toArray, List.set_cons_zero, List.set_cons_succ]
        refine wpAnyH_ready (rs := [1]) (by kernel_rfl) (by simp) ?_
        refine AllReadyH.cons (o := ?oi51) ?hi51 (fun K hK => ?_) AllReadyH.nil
        case hi51 => simp only [List.getElem?_toArray, List.getElem?_cons_succ, List.getElem?_cons_zero]; rfl
        go_simp
        refine hK.out _ _ (P1.out) (fun hHeld2 => ?_)
        clear hK K hHeld
        have hHeld := hHeld2
        clear hHeld2
        try simp only [Act.put, List.setIfInBounds_toArray, List.set_cons_zero, List.set_cons_succ]
        refine wpAnyH_ready (rs := [8]) (by kernel_rfl) (by simp) ?_
        refine AllReadyH.cons (o := ?oi52) ?hi52 (fun K hK => ?_) AllReadyH.nil
        case hi52 => simp only [List.getElem?_toArray, List.getElem?_cons_succ, List.getElem?_cons_zero]; rfl
        refine step_append_run rfl (.tmp 11) (.tmp 17) 130 130 rfl rfl rfl hap5 ?_
        refine hK.out _ _ (P5.out) (fun hHeld2 => ?_)
        clear hK K hHeld
        have hHeld := hHeld2
        clear hHeld2
        try simp only [Act.put, List.setIfInBounds_toArray, List.set_cons_zero, List.set_cons_succ]
        refine wpAnyH_ready (rs := [16]) (by kernel_rfl) (by simp) ?_
        refine AllReadyH.cons (o := ?oi53) ?hi53 (fun K hK => ?_) AllReadyH.nil
        case hi53 => simp only [List.getElem?_toArray, List.getElem?_cons_succ, List.getElem?_cons_zero]; rfl
        refine step_append_run rfl (.tmp 18) (.tmp 25) 130 130 rfl rfl rfl hap6 ?_
        refine hK.out _ _ (P6.out) (fun hHeld2 => ?_)
        clear hK K hHeld
        have hHeld := hHeld2
        clear hHeld2
        try simp only [Act.put, List.setIfInBounds_toArray, List.set_cons_zero, List.set_cons_succ]
        refine wpAnyH_take (i := 17) (oi := ?oi54) (v := ?v54) ?hi54 ?hs54 ?hf54 ?hr54 ?hQ54 (Or.inl ⟨?hg54, ?hy54⟩) hHeld ?rest54
        case hi54 => simp only [List.getElem?_toArray, List.getElem?_cons_succ, List.getElem?_cons_zero]; rfl
        case hs54 => kernel_rfl
        case hf54 => kernel_rfl
        case hr54 => kernel_rfl
        case hg54 => rfl
        case hy54 => (intro w hSw; first | (go_simp; done) | (go_simp; with_reducible rfl))
        case hQ54 => exact fun _ _ _ h => h
        try simp only [Act.put, List.setIfInBounds_toArray, List.set_cons_zero, List.set_cons_succ]
        refine wpAnyH_take (i := 18) (oi := ?oi55) (v := ?v55) ?hi55 ?hs55 ?hf55 ?hr55 ?hQ55 (Or.inl ⟨?hg55, ?hy55⟩) hHeld ?rest55
        case hi55 => simp only [List.getElem?_toArray, List.getElem?_cons_succ, List.getElem?_cons_zero]; rfl
        case hs55 => kernel_rfl
        case hf55 => kernel_rfl
        case hr55 => kernel_rfl
        case hg55 => rfl
        case hy55 => (intro w hSw; first | (go_simp; done) | (go_simp; with_reducible rfl))
        case hQ55 => exact fun _ _ _ h => h
        try simp only [Act.put, List.setIfInBounds_toArray, List.set_cons_zero, List.set_cons_succ]
        refine wpAnyH_ready (rs := [19]) (by kernel_rfl) (by simp) ?_
        refine AllReadyH.cons (o := ?oi56) ?hi56 (fun K hK => ?_) AllReadyH.nil
        case hi56 => simp only [List.getElem?_toArray, List.getElem?_cons_succ, List.getElem?_cons_zero]; rfl
        go_simp
        refine hK.out _ _ (P7.out) (fun hHeld2 => ?_)
        clear hK K hHeld
        have hHeld := hHeld2
        clear hHeld2
        try simp only [Act.put, List.setIfInBounds_toArray, List.set_cons_zero, List.set_cons_succ]
        refine wpAnyH_done (by kernel_rfl) ?_ _
        clear hHeld
        go_wp2_with fail
        go_end0
        exact ⟨rfl, K.out⟩
    · go_simp
      refine hK.out _ _ (P0.out) (fun hHeld2 => ?_)
      clear hK K hHeld
      have hHeld := hHeld2
      clear hHeld2
      try simp only [Act.put, List.setIfInBounds_toArray, List.set_cons_zero, List.set_cons_succ]
      refine wpAnyH_take (i := 15) (oi := ?oi57) (v := ?v57) ?hi57 ?hs57 ?hf57 ?hr57 ?hQ57 (Or.inl ⟨?hg57, ?hy57⟩) hHeld ?rest57
      case hi57 => simp only [List.getElem?_toArray, List.getElem?_cons_succ, List.getElem?_cons_zero]; rfl
      case hs57 => kernel_rfl
      case hf57 => kernel_rfl
      case hr57 => kernel_rfl
      case hg57 => rfl
      case hy57 => (intro w hSw; have x0 := hsl2; first | (go_simp; done) | (go_simp; with_reducible rfl))
      case hQ57 => exact fun _ _ _ h => h
      try simp only [Act.put, List.setIfInBounds_toArray, List.set_cons_zero, List.set_cons_succ]
      refine wpAnyH_ready (rs := [1, 5]) (by kernel_rfl) (by simp) ?_
      refine AllReadyH.cons (o := ?o58_0) ?h58_0 (fun K hK => ?_) (AllReadyH.cons (o := ?o58_1) ?h58_1 (fun K hK => ?_) AllReadyH.nil)
      case h58_0 => simp only [List.getElem?_toArray, List.getElem?_cons_succ, List.getElem?_cons_zero]; rfl
      case h58_1 => simp only [List.getElem?_toArray, List.getElem?_cons_succ, List.getElem?_cons_zero]; rfl
      · go_simp
        refine hK.out _ _ (P1.out) (fun hHeld2 => ?_)
        clear hK K hHeld
        have hHeld := hHeld2
        clear hHeld2
        try simp only [Act.put, List.setIfInBounds_toArray, List.set_cons_zero, List.set_cons_succ]
        refine wpAnyH_ready (rs := [5]) (by kernel_rfl) (by simp) ?_
        refine AllReadyH.cons (o := ?oi59) ?hi59 (fun K hK => ?_) AllReadyH.nil
        case hi59 => simp only [List.getElem?_toArray, List.getElem?_cons_succ, List.getElem?_cons_zero]; rfl
        go_simp
        refine hK.out _ _ (P1.out) (fun hHeld2 => ?_)
        clear hK K hHeld
        have hHeld := hHeld2
        clear hHeld2
        try simp only [Act.put, List.setIfInBounds_toArray, List.set_cons_zero, List.set_cons_succ]
        refine wpAnyH_take (i := 7) (oi := ?oi60) (v := ?v60) ?hi60 ?hs60 ?hf60 ?hr60 ?hQ60 (Or.inl ⟨?hg60, ?hy60⟩) hHeld ?rest60
        case hi60 => simp only [List.getElem?_toArray, List.getElem?_cons_succ, List.getElem?_cons_zero]; rfl
        case hs60 => kernel_rfl
        case hf60 => kernel_rfl
        case hr60 => kernel_rfl
        case hg60 => rfl
        case hy60 => (intro w hSw; have x0 := hsl1; first | (go_simp; done) | (go_simp; with_reducible rfl))
        case hQ60 => exact fun _ _ _ h => h
        try simp only [Act.put, List.setIfInBounds_toArray, List.set_cons_zero, List.set_cons_succ]
        refine wpAnyH_ready (rs := [8]) (by kernel_rfl) (by simp) ?_
        refine AllReadyH.cons (o := ?oi61) ?hi61 (fun K hK => ?_) AllReadyH.nil
        case hi61 => simp only [List.getElem?_toArray, List.getElem?_cons_succ, List.getElem?_cons_zero]; rfl
        refine step_append_run rfl (.tmp 11) (.tmp 17) 130 130 rfl rfl rfl hap5 ?_
        refine hK.out _ _ (P5.out) (fun hHeld2 => ?_)
        clear hK K hHeld
        have hHeld := hHeld2
        clear hHeld2
        try simp only [Act.put, List.setIfInBounds_toArray, List.set_cons_zero, List.set_cons_succ]
        refine wpAnyH_ready (rs := [16]) (by kernel_rfl) (by simp) ?_
        refine AllReadyH.cons (o := ?oi62) ?hi62 (fun K hK => ?_) AllReadyH.nil
        case hi62 => simp only [List.getElem?_toArray, List.getElem?_cons_succ, List.getElem?_cons_zero]; rfl
        refine step_append_run rfl (.tmp 18) (.tmp 25) 130 130 rfl rfl rfl hap6 ?_
        refine hK.out _ _ (P6.out) (fun hHeld2 => ?_)
        clear hK K hHeld
        have hHeld := hHeld2
        clear hHeld2
        try simp only [Act.put, List.setIfInBounds_toArray, List.set_cons_zero, List.set_cons_succ]
        refine wpAnyH_take (i := 17) (oi := ?oi63) (v := ?v63) ?hi63 ?hs63 ?hf63 ?hr63 ?hQ63 (Or.inl ⟨?hg63, ?hy63⟩) hHeld ?rest63
        case hi63 => simp only [List.getElem?_toArray, List.getElem?_cons_succ, List.getElem?_cons_zero]; rfl
        case hs63 => kernel_rfl
        case hf63 => kernel_rfl
        case hr63 => kernel_rfl
        case hg63 => rfl
        case hy63 => (intro w hSw; first | (go_simp; done) | (go_simp; with_reducible rfl))
        case hQ63 => exact fun _ _ _ h => h
        try simp only [Act.put, List.setIfInBounds_toArray, List.set_cons_zero, List.set_cons_succ]
        refine wpAnyH_take (i := 18) (oi := ?oi64) (v := ?v64) ?hi64 ?hs64 ?hf64 ?hr64 ?hQ64 (Or.inl ⟨?hg64, ?hy64⟩) hHeld ?rest64
        case hi64 => simp only [List.getElem?_toArray, List.getElem?_cons_succ, List.getElem?_cons_zero]; rfl
        case hs64 => kernel_rfl
        case hf64 => kernel_rfl
        case hr64 => kernel_rfl
        case hg64 => rfl
        case hy64 => (intro w hSw; first | (go_simp; done) | (go_simp; with_reducible rfl))
        case hQ64 => exact fun _ _ _ h => h
        try simp only [Act.put, List.setIfInBounds_toArray, List.set_cons_zero, List.set_cons_succ]
        refine wpAnyH_ready (rs := [19]) (by kernel_rfl) (by simp) ?_
        refine AllReadyH.cons (o := ?oi65) ?hi65 (fun K hK => ?_) AllReadyH.nil
        case hi65 => simp only [List.getElem?_toArray, List.getElem?_cons_succ, List.getElem?_cons_zero]; rfl
        go_simp
        refine hK.out _ _ (P7.out) (fun hHeld2 => ?_)
        clear hK K hHeld
        have hHeld := hHeld2
        clear hHeld2
        try simp only [Act.put, List.setIfInBounds_toArray, List.set_cons_zero, List.set_cons_succ]
        refine wpAnyH_done (by kernel_rfl) ?_ _
        clear hHeld
        go_wp2_with fail
        go_end0
        exact ⟨rfl, K.out⟩
      · go_simp
        refine hK.out _ _ (P0.out) (fun hHeld2 => ?_)
        clear hK K hHeld
        have hHeld := hHeld2
        clear hHeld2
        try simp only [Act.put, List.setIfInBounds_toArray, List.set_cons_zero, List.set_cons_succ]
        refine wpAnyH_take (i := 7) (oi := ?oi66) (v := ?v66) ?hi66 ?hs66 ?hf66 ?hr66 ?hQ66 (Or.inl ⟨?hg66, ?hy66⟩) hHeld ?rest66
        case hi66 => simp only [List.getElem?_toArray, List.getElem?_cons_succ, List.getElem?_cons_zero]; rfl
        case hs66 => kernel_rfl
        case hf66 => kernel_rfl
        case hr66 => kernel_rfl
        case hg66 => rfl
        case hy66 => (intro w hSw; have x0 := hsl1; first | (go_simp; done) | (go_simp; with_reducible rfl))
        case hQ66 => exact fun _ _ _ h => h
        try simp only [Act.put, List.setIfInBounds_toArray, List.set_cons_zero, List.set_cons_succ]
        refine wpAnyH_ready (rs := [1]) (by kernel_rfl) (by simp) ?_
        refine AllReadyH.cons (o := ?oi67) ?hi67 (fun K hK => ?_) AllReadyH.nil
        case hi67 => simp only [List.getElem?_toArray, List.getElem?_cons_succ, List.getElem?_cons_zero]; rfl
        go_simp
        refine hK.out _ _ (P1.out) (fun hHeld2 => ?_)
        clear hK K hHeld
        have hHeld := hHeld2
        clear hHeld2
        try simp only [Act.put, List.setIfInBounds_toArray, List.set_cons_zero, List.set_cons_succ]
        refine wpAnyH_ready (rs := [8]) (by kernel_rfl) (by simp) ?_
        refine AllReadyH.cons (o := ?oi68) ?hi68 (fun K hK => ?_) AllReadyH.nil
        case hi68 => simp only [List.getElem?_toArray, List.getElem?_cons_succ, List.getElem?_cons_zero]; rfl
        refine step_append_run rfl (.tmp 11) (.tmp 17) 130 130 rfl rfl rfl hap5 ?_
        refine hK.out _ _ (P5.out) (fun hHeld2 => ?_)
        clear hK K hHeld
        have hHeld := hHeld2
        clear hHeld2
        try simp only [Act.put, List.setIfInBounds_toArray, List.set_cons_zero, List.set_cons_succ]
        refine wpAnyH_ready (rs := [16]) (by kernel_rfl) (by simp) ?_
        refine AllReadyH.cons (o := ?oi69) ?hi69 (fun K hK => ?_) AllReadyH.nil
        case hi69 => simp only [List.getElem?_toArray, List.getElem?_cons_succ, List.getElem?_cons_zero]; rfl
        refine step_append_run rfl (.tmp 18) (.tmp 25) 130 130 rfl rfl rfl hap6 ?_
        refine hK.out _ _ (P6.out) (fun hHeld2 => ?_)
        clear hK K hHeld
        have hHeld := hHeld2
        clear hHeld2
        try simp only [Act.put, List.setIfInBounds_toArray, List.set_cons_zero, List.set_cons_succ]
        refine wpAnyH_take (i := 17) (oi := ?oi70) (v := ?v70) ?hi70 ?hs70 ?hf70 ?hr70 ?hQ70 (Or.inl ⟨?hg70, ?hy70⟩) hHeld ?rest70
        case hi70 => simp only [List.getElem?_toArray, List.getElem?_cons_succ, List.getElem?_cons_zero]; rfl
        case hs70 => kernel_rfl
        case hf70 => kernel_rfl
        case hr70 => kernel_rfl
        case hg70 => rfl
        case hy70 => (intro w hSw; first | (go_simp; done) | (go_simp; with_reducible rfl))
        case hQ70 => exact fun _ _ _ h => h
        try simp only [Act.put, List.setIfInBounds_toArray, List.set_cons_zero, List.set_cons_succ]
        refine wpAnyH_take (i := 18) (oi := ?oi71) (v := ?v71) ?hi71 ?hs71 ?hf71 ?hr71 ?hQ71 (Or.inl ⟨?hg71, ?hy71⟩) hHeld ?rest71
        case hi71 => simp only [List.getElem?_toArray, List.getElem?_cons_succ, List.getElem?_cons_zero]; rfl
        case hs71 => kernel_rfl
        case hf71 => kernel_rfl
        case hr71 => kernel_rfl
        case hg71 => rfl
        case hy71 => (intro w hSw; first | (go_simp; done) | (go_simp; with_reducible rfl))
        case hQ71 => exact fun _ _ _ h => h
        try simp only [Act.put, List.setIfInBounds_toArray, List.set_cons_zero, List.set_cons_succ]
        refine wpAnyH_ready (rs := [19]) (by kernel_rfl) (by simp) ?_
        refine AllReadyH.cons (o := ?oi72) ?hi72 (fun K hK => ?_) AllReadyH.nil
        case hi72 => simp only [List.getElem?_toArray, List.getElem?_cons_succ, List.getElem?_cons_zero]; rfl
        go_simp
        refine hK.out _ _ (P7.out) (fun hHeld2 => ?_)
        clear hK K hHeld
        have hHeld := hHeld2
        clear hHeld2
        try simp only [Act.put, List.setIfInBounds_toArray, List.set_cons_zero, List.set_cons_succ]
        refine wpAnyH_done (by kernel_rfl) ?_ _
        clear hHeld
        go_wp2_with fail
        go_end0
        exact ⟨rfl, K.out⟩
end Go.Proofs.YtlbbehfbjbbckaaGreatDoor
