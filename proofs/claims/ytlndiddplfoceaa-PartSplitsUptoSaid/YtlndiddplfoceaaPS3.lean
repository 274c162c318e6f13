import Derived.Test.YtlndiddplfoceaaAwk
import Derived.Test.YtlndiddplfoceaaRegH
set_option linter.unusedVariables false
set_option linter.unusedSimpArgs false
namespace Go.Proofs.Ytlndiddplfoceaa
open Go.RowKit

set_option maxRecDepth 100000 in
set_option maxHeartbeats 1000000 in
theorem partSplits_any (A X0 X1 : Option Addr) (n c n0 c0 n1 c1 : Nat) (l : List OpV) (old : Int) (b0 b1 : List UInt8) (w : World) (hs : Sl 3 w A n (encsO l)) (hn : n ≤ 1099511627776)
    (hlo : -9223372036854775808 ≤ old) (hhi : old ≤ 9223372036854775807) (hin : ∀ o ∈ l, -9223372036854775808 ≤ o.off ∧ o.off ≤ 9223372036854775807)
    (hd : ∀ o ∈ l, Sl 1 w o.A o.n (bys o.d) ∧ o.n ≤ 1099511627776) (h0 : Sl 1 w X0 n0 (bys b0)) (h1 : Sl 1 w X1 n1 (bys b1)) (hn0 : n0 ≤ 1099511627776) (hn1 : n1 ≤ 1099511627776) :
    Calls Try.prog 3 #[.slice A n c, .int .i64 old, .agg #[.slice X0 n0 c0, .slice X1 n1 c1]] w fun e w' => e = .returned (.bool true) ∧ Below w.heap.size w w' := by
  have HS := Lib.hid hs
  have HD := Lib.hid hd
  have HIN := Lib.hid hin
  have H0 := Lib.hid h0
  have H1 := Lib.hid h1
  clear hs hd hin h0 h1
  go_enter Try.func3, Try.ntmps3
  go_wp2_with fail
  have hbk : Blk (w.alloc (.cells #[Value.slice X0 n0 c0, .slice X1 n1 c1] 24)) w.heap.size 24 [.slice X0 n0 c0, .slice X1 n1 c1] := Blk.new w _ _
  have hbA : Below w.heap.size w (w.alloc (.cells #[Value.slice X0 n0 c0, .slice X1 n1 c1] 24)) := (Below.refl _ _).alloc (Nat.le_refl _) _
  generalize hwA : w.alloc (.cells #[Value.slice X0 n0 c0, .slice X1 n1 c1] 24) = wA at *
  have a0 : wA.cell? ⟨w.heap.size, 0, none⟩ = some (.slice X0 n0 c0) := hbk.cell 0
  have a1 : wA.cell? ⟨w.heap.size, 1, none⟩ = some (.slice X1 n1 c1) := hbk.cell 1
  have hdA : ∀ o ∈ l, Sl 1 wA.drew o.A o.n (bys o.d) ∧ o.n ≤ 1099511627776 := fun o ho => ⟨((HD.out o ho).1.below hbA).drew, (HD.out o ho).2⟩
  have HDA := Lib.hid hdA
  have HSA := Lib.hid ((HS.out.below hbA).drew)
  have HBK := Lib.hid (Blk.drew hbk)
  have HBA := Lib.hid (Below.drew hbA)
  clear hbk hbA hdA hwA
  refine wp_region_held_drew (S := fun w' => Below (wA.drew).heap.size (wA.drew) w') (by kernel_rfl) (Below.refl _ _) (fun hHeld => ?_)
  refine wpAnyH_take (i := 0) (oi := ?oi1) (v := ?v1) ?hi1 ?hs1 ?hf1 ?hr1 ?hQ1 (Or.inl ⟨?hg1, ?hy1⟩) hHeld ?rest1
  case hi1 => simp only [List.getElem?_toArray, List.getElem?_cons_succ, List.getElem?_cons_zero]; rfl
  case hs1 => kernel_rfl
  case hf1 => kernel_rfl
  case hr1 => kernel_rfl
  case hg1 => rfl
  case hy1 => (intro w hSw; first | (go_simp; done) | (go_simp; with_reducible rfl))
  case hQ1 => exact fun _ _ _ h => h
  try simp only [Act.put, List.setIfInBounds_toArray, List.set_cons_zero, List.set_cons_succ]
  refine wpAnyH_take (i := 1) (oi := ?oi2) (v := ?v2) ?hi2 ?hs2 ?hf2 ?hr2 ?hQ2 (Or.inl ⟨?hg2, ?hy2⟩) hHeld ?rest2
  case hi2 => simp only [List.getElem?_toArray, List.getElem?_cons_succ, List.getElem?_cons_zero]; rfl
  case hs2 => kernel_rfl
  case hf2 => kernel_rfl
  case hr2 => kernel_rfl
  case hg2 => rfl
  case hy2 => (intro w hSw; first | (go_simp; done) | (go_simp; with_reducible rfl))
  case hQ2 => exact fun _ _ _ h => h
  try simp only [Act.put, List.setIfInBounds_toArray, List.set_cons_zero, List.set_cons_succ]
  refine wpAnyH_ready (rs := [2]) (by kernel_rfl) (by simp) ?_
  refine AllReadyH.cons (o := ?oi3) ?hi3 (fun K hK => ?_) AllReadyH.nil
  case hi3 => simp only [List.getElem?_toArray, List.getElem?_cons_succ, List.getElem?_cons_zero]; rfl
  go_simp; go_at_call 5; refine (splits_any A n c l old _ HSA.out hn hlo hhi HIN.out HDA.out).mono ?_; rintro e w1 ⟨rfl, hb1⟩; go_wp2_with fail
  refine hK.out _ _ (hb1) (fun _ => ?_)
  clear hK K hHeld
  refine wpAnyH_change (S' := fun w' => Below (w1).heap.size (w1) w') (fun w' h => (hb1).trans (h.mono (hb1).size)) _ _ _ _ ?_
  have hHeld : Below (w1).heap.size (w1) (w1) := Below.refl _ _
  try simp only [Act.put, List.setIfInBounds_toArray, List.set_cons_zero, List.set_cons_succ]
  have HB1 := Lib.hid (HBA.out.trans (hb1.mono HBA.out.size))
  have HK1 := Lib.hid (HBK.out.below hb1)
  clear hb1
  refine wpAnyH_take (i := 3) (oi := ?oi4) (v := ?v4) ?hi4 ?hs4 ?hf4 ?hr4 ?hQ4 (Or.inl ⟨?hg4, ?hy4⟩) hHeld ?rest4
  case hi4 => simp only [List.getElem?_toArray, List.getElem?_cons_succ, List.getElem?_cons_zero]; rfl
  case hs4 => kernel_rfl
  case hf4 => kernel_rfl
  case hr4 => kernel_rfl
  case hg4 => rfl
  case hy4 => (intro w hSw; first | (go_simp; done) | (go_simp; with_reducible rfl))
  case hQ4 => exact fun _ _ _ h => h
  try simp only [Act.put, List.setIfInBounds_toArray, List.set_cons_zero, List.set_cons_succ]
  refine wpAnyH_take (i := 4) (oi := ?oi5) (v := ?v5) ?hi5 ?hs5 ?hf5 ?hr5 ?hQ5 (Or.inl ⟨?hg5, ?hy5⟩) hHeld ?rest5
  case hi5 => simp only [List.getElem?_toArray, List.getElem?_cons_succ, List.getElem?_cons_zero]; rfl
  case hs5 => kernel_rfl
  case hf5 => kernel_rfl
  case hr5 => kernel_rfl
  case hg5 => rfl
  case hy5 => (intro w hSw; first | (go_simp; done) | (go_simp; with_reducible rfl))
  case hQ5 => exact fun _ _ _ h => h
  try simp only [Act.put, List.setIfInBounds_toArray, List.set_cons_zero, List.set_cons_succ]
  refine wpAnyH_take (i := 5) (oi := ?oi6) (v := ?v6) ?hi6 ?hs6 ?hf6 ?hr6 ?hQ6 (Or.inl ⟨?hg6, ?hy6⟩) hHeld ?rest6
  case hi6 => simp only [List.getElem?_toArray, List.getElem?_cons_succ, List.getElem?_cons_zero]; rfl
  case hs6 => kernel_rfl
  case hf6 => kernel_rfl
  case hr6 => kernel_rfl
  case hg6 => rfl
  case hy6 => (intro w hSw; have x0 := (HK1.out.below hSw).cell 0; first | (go_simp; done) | (go_simp; with_reducible rfl))
  case hQ6 => exact fun _ _ _ h => h
  try simp only [Act.put, List.setIfInBounds_toArray, List.set_cons_zero, List.set_cons_succ]
  refine wpAnyH_take (i := 6) (oi := ?oi7) (v := ?v7) ?hi7 ?hs7 ?hf7 ?hr7 ?hQ7 (Or.inl ⟨?hg7, ?hy7⟩) hHeld ?rest7
  case hi7 => simp only [List.getElem?_toArray, List.getElem?_cons_succ, List.getElem?_cons_zero]; rfl
  case hs7 => kernel_rfl
  case hf7 => kernel_rfl
  case hr7 => kernel_rfl
  case hg7 => rfl
  case hy7 => (intro w hSw; first | (go_simp; done) | (go_simp; with_reducible rfl))
  case hQ7 => exact fun _ _ _ h => h
  try simp only [Act.put, List.setIfInBounds_toArray, List.set_cons_zero, List.set_cons_succ]
  refine wpAnyH_take (i := 7) (oi := ?oi8) (v := ?v8) ?hi8 ?hs8 ?hf8 ?hr8 ?hQ8 (Or.inl ⟨?hg8, ?hy8⟩) hHeld ?rest8
  case hi8 => simp only [List.getElem?_toArray, List.getElem?_cons_succ, List.getElem?_cons_zero]; rfl
  case hs8 => kernel_rfl
  case hf8 => kernel_rfl
  case hr8 => kernel_rfl
  case hg8 => rfl
  case hy8 => (intro w hSw; have x1 := (HK1.out.below hSw).cell 1; first | (go_simp; done) | (go_simp; with_reducible rfl))
  case hQ8 => exact fun _ _ _ h => h
  try simp only [Act.put, List.setIfInBounds_toArray, List.set_cons_zero, List.set_cons_succ]
  refine wpAnyH_take (i := 10) (oi := ?oi9) (v := ?v9) ?hi9 ?hs9 ?hf9 ?hr9 ?hQ9 (Or.inl ⟨?hg9, ?hy9⟩) hHeld ?rest9
  case hi9 => simp only [List.getElem?_toArray, List.getElem?_cons_succ, List.getElem?_cons_zero]; rfl
  case hs9 => kernel_rfl
  case hf9 => kernel_rfl
  case hr9 => kernel_rfl
  case hg9 => rfl
  case hy9 => (intro w hSw; first | (go_simp; done) | (go_simp; with_reducible rfl))
  case hQ9 => exact fun _ _ _ h => h
  try simp only [Act.put, List.setIfInBounds_toArray, List.set_cons_zero, List.set_cons_succ]
  refine wpAnyH_take (i := 11) (oi := ?oi10) (v := ?v10) ?hi10 ?hs10 ?hf10 ?hr10 ?hQ10 (Or.inl ⟨?hg10, ?hy10⟩) hHeld ?rest10
  case hi10 => simp only [List.getElem?_toArray, List.getElem?_cons_succ, List.getElem?_cons_zero]; rfl
  case hs10 => kernel_rfl
  case hf10 => kernel_rfl
  case hr10 => kernel_rfl
  case hg10 => rfl
  case hy10 => (intro w hSw; have x0 := (HK1.out.below hSw).cell 0; first | (go_simp; done) | (go_simp; with_reducible rfl))
  case hQ10 => exact fun _ _ _ h => h
  try simp only [Act.put, List.setIfInBounds_toArray, List.set_cons_zero, List.set_cons_succ]
  refine wpAnyH_take (i := 12) (oi := ?oi11) (v := ?v11) ?hi11 ?hs11 ?hf11 ?hr11 ?hQ11 (Or.inl ⟨?hg11, ?hy11⟩) hHeld ?rest11
  case hi11 => simp only [List.getElem?_toArray, List.getElem?_cons_succ, List.getElem?_cons_zero]; rfl
  case hs11 => kernel_rfl
  case hf11 => kernel_rfl
  case hr11 => kernel_rfl
  case hg11 => rfl
  case hy11 => (intro w hSw; first | (go_simp; done) | (go_simp; with_reducible rfl))
  case hQ11 => exact fun _ _ _ h => h
  try simp only [Act.put, List.setIfInBounds_toArray, List.set_cons_zero, List.set_cons_succ]
  refine wpAnyH_take (i := 13) (oi := ?oi12) (v := ?v12) ?hi12 ?hs12 ?hf12 ?hr12 ?hQ12 (Or.inl ⟨?hg12, ?hy12⟩) hHeld ?rest12
  case hi12 => simp only [List.getElem?_toArray, List.getElem?_cons_succ, List.getElem?_cons_zero]; rfl
  case hs12 => kernel_rfl
  case hf12 => kernel_rfl
  case hr12 => kernel_rfl
  case hg12 => rfl
  case hy12 => (intro w hSw; have x1 := (HK1.out.below hSw).cell 1; first | (go_simp; done) | (go_simp; with_reducible rfl))
  case hQ12 => exact fun _ _ _ h => h
  try simp only [Act.put, List.setIfInBounds_toArray, List.set_cons_zero, List.set_cons_succ]
  refine wpAnyH_ready (rs := [8]) (by kernel_rfl) (by simp) ?_
  refine AllReadyH.cons (o := ?oi13) ?hi13 (fun K hK => ?_) AllReadyH.nil
  case hi13 => simp only [List.getElem?_toArray, List.getElem?_cons_succ, List.getElem?_cons_zero]; rfl
  go_simp; go_at_call 6; refine (both_any X0 X1 n0 c0 n1 c1 b0 b1 _ (H0.out.below HB1.out) (H1.out.below HB1.out) hn0 hn1).mono ?_; rintro e w2 ⟨R2, k2, rfl, hs2, hb2⟩; go_wp2_with fail
  refine hK.out _ _ (hb2) (fun _ => ?_)
  clear hK K hHeld
  refine wpAnyH_change (S' := fun w' => Below (w2).heap.size (w2) w') (fun w' h => (hb2).trans (h.mono (hb2).size)) _ _ _ _ ?_
  have hHeld : Below (w2).heap.size (w2) (w2) := Below.refl _ _
  try simp only [Act.put, List.setIfInBounds_toArray, List.set_cons_zero, List.set_cons_succ]
  have HB2 := Lib.hid (HB1.out.trans (hb2.mono HB1.out.size))
  have HS2 := Lib.hid hs2
  clear hb2 hs2
  refine wpAnyH_take (i := 9) (oi := ?oi14) (v := ?v14) ?hi14 ?hs14 ?hf14 ?hr14 ?hQ14 (Or.inl ⟨?hg14, ?hy14⟩) hHeld ?rest14
  case hi14 => simp only [List.getElem?_toArray, List.getElem?_cons_succ, List.getElem?_cons_zero]; rfl
  case hs14 => kernel_rfl
  case hf14 => kernel_rfl
  case hr14 => kernel_rfl
  case hg14 => rfl
  case hy14 => (intro w hSw; have hcv := run_conv_str (P := Try.prog) (src := 23) Try.underlying23 Try.underlying5 (dst := 9) Try.underlying9 (c := k2) (HS2.out.below hSw); first | (go_simp; done) | (go_simp; with_reducible rfl))
  case hQ14 => exact fun _ _ _ h => h
  try simp only [Act.put, List.setIfInBounds_toArray, List.set_cons_zero, List.set_cons_succ]
  refine wpAnyH_ready (rs := [14]) (by kernel_rfl) (by simp) ?_
  refine AllReadyH.cons (o := ?oi15) ?hi15 (fun K hK => ?_) AllReadyH.nil
  case hi15 => simp only [List.getElem?_toArray, List.getElem?_cons_succ, List.getElem?_cons_zero]; rfl
  go_simp; go_at_call 7; refine (rboth_any X0 X1 n0 c0 n1 c1 b0 b1 _ (H0.out.below HB2.out) (H1.out.below HB2.out) hn0 hn1).mono ?_; rintro e w3 ⟨v3, rfl, hown3, hb3⟩; obtain ⟨R3, k3, rfl, _, hs3, _, _⟩ := own_sl hown3; go_wp2_with fail
  refine hK.out _ _ (hb3) (fun _ => ?_)
  clear hK K hHeld
  refine wpAnyH_change (S' := fun w' => Below (w3).heap.size (w3) w') (fun w' h => (hb3).trans (h.mono (hb3).size)) _ _ _ _ ?_
  have hHeld : Below (w3).heap.size (w3) (w3) := Below.refl _ _
  try simp only [Act.put, List.setIfInBounds_toArray, List.set_cons_zero, List.set_cons_succ]
  have HB3 := Lib.hid (HB2.out.trans (hb3.mono HB2.out.size))
  have HS3 := Lib.hid hs3
  clear hb3 hs3 hown3
  refine wpAnyH_take (i := 15) (oi := ?oi16) (v := ?v16) ?hi16 ?hs16 ?hf16 ?hr16 ?hQ16 (Or.inl ⟨?hg16, ?hy16⟩) hHeld ?rest16
  case hi16 => simp only [List.getElem?_toArray, List.getElem?_cons_succ, List.getElem?_cons_zero]; rfl
  case hs16 => kernel_rfl
  case hf16 => kernel_rfl
  case hr16 => kernel_rfl
  case hg16 => rfl
  case hy16 => (intro w hSw; have hcv := run_conv_str (P := Try.prog) (src := 23) Try.underlying23 Try.underlying5 (dst := 9) Try.underlying9 (c := k3) (HS3.out.below hSw); first | (go_simp; done) | (go_simp; with_reducible rfl))
  case hQ16 => exact fun _ _ _ h => h
  try simp only [Act.put, List.setIfInBounds_toArray, List.set_cons_zero, List.set_cons_succ]
  refine wpAnyH_take (i := 16) (oi := ?oi17) (v := ?v17) ?hi17 ?hs17 ?hf17 ?hr17 ?hQ17 (Or.inl ⟨?hg17, ?hy17⟩) hHeld ?rest17
  case hi17 => simp only [List.getElem?_toArray, List.getElem?_cons_succ, List.getElem?_cons_zero]; rfl
  case hs17 => kernel_rfl
  case hf17 => kernel_rfl
  case hr17 => kernel_rfl
  case hg17 => rfl
  case hy17 => (intro w hSw; first | (go_simp; done) | (go_simp; with_reducible rfl))
  case hQ17 => exact fun _ _ _ h => h
  try simp only [Act.put, List.setIfInBounds_toArray, List.set_cons_zero, List.set_cons_succ]
  refine wpAnyH_take (i := 17) (oi := ?oi18) (v := ?v18) ?hi18 ?hs18 ?hf18 ?hr18 ?hQ18 (Or.inl ⟨?hg18, ?hy18⟩) hHeld ?rest18
  case hi18 => simp only [List.getElem?_toArray, List.getElem?_cons_succ, List.getElem?_cons_zero]; rfl
  case hs18 => kernel_rfl
  case hf18 => kernel_rfl
  case hr18 => kernel_rfl
  case hg18 => rfl
  case hy18 => (intro w hSw; first | (go_simp; done) | (go_simp; with_reducible rfl))
  case hQ18 => exact fun _ _ _ h => h
  try simp only [Act.put, List.setIfInBounds_toArray, List.set_cons_zero, List.set_cons_succ]
  refine wpAnyH_take (i := 18) (oi := ?oi19) (v := ?v19) ?hi19 ?hs19 ?hf19 ?hr19 ?hQ19 (Or.inl ⟨?hg19, ?hy19⟩) hHeld ?rest19
  case hi19 => simp only [List.getElem?_toArray, List.getElem?_cons_succ, List.getElem?_cons_zero]; rfl
  case hs19 => kernel_rfl
  case hf19 => kernel_rfl
  case hr19 => kernel_rfl
  case hg19 => rfl
  case hy19 => (intro w hSw; first | (go_simp; done) | (go_simp; with_reducible rfl))
  case hQ19 => exact fun _ _ _ h => h
  try simp only [Act.put, List.setIfInBounds_toArray, List.set_cons_zero, List.set_cons_succ]
  refine wpAnyH_ready (rs := [19]) (by kernel_rfl) (by simp) ?_
  refine AllReadyH.cons (o := ?oi20) ?hi20 (fun K hK => ?_) AllReadyH.nil
  case hi20 => simp only [List.getElem?_toArray, List.getElem?_cons_succ, List.getElem?_cons_zero]; rfl
  go_simp; go_at_call 8; refine (awake_any _).mono ?_; rintro e w4 ⟨rfl, hb4⟩; go_wp2_with fail
  refine hK.out _ _ (hb4) (fun _ => ?_)
  clear hK K hHeld
  refine wpAnyH_change (S' := fun w' => Below (w4).heap.size (w4) w') (fun w' h => (hb4).trans (h.mono (hb4).size)) _ _ _ _ ?_
  have hHeld : Below (w4).heap.size (w4) (w4) := Below.refl _ _
  try simp only [Act.put, List.setIfInBounds_toArray, List.set_cons_zero, List.set_cons_succ]
  have HB4 := Lib.hid (HB3.out.trans (hb4.mono HB3.out.size))
  refine wpAnyH_take (i := 20) (oi := ?oi21) (v := ?v21) ?hi21 ?hs21 ?hf21 ?hr21 ?hQ21 (Or.inl ⟨?hg21, ?hy21⟩) hHeld ?rest21
  case hi21 => simp only [List.getElem?_toArray, List.getElem?_cons_succ, List.getElem?_cons_zero]; rfl
  case hs21 => kernel_rfl
  case hf21 => kernel_rfl
  case hr21 => kernel_rfl
  case hg21 => rfl
  case hy21 => (intro w hSw; first | (go_simp; done) | (go_simp; with_reducible rfl))
  case hQ21 => exact fun _ _ _ h => h
  try simp only [Act.put, List.setIfInBounds_toArray, List.set_cons_zero, List.set_cons_succ]
  refine wpAnyH_take (i := 21) (oi := ?oi22) (v := ?v22) ?hi22 ?hs22 ?hf22 ?hr22 ?hQ22 (Or.inl ⟨?hg22, ?hy22⟩) hHeld ?rest22
  case hi22 => simp only [List.getElem?_toArray, List.getElem?_cons_succ, List.getElem?_cons_zero]; rfl
  case hs22 => kernel_rfl
  case hf22 => kernel_rfl
  case hr22 => kernel_rfl
  case hg22 => rfl
  case hy22 => (intro w hSw; first | (go_simp; done) | (go_simp; with_reducible rfl))
  case hQ22 => exact fun _ _ _ h => h
  try simp only [Act.put, List.setIfInBounds_toArray, List.set_cons_zero, List.set_cons_succ]
  refine wpAnyH_done (by kernel_rfl) ?_ _
  go_wp2_with fail
  go_ret
  exact ⟨rfl, HB4.out⟩
end Go.Proofs.Ytlndiddplfoceaa
