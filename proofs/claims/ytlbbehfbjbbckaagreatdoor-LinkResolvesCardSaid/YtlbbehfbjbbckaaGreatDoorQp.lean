import Derived.Test.YtlbbehfbjbbckaaGreatDoorQo
import Derived.Test.YtlbbehfbjbbckaaGreatDoorQk
/-! The document's tree: Rename. -/
set_option linter.unusedVariables false
set_option linter.unusedSimpArgs false
namespace Go.Proofs.YtlbbehfbjbbckaaGreatDoor
open Go.RowKit
attribute [local go_sem] str_toList

theorem ne_nilB {p : ByteArray} (h : p.data.toList ≠ []) : ¬ p.size = 0 := fun e => h (List.eq_nil_of_length_eq_zero (by rw [Array.length_toList]; exact e))
set_option maxRecDepth 100000 in
set_option maxHeartbeats 32000000 in
theorem RenameD_any (t : Nat) (S : St) (O : Nat → Prop) (o p : ByteArray) (w : World) (h : DocS w t S O) (hos : o.size ≤ 100000) (hps : p.size ≤ 100000) (hl : S.ls.length ≤ 1000000) :
    Calls Tryz.prog 102 #[.pointer (some ⟨t, 0, none⟩), .string o, .string p] w fun e w' => e = .returned (.int .i64 (S.rename o.data.toList p.data.toList).1) ∧ DocPost w w' t (S.rename o.data.toList p.data.toList).2 O := by
  obtain ⟨v, B, D, hA, ho, ht, hO⟩ := h
  have HDS := Lib.hid (show ∀ w', Below w.heap.size w w' → DocPost w w' t S O from fun w' hb => doc_same ⟨v, B, D, hA, ho, ht, hO⟩ hb)
  have HPL := Lib.hid (fun (w1 w' : World) (v' : Value) (ls : List (List UInt8 × Int)) => list_post (w := w) (w1 := w1) (w' := w') (v := v) (v' := v') (B := B) (D := D) (ls := ls) hO)
  have HOK := Lib.hid ho
  have HTOP := Lib.hid ht
  have HL := Lib.hid hl
  have HAT := Lib.hid (fun i (h : thereS (S.look o.data.toList) = (some i, 0)) => there_at ho h)
  have HERR := Lib.hid (show (thereS (S.look o.data.toList)).2 = 0 → _ from thereS_err)
  have HR1 := Lib.hid (fun w => refRight_any o _ w rfl (by omega))
  have HR2 := Lib.hid (fun w => refRight_any p _ w rfl (by omega))
  have HTH := Lib.hid (fun w (h : DocAt w t v S B D) => There_any t v S B D o w h ho ht hl (by omega))
  have HLK := Lib.hid (fun w (h : DocAt w t v S B D) => Look_any t v S B D p w h ho ht hl (by omega))
  have HUN := Lib.hid (fun w => refUnder_any p o (splitB p.data.toList) (splitB o.data.toList) w rfl rfl (by omega) (by omega))
  have HMV := Lib.hid (fun w (h : DocAt w t v S B D) h1 h2 => moved_any t v S B D o p w h ho ht hl hos hps h1 h2)
  have HGO := Lib.hid (fun w (h : DocAt w t v S B D) h1 => gone_any t v S B D p w h ho ht hl h1)
  have HT := Lib.hid hA
  have HLA := Lib.hid (fun o (h : S.look p.data.toList = (o, 0)) (hp : p.data.toList ≠ []) => look_at hp h)
  have HIFF := Lib.hid (fun q i => ho.at_iff q i)
  obtain ⟨X, hX⟩ : ∃ X, S.rename o.data.toList p.data.toList = X := ⟨_, rfl⟩
  have HX : Hid ((if rightB o.data.toList = false ∨ rightB p.data.toList = false then ((9 : Int), S) else if o.data.toList = [] ∨ p.data.toList = [] then (2, S) else renameR S o.data.toList p.data.toList (thereS (S.look o.data.toList)) (S.look p.data.toList)) = X) := Lib.hid hX
  rw [hX]
  clear hX hA ho ht hO hl
  obtain ⟨lo, hlo⟩ : ∃ lo, thereS (S.look o.data.toList) = lo := ⟨_, rfl⟩
  obtain ⟨lp, hlp⟩ : ∃ lp, S.look p.data.toList = lp := ⟨_, rfl⟩
  rw [hlo] at HX HAT HERR HTH
  rw [hlp] at HX HLK HLA
  have HLP := Lib.hid hlp
  obtain ⟨rb1, hrb1⟩ : ∃ rb, rightB o.data.toList = rb := ⟨_, rfl⟩
  obtain ⟨rb2, hrb2⟩ : ∃ rb, rightB p.data.toList = rb := ⟨_, rfl⟩
  rw [hrb1] at HX HR1
  rw [hrb2] at HX HR2
  have HRB1 := Lib.hid hrb1
  have HRB2 := Lib.hid hrb2
  clear hlo hlp hrb1 hrb2
  go_enter Tryz.func102, Tryz.ntmps102
  go_wp2_with fail
  refine (HR1.out w).mono ?_
  rintro e w1 ⟨rfl, hb1⟩
  have HB1 := Lib.hid hb1
  clear hb1 HR1
  cases rb1 with
  | false =>
    have K := Lib.hid (show X = (9, S) from HX.out.symm)
    go_wp2_with fail
    go_ret
    rw [K.out]
    exact ⟨rfl, HDS.out _ HB1.out⟩
  | true =>
  go_wp2_with fail
  refine (HR2.out w1).mono ?_
  rintro e w2 ⟨rfl, hb2⟩
  have HB2 := Lib.hid (HB1.out.trans (hb2.mono HB1.out.size))
  clear hb2 HR2 HB1
  cases rb2 with
  | false =>
    have K := Lib.hid (show X = (9, S) from HX.out.symm)
    go_wp2_with fail
    go_ret
    rw [K.out]
    exact ⟨rfl, HDS.out _ HB2.out⟩
  | true =>
  have HX1 := Lib.hid (show (if o.data.toList = [] ∨ p.data.toList = [] then ((2 : Int), S) else renameR S o.data.toList p.data.toList lo lp) = X from HX.out)
  clear HX
  by_cases hzo : o.size = 0
  · obtain rfl : o = ⟨#[]⟩ := ByteArray.ext (Array.size_eq_zero_iff.1 hzo)
    have K := Lib.hid (show X = (2, S) by rw [← HX1.out]; exact if_pos (.inl rfl))
    clear hzo HX1
    go_wp2_with fail
    go_ret
    rw [K.out]
    exact ⟨rfl, HDS.out _ HB2.out⟩
  have hnilo := nil_toList o hzo
  have hneo : o.data.toList ≠ [] := fun e => hzo (by have : o.data.toList.length = 0 := by rw [e]; rfl
                                                     rwa [Array.length_toList] at this)
  by_cases hzp : p.size = 0
  · obtain rfl : p = ⟨#[]⟩ := ByteArray.ext (Array.size_eq_zero_iff.1 hzp)
    have K := Lib.hid (show X = (2, S) by rw [← HX1.out]; exact if_pos (.inr rfl))
    clear hzp hzo HX1 hneo
    go_wp2_with fail
    go_ret
    rw [K.out]
    exact ⟨rfl, HDS.out _ HB2.out⟩
  have hnilp := nil_toList p hzp
  have hnep : p.data.toList ≠ [] := fun e => hzp (by have : p.data.toList.length = 0 := by rw [e]; rfl
                                                     rwa [Array.length_toList] at this)
  have HX2 := Lib.hid (show renameR S o.data.toList p.data.toList lo lp = X by rw [← HX1.out, if_neg (fun h => h.elim hneo hnep)])
  have HNO := Lib.hid hneo
  have HNP := Lib.hid hnep
  have T2 := Lib.hid (HT.out.below HB2.out)
  clear hzo hzp hneo hnep HX1 HT
  go_wp2_with fail
  refine (HTH.out w2 T2.out).mono ?_
  rintro e w3 ⟨rfl, hb3⟩
  have HB3 := Lib.hid (HB2.out.trans (hb3.mono HB2.out.size))
  have T3 := Lib.hid (T2.out.below hb3)
  clear hb3 T2 HB2 HTH hnilo hnilp
  obtain ⟨ro, re⟩ := lo
  obtain ⟨rp, rpe⟩ := lp
  rcases (Classical.em (re = 0)).symm with h0 | h0
  · have K := Lib.hid (show X = (re, S) by
      rw [← HX2.out]
      cases ro with
      | none => rfl
      | some i => exact if_pos h0)
    have e1 : (re != 0) = true := by simpa using h0
    clear h0 HX2
    go_wp2_with fail
    go_ret
    rw [K.out]
    exact ⟨rfl, HDS.out _ HB3.out⟩
  subst h0
  obtain ⟨i, hi⟩ := HERR.out (by first | rfl | trivial)
  obtain rfl : ro = some i := (Prod.mk.inj hi).1
  have hat := (HAT.out i (by first | rfl | trivial)).1
  have HATO := Lib.hid hat
  have HX3 := Lib.hid (show (if (S.th i).kind = 2 ∧ p.data.toList ≠ o.data.toList ∧ pfxB (splitB p.data.toList) (splitB o.data.toList) = true then ((2 : Int), S) else if rpe ≠ 0 then (rpe, S) else moveR S o.data.toList p.data.toList i rp) = X from HX2.out)
  have HNK := Lib.hid (fun w' (h : DocAt w' t v S B D) => (show w'.cell? ⟨B i, 0, none⟩ = some (.int .i64 (S.th i).kind) ∧ w'.cell? ⟨B i, 1, none⟩ = some (.int .i64 i) from by
    have hb := h.node _ ((HIFF.out _ _).1 HATO.out)
    exact ⟨by simpa [encH] using hb.cell 0, by simpa [encH] using hb.cell 1⟩))
  rw [show ptrM B (some i) = .pointer (some ⟨B i, 0, none⟩) from rfl]
  obtain ⟨kd, hkd⟩ : ∃ kd, (S.th i).kind = kd := ⟨_, rfl⟩
  rw [hkd] at HX3 HNK
  have HKD := Lib.hid hkd
  clear hat hi hkd HX2 HERR HAT
  obtain ⟨n0, n1⟩ := HNK.out w3 T3.out
  have HNLK := Lib.hid HLK.out
  obtain ⟨px, hpx⟩ : ∃ px, pfxB (splitB p.data.toList) (splitB o.data.toList) = px := ⟨_, rfl⟩
  rw [hpx] at HX3 HUN
  have HPX := Lib.hid hpx
  clear hpx HLK
  have HPO := Lib.hid (fun (h : ¬ (kd = 2 ∧ p.data.toList ≠ o.data.toList ∧ px = true)) => (show (if rpe ≠ 0 then (rpe, S) else moveR S o.data.toList p.data.toList i rp) = X from by rw [← HX3.out, if_neg h]))
  rcases (Classical.em (kd = 2)).symm with hk | hk
  · have HX4 := Lib.hid (HPO.out (fun h => hk h.1))
    have HB4 := Lib.hid HB3.out
    have T4 := Lib.hid T3.out
    have e0 : (kd == 2) = false := by simpa using hk
    have HK2 := Lib.hid (show (S.th i).kind ≠ 2 from by rw [HKD.out]; exact hk)
    clear hk HPO HX3 T3 HB3
    go_wp2_with fail
    refine (HNLK.out w3 T4.out).mono ?_
    rintro e w5 ⟨rfl, hb5⟩
    have HB5 := Lib.hid (HB4.out.trans (hb5.mono HB4.out.size))
    have T5 := Lib.hid (T4.out.below hb5)
    clear hb5 T4 HB4 HNLK
    rcases (Classical.em (rpe = 0)).symm with hp0 | hp0
    · have K := Lib.hid (show X = (rpe, S) by rw [← HX4.out]; exact if_pos hp0)
      have e1 : (rpe != 0) = true := by simpa using hp0
      clear hp0 HX4
      go_wp2_with fail
      go_ret
      rw [K.out]
      exact ⟨rfl, HDS.out _ HB5.out⟩
    subst hp0
    have HX5 := Lib.hid (show moveR S o.data.toList p.data.toList i rp = X from HX4.out)
    clear HX4
    obtain ⟨n0, n1⟩ := HNK.out w5 T5.out
    cases rp with
    | none =>
      have hat0 := (HLA.out none (by first | rfl | trivial) HNP.out).2.1
      have K := Lib.hid (show X = (0, St.moved { S with ls := S.ls.filter (fun y => y.1 != p.data.toList) } o.data.toList p.data.toList) by
        rw [← HX5.out, filter_same hat0]
        unfold moveR
        exact if_neg (fun h => HK2.out h.1))
      have HW : Hid (∀ j, (none : Option Int) = some j → (S.th j).kind ≠ 2 ∧ j ≠ i) := Lib.hid (fun j h => by cases h)
      rw [show ptrM B none = .pointer none from rfl]
      clear HX5 hat0
      go_wp2_with fail
      refine wp_region_held_drew (S := fun w' => Below (w5.drew).heap.size (w5.drew) w') (by kernel_rfl) (Below.refl _ _) (fun hHeld => ?_)
      refine wpAnyH_take (i := 0) (oi := ?oi1) (v := ?v1) ?hi1 ?hs1 ?hf1 ?hr1 ?hQ1 (Or.inl ⟨?hg1, ?hy1⟩) hHeld ?rest1
      case hi1 => simp only [List.getElem?_toArray, List.getElem?_cons_succ, List.getElem?_cons_zero]; rfl
      case hs1 => kernel_rfl
      case hf1 => kernel_rfl
      case hr1 => kernel_rfl
      case hg1 => rfl
      case hy1 => (intro w hSw; first | (go_simp; done) | (go_simp; with_reducible rfl))
      case hQ1 => exact fun _ _ _ h => h
      try simp only [Act.put, List.setIfInBounds_toArray, List.set_cons_zero, List.set_cons_succ]
      refine wpAnyH_take (i := 1) (oi := ?oi2) (v := ?v2) ?hi2 ?hs2 ?hf2 ?hr2 ?hQ2 (Or.inl ⟨?hg2, ?hy2⟩) hHeld ?rest2
      case hi2 => simp only [List.getElem?_toArray, List.getElem?_cons_succ, List.getElem?_cons_zero]; rfl
      case hs2 => kernel_rfl
      case hf2 => kernel_rfl
      case hr2 => kernel_rfl
      case hg2 => rfl
      case hy2 => (intro w hSw; first | (go_simp; done) | (go_simp; with_reducible rfl))
      case hQ2 => exact fun _ _ _ h => h
      try simp only [Act.put, List.setIfInBounds_toArray, List.set_cons_zero, List.set_cons_succ]
      refine wpAnyH_take (i := 2) (oi := ?oi3) (v := ?v3) ?hi3 ?hs3 ?hf3 ?hr3 ?hQ3 (Or.inl ⟨?hg3, ?hy3⟩) hHeld ?rest3
      case hi3 => simp only [List.getElem?_toArray, List.getElem?_cons_succ, List.getElem?_cons_zero]; rfl
      case hs3 => kernel_rfl
      case hf3 => kernel_rfl
      case hr3 => kernel_rfl
      case hg3 => rfl
      case hy3 => (intro w hSw; first | (go_simp; done) | (go_simp; with_reducible rfl))
      case hQ3 => exact fun _ _ _ h => h
      try simp only [Act.put, List.setIfInBounds_toArray, List.set_cons_zero, List.set_cons_succ]
      refine wpAnyH_take (i := 3) (oi := ?oi4) (v := _) ?hi4 ?hs4 ?hf4 ?hr4 ?hQ4 (Or.inr ⟨?hg4, rfl⟩) hHeld ?rest4
      case hi4 => simp only [List.getElem?_toArray, List.getElem?_cons_succ, List.getElem?_cons_zero]; rfl
      case hs4 => kernel_rfl
      case hf4 => kernel_rfl
      case hr4 => kernel_rfl
      case hg4 => rfl
      case hQ4 => exact fun _ _ _ h => h
      try simp only [Act.put, List.setIfInBounds_toArray, List.set_cons_zero, List.set_cons_succ]
      refine wpAnyH_take (i := 4) (oi := ?oi5) (v := _) ?hi5 ?hs5 ?hf5 ?hr5 ?hQ5 (Or.inr ⟨?hg5, rfl⟩) hHeld ?rest5
      case hi5 => simp only [List.getElem?_toArray, List.getElem?_cons_succ, List.getElem?_cons_zero]; rfl
      case hs5 => kernel_rfl
      case hf5 => kernel_rfl
      case hr5 => kernel_rfl
      case hg5 => rfl
      case hQ5 => exact fun _ _ _ h => h
      try simp only [Act.put, List.setIfInBounds_toArray, List.set_cons_zero, List.set_cons_succ]
      refine wpAnyH_take (i := 5) (oi := ?oi6) (v := _) ?hi6 ?hs6 ?hf6 ?hr6 ?hQ6 (Or.inr ⟨?hg6, rfl⟩) hHeld ?rest6
      case hi6 => simp only [List.getElem?_toArray, List.getElem?_cons_succ, List.getElem?_cons_zero]; rfl
      case hs6 => kernel_rfl
      case hf6 => kernel_rfl
      case hr6 => kernel_rfl
      case hg6 => rfl
      case hQ6 => exact fun _ _ _ h => h
      try simp only [Act.put, List.setIfInBounds_toArray, List.set_cons_zero, List.set_cons_succ]
      refine wpAnyH_take (i := 6) (oi := ?oi7) (v := _) ?hi7 ?hs7 ?hf7 ?hr7 ?hQ7 (Or.inr ⟨?hg7, rfl⟩) hHeld ?rest7
      case hi7 => simp only [List.getElem?_toArray, List.getElem?_cons_succ, List.getElem?_cons_zero]; rfl
      case hs7 => kernel_rfl
      case hf7 => kernel_rfl
      case hr7 => kernel_rfl
      case hg7 => rfl
      case hQ7 => exact fun _ _ _ h => h
      try simp only [Act.put, List.setIfInBounds_toArray, List.set_cons_zero, List.set_cons_succ]
      refine wpAnyH_take (i := 7) (oi := ?oi8) (v := _) ?hi8 ?hs8 ?hf8 ?hr8 ?hQ8 (Or.inr ⟨?hg8, rfl⟩) hHeld ?rest8
      case hi8 => simp only [List.getElem?_toArray, List.getElem?_cons_succ, List.getElem?_cons_zero]; rfl
      case hs8 => kernel_rfl
      case hf8 => kernel_rfl
      case hr8 => kernel_rfl
      case hg8 => rfl
      case hQ8 => exact fun _ _ _ h => h
      try simp only [Act.put, List.setIfInBounds_toArray, List.set_cons_zero, List.set_cons_succ]
      refine wpAnyH_take (i := 8) (oi := ?oi9) (v := _) ?hi9 ?hs9 ?hf9 ?hr9 ?hQ9 (Or.inr ⟨?hg9, rfl⟩) hHeld ?rest9
      case hi9 => simp only [List.getElem?_toArray, List.getElem?_cons_succ, List.getElem?_cons_zero]; rfl
      case hs9 => kernel_rfl
      case hf9 => kernel_rfl
      case hr9 => kernel_rfl
      case hg9 => rfl
      case hQ9 => exact fun _ _ _ h => h
      try simp only [Act.put, List.setIfInBounds_toArray, List.set_cons_zero, List.set_cons_succ]
      refine wpAnyH_take (i := 9) (oi := ?oi10) (v := _) ?hi10 ?hs10 ?hf10 ?hr10 ?hQ10 (Or.inr ⟨?hg10, rfl⟩) hHeld ?rest10
      case hi10 => simp only [List.getElem?_toArray, List.getElem?_cons_succ, List.getElem?_cons_zero]; rfl
      case hs10 => kernel_rfl
      case hf10 => kernel_rfl
      case hr10 => kernel_rfl
      case hg10 => rfl
      case hQ10 => exact fun _ _ _ h => h
      try simp only [Act.put, List.setIfInBounds_toArray, List.set_cons_zero, List.set_cons_succ]
      refine wpAnyH_take (i := 10) (oi := ?oi11) (v := _) ?hi11 ?hs11 ?hf11 ?hr11 ?hQ11 (Or.inr ⟨?hg11, rfl⟩) hHeld ?rest11
      case hi11 => simp only [List.getElem?_toArray, List.getElem?_cons_succ, List.getElem?_cons_zero]; rfl
      case hs11 => kernel_rfl
      case hf11 => kernel_rfl
      case hr11 => kernel_rfl
      case hg11 => rfl
      case hQ11 => exact fun _ _ _ h => h
      try simp only [Act.put, List.setIfInBounds_toArray, List.set_cons_zero, List.set_cons_succ]
      refine wpAnyH_take (i := 11) (oi := ?oi12) (v := _) ?hi12 ?hs12 ?hf12 ?hr12 ?hQ12 (Or.inr ⟨?hg12, rfl⟩) hHeld ?rest12
      case hi12 => simp only [List.getElem?_toArray, List.getElem?_cons_succ, List.getElem?_cons_zero]; rfl
      case hs12 => kernel_rfl
      case hf12 => kernel_rfl
      case hr12 => kernel_rfl
      case hg12 => rfl
      case hQ12 => exact fun _ _ _ h => h
      try simp only [Act.put, List.setIfInBounds_toArray, List.set_cons_zero, List.set_cons_succ]
      refine wpAnyH_take (i := 12) (oi := ?oi13) (v := ?v13) ?hi13 ?hs13 ?hf13 ?hr13 ?hQ13 (Or.inl ⟨?hg13, ?hy13⟩) hHeld ?rest13
      case hi13 => simp only [List.getElem?_toArray, List.getElem?_cons_succ, List.getElem?_cons_zero]; rfl
      case hs13 => kernel_rfl
      case hf13 => kernel_rfl
      case hr13 => kernel_rfl
      case hg13 => rfl
      case hy13 => (intro w hSw; first | (go_simp; done) | (go_simp; with_reducible rfl))
      case hQ13 => exact fun _ _ _ h => h
      try simp only [Act.put, List.setIfInBounds_toArray, List.set_cons_zero, List.set_cons_succ]
      refine wpAnyH_done (by kernel_rfl) ?_ _
      clear hHeld
      have HB6 := Lib.hid (HB5.out.trans (((Below.refl w5.heap.size w5).drew).mono HB5.out.size))
      have T6 := Lib.hid (T5.out.below ((Below.refl w5.heap.size w5).drew))
      clear T5 HB5
      generalize w5.drew = w6 at *
      have HFM := Lib.hid (file_move HOK.out HRB1.out HRB2.out HNO.out HNP.out HATO.out HK2.out HLP.out HW.out)
      have HGG := Lib.hid (HGO.out w6 T6.out HNP.out)
      clear n0 n1
      go_wp2_with fail
      refine HGG.out.mono ?_
      rintro e w7 ⟨rfl, v7, hD7, hO7, hv7⟩
      have D7 := Lib.hid hD7
      have O7 := Lib.hid hO7
      have V7 := Lib.hid hv7
      have hln : (S.ls.filter (fun y => y.1 != p.data.toList)).length ≤ 1000000 := Nat.le_trans (List.length_filter_le _ _) HL.out
      have hT7 : TopS { S with ls := S.ls.filter (fun y => y.1 != p.data.toList) } := HTOP.out.gone HNP.out
      have HA7 := Lib.hid (At_any t v7 _ B D o w7.drew (hD7.below ((Below.refl w7.heap.size w7).drew)) HFM.out.2.2 hT7 hln)
      have HA1 := Lib.hid (show St.at { S with ls := S.ls.filter (fun y => y.1 != p.data.toList) } o.data.toList = some i from (gone_at (S := S) (p := p.data.toList) (q := o.data.toList) HFM.out.2.2 HOK.out i).2 ⟨fun e => HFM.out.2.1 e.symm, HATO.out⟩)
      obtain ⟨g, cap, rfl, hcap, hsl⟩ := hD7.sl hT7 hln
      have t0 := hD7.tree.cell 0
      simp only [List.getElem?_cons_zero] at t0
      have hgt : g ≠ t := by
        obtain ⟨cs, hB⟩ := hD7.row_blk (k := g) rfl
        exact hB.ne hD7.tree (by decide)
      have t0' : w7.drew.cell? ⟨t, 0, none⟩ = _ := t0
      obtain ⟨ln, hlnq⟩ : ∃ ln, (S.ls.filter (fun y => y.1 != p.data.toList)).length = ln := ⟨_, rfl⟩
      have HLNQ := Lib.hid hlnq
      rw [hlnq] at t0 t0' hln hcap
      have HGT := Lib.hid hgt
      have HT7 := Lib.hid hT7
      have HLN := Lib.hid hln
      have hng : ¬ (t = g) := fun e => hgt e.symm
      rw [hlnq] at D7 V7
      have HROW := Lib.hid (show w7.ownsRow 0 129 2 (.slice (some ⟨g, 0, none⟩) ln cap) ln (encDs B (S.ls.filter (fun y => y.1 != p.data.toList))) from by rw [← hlnq]; exact hD7.row)
      clear hD7 hO7 hv7 hT7 hsl hcap HGG T6 hgt hlnq
      go_wp2_with fail
      refine wp_region_held_drew (S := (fun w' => Only (fun k => k = g) w7.drew w')) (by kernel_rfl) (Only.refl _ _) (fun hHeld => ?_)
      refine wpAnyH_take (i := 0) (oi := ?oi14) (v := ?v14) ?hi14 ?hs14 ?hf14 ?hr14 ?hQ14 (Or.inl ⟨?hg14, ?hy14⟩) hHeld ?rest14
      case hi14 => simp only [List.getElem?_toArray, List.getElem?_cons_succ, List.getElem?_cons_zero]; rfl
      case hs14 => kernel_rfl
      case hf14 => kernel_rfl
      case hr14 => kernel_rfl
      case hg14 => rfl
      case hy14 => (intro w hSw; first | (go_simp; done) | (go_simp; with_reducible rfl))
      case hQ14 => exact fun _ _ _ h => h
      try simp only [Act.put, List.setIfInBounds_toArray, List.set_cons_zero, List.set_cons_succ]
      refine wpAnyH_take (i := 1) (oi := ?oi15) (v := ?v15) ?hi15 ?hs15 ?hf15 ?hr15 ?hQ15 (Or.inl ⟨?hg15, ?hy15⟩) hHeld ?rest15
      case hi15 => simp only [List.getElem?_toArray, List.getElem?_cons_succ, List.getElem?_cons_zero]; rfl
      case hs15 => kernel_rfl
      case hf15 => kernel_rfl
      case hr15 => kernel_rfl
      case hg15 => rfl
      case hy15 => (intro w hSw; first | (go_simp; done) | (go_simp; with_reducible rfl))
      case hQ15 => exact fun _ _ _ h => h
      try simp only [Act.put, List.setIfInBounds_toArray, List.set_cons_zero, List.set_cons_succ]
      refine wpAnyH_take (i := 2) (oi := ?oi16) (v := ?v16) ?hi16 ?hs16 ?hf16 ?hr16 ?hQ16 (Or.inl ⟨?hg16, ?hy16⟩) hHeld ?rest16
      case hi16 => simp only [List.getElem?_toArray, List.getElem?_cons_succ, List.getElem?_cons_zero]; rfl
      case hs16 => kernel_rfl
      case hf16 => kernel_rfl
      case hr16 => kernel_rfl
      case hg16 => rfl
      case hy16 => (intro w hSw; first | (go_simp; done) | (go_simp; with_reducible rfl))
      case hQ16 => exact fun _ _ _ h => h
      try simp only [Act.put, List.setIfInBounds_toArray, List.set_cons_zero, List.set_cons_succ]
      refine wpAnyH_take (i := 3) (oi := ?oi17) (v := ?v17) ?hi17 ?hs17 ?hf17 ?hr17 ?hQ17 (Or.inl ⟨?hg17, ?hy17⟩) hHeld ?rest17
      case hi17 => simp only [List.getElem?_toArray, List.getElem?_cons_succ, List.getElem?_cons_zero]; rfl
      case hs17 => kernel_rfl
      case hf17 => kernel_rfl
      case hr17 => kernel_rfl
      case hg17 => rfl
      case hy17 => (intro w hSw; have x0 := Only.cell hSw t0' (fun e => hng e); first | (go_simp; done) | (go_simp; with_reducible rfl))
      case hQ17 => exact fun _ _ _ h => h
      try simp only [Act.put, List.setIfInBounds_toArray, List.set_cons_zero, List.set_cons_succ]
      refine wpAnyH_take (i := 4) (oi := ?oi18) (v := ?v18) ?hi18 ?hs18 ?hf18 ?hr18 ?hQ18 (Or.inl ⟨?hg18, ?hy18⟩) hHeld ?rest18
      case hi18 => simp only [List.getElem?_toArray, List.getElem?_cons_succ, List.getElem?_cons_zero]; rfl
      case hs18 => kernel_rfl
      case hf18 => kernel_rfl
      case hr18 => kernel_rfl
      case hg18 => rfl
      case hy18 => (intro w hSw; first | (go_simp; done) | (go_simp; with_reducible rfl))
      case hQ18 => exact fun _ _ _ h => h
      try simp only [Act.put, List.setIfInBounds_toArray, List.set_cons_zero, List.set_cons_succ]
      refine wpAnyH_take (i := 5) (oi := ?oi19) (v := ?v19) ?hi19 ?hs19 ?hf19 ?hr19 ?hQ19 (Or.inl ⟨?hg19, ?hy19⟩) hHeld ?rest19
      case hi19 => simp only [List.getElem?_toArray, List.getElem?_cons_succ, List.getElem?_cons_zero]; rfl
      case hs19 => kernel_rfl
      case hf19 => kernel_rfl
      case hr19 => kernel_rfl
      case hg19 => rfl
      case hy19 => (intro w hSw; first | (go_simp; done) | (go_simp; with_reducible rfl))
      case hQ19 => exact fun _ _ _ h => h
      try simp only [Act.put, List.setIfInBounds_toArray, List.set_cons_zero, List.set_cons_succ]
      refine wpAnyH_take (i := 7) (oi := ?oi20) (v := ?v20) ?hi20 ?hs20 ?hf20 ?hr20 ?hQ20 (Or.inl ⟨?hg20, ?hy20⟩) hHeld ?rest20
      case hi20 => simp only [List.getElem?_toArray, List.getElem?_cons_succ, List.getElem?_cons_zero]; rfl
      case hs20 => kernel_rfl
      case hf20 => kernel_rfl
      case hr20 => kernel_rfl
      case hg20 => rfl
      case hy20 => (intro w hSw; first | (go_simp; done) | (go_simp; with_reducible rfl))
      case hQ20 => exact fun _ _ _ h => h
      try simp only [Act.put, List.setIfInBounds_toArray, List.set_cons_zero, List.set_cons_succ]
      refine wpAnyH_ready (rs := [6]) (by kernel_rfl) (by simp) ?_
      refine AllReadyH.cons (o := ?oi21) ?hi21 (fun K hK => ?_) AllReadyH.nil
      case hi21 => simp only [List.getElem?_toArray, List.getElem?_cons_succ, List.getElem?_cons_zero]; rfl
      go_simp; go_at_call 136; refine HA7.out.mono ?_; rintro e w8 ⟨⟨r, rfl, hr⟩, rfl⟩; go_wp2_with fail
      refine hK.out _ _ ((Only.refl _ _)) (fun hHeld2 => ?_)
      clear hK K hHeld
      have hHeld := hHeld2
      clear hHeld2
      try simp only [Act.put, List.setIfInBounds_toArray, List.set_cons_zero, List.set_cons_succ]
      rcases hr with ⟨rfl, hr⟩ | ⟨k0, x, rfl, hx, hx1, hr⟩
      · exact absurd (HA1.out.symm.trans hr) (by simp)
      have HX0 := Lib.hid (And.intro hx hx1)
      have hk0 : k0 < ln := by rw [← HLNQ.out]; exact (List.getElem?_eq_some_iff.1 hx).1
      have i1 : (k0 : Int) < (ln : Int) := by omega
      have i2 : (0 : Int) ≤ (k0 : Int) := by omega
      have HK0 := Lib.hid hk0
      clear hx hx1 hr hk0
      have hrb := HROW.out
      obtain ⟨csB, hB7⟩ := D7.out.row_blk (k := g) rfl
      have c0 : ∃ u, w7.drew.cell? ⟨g, k0 * 2, none⟩ = some u := by
        obtain ⟨g', cap', cs, he, _, _, _, hB, h3, _, _⟩ := row_at HROW.out (by have := HK0.out; omega)
        cases he
        obtain ⟨y, hy⟩ : ∃ y, (encDs B (S.ls.filter (fun y => y.1 != p.data.toList)))[k0 * 2]? = some y := ⟨_, List.getElem?_eq_getElem (by rw [encDs_len, HLNQ.out]; have := HK0.out; omega)⟩
        exact ⟨y, h3 _ y hy⟩
      obtain ⟨u0, c0⟩ := c0
      have f0 : w7.drew.frozen? ⟨g, k0 * 2, none⟩ = false := hB7.frozen _
      clear hrb hB7
      refine wpAnyH_take (i := 8) (oi := ?oi22) (v := ?v22) ?hi22 ?hs22 ?hf22 ?hr22 ?hQ22 (Or.inl ⟨?hg22, ?hy22⟩) hHeld ?rest22
      case hi22 => simp only [List.getElem?_toArray, List.getElem?_cons_succ, List.getElem?_cons_zero]; rfl
      case hs22 => kernel_rfl
      case hf22 => kernel_rfl
      case hr22 => kernel_rfl
      case hg22 => rfl
      case hy22 => (intro w hSw; first | (go_simp; done) | (go_simp; with_reducible rfl))
      case hQ22 => exact fun _ _ _ h => h
      try simp only [Act.put, List.setIfInBounds_toArray, List.set_cons_zero, List.set_cons_succ]
      refine wpAnyH_take (i := 9) (oi := ?oi23) (v := ?v23) ?hi23 ?hs23 ?hf23 ?hr23 ?hQ23 (Or.inl ⟨?hg23, ?hy23⟩) hHeld ?rest23
      case hi23 => simp only [List.getElem?_toArray, List.getElem?_cons_succ, List.getElem?_cons_zero]; rfl
      case hs23 => kernel_rfl
      case hf23 => kernel_rfl
      case hr23 => kernel_rfl
      case hg23 => rfl
      case hy23 => (intro w hSw; first | (go_simp; done) | (go_simp; with_reducible rfl))
      case hQ23 => exact fun _ _ _ h => h
      try simp only [Act.put, List.setIfInBounds_toArray, List.set_cons_zero, List.set_cons_succ]
      refine wpAnyH_ready (rs := [10]) (by kernel_rfl) (by simp) ?_
      refine AllReadyH.cons (o := ?oi24) ?hi24 (fun K hK => ?_) AllReadyH.nil
      case hi24 => simp only [List.getElem?_toArray, List.getElem?_cons_succ, List.getElem?_cons_zero]; rfl
      go_simp
      refine hK.out _ _ ((Only.set (P := fun k => k = g) w7.drew ⟨g, k0 * 2, none⟩ _ rfl)) (fun hHeld2 => ?_)
      clear hK K hHeld
      have hHeld := hHeld2
      clear hHeld2
      try simp only [Act.put, List.setIfInBounds_toArray, List.set_cons_zero, List.set_cons_succ]
      refine wpAnyH_done (by kernel_rfl) ?_ _
      clear hHeld c0 f0 t0 t0' i1 i2
      have hxm := HX0.out
      have hid := HA1.out
      rw [← hxm.2] at hid
      have hst := set_map HFM.out.2.2.nodup hxm.1 (moveP o.data.toList p.data.toList) (fun y hy hne => HOK.out.leaf (q := y.1) (j := y.2) HATO.out HK2.out (List.mem_filter.1 hy).1 (by rw [← hxm.2]; exact hne))
      rw [hxm.2, moveP_self] at hst
      have hO8 : Only (fun k => k = g) w7 (w7.drew.setCell ⟨g, k0 * 2, none⟩ (.string p)) := (show Only (fun k => k = g) w7 w7.drew from ⟨rfl, rfl, rfl, Nat.le_refl _, fun _ _ _ => rfl⟩).trans (Only.set (P := fun k => k = g) w7.drew ⟨g, k0 * 2, none⟩ (.string p) rfl)
      have h4 : ∀ y ∈ (St.moved { S with ls := S.ls.filter (fun y => y.1 != p.data.toList) } o.data.toList p.data.toList).ls, ∃ z ∈ S.ls, z.2 = y.2 := fun y hy => by
        obtain ⟨z, hz, rfl⟩ := List.mem_map.1 hy
        exact ⟨z, (List.mem_filter.1 hz).1, rfl⟩
      have hthing : ∀ k, thingD { S with ls := S.ls.filter (fun y => y.1 != p.data.toList) } B D k → (w7.drew.setCell ⟨g, k0 * 2, none⟩ (.string p)).heap[k]? = w7.heap[k]? := fun k hk => hO8.block k (D7.out.thing_lt hk) (by
        obtain ⟨cs, hB⟩ := D7.out.row_blk (k := g) rfl
        exact D7.out.thing_ne hk hB (by decide) (by decide))
      have hD8 : DocAt (w7.drew.setCell ⟨g, k0 * 2, none⟩ (.string p)) t _ (St.moved { S with ls := S.ls.filter (fun y => y.1 != p.data.toList) } o.data.toList p.data.toList) B D := D7.out.list_to _
        (D7.out.tree.heap (hO8.block t D7.out.tree.lt (fun e => HGT.out e.symm)))
        (by
          show (w7.drew.setCell ⟨g, k0 * 2, none⟩ (.string p)).ownsRow 0 129 2 _ ((S.ls.filter (fun y => y.1 != p.data.toList)).map (fun y => (moveP o.data.toList p.data.toList y.1, y.2))).length (encDs B ((S.ls.filter (fun y => y.1 != p.data.toList)).map (fun y => (moveP o.data.toList p.data.toList y.1, y.2))))
          rw [hst, List.length_set, encDs_set B _ k0 x _ hxm.1, HLNQ.out, str_of]
          have := own_set (w := w7.drew) HROW.out (k0 * 2) (.string p) (by have := HK0.out; omega)
          exact this) hthing (fun y hy => by
            obtain ⟨z, hz, rfl⟩ := List.mem_map.1 hy
            exact ⟨z, hz, rfl⟩)
      have hOO : Only (fun k => k = t ∨ v.ownBlock = some k) w6 (w7.drew.setCell ⟨g, k0 * 2, none⟩ (.string p)) :=
        ⟨hO8.os.trans O7.out.os, hO8.tape.trans O7.out.tape, hO8.output.trans O7.out.output, Nat.le_trans O7.out.size hO8.size, fun k hk hn => (hO8.block k (Nat.lt_of_lt_of_le hk O7.out.size) (fun e => by
          subst e
          rcases V7.out k rfl with e | e
          · exact hn (.inr e)
          · omega)).trans (O7.out.block k hk (fun e => hn (.inl e)))⟩
      have HF := Lib.hid (HPL.out w6 _ _ _ hD8 HFM.out.1 (HT7.out.moved HNO.out p.data.toList) h4 hOO V7.out HB6.out)
      clear hxm hid hst hO8 h4 hthing hD8 hOO
      go_wp2_with fail
      go_ret
      rw [K.out]
      exact ⟨rfl, HF.out⟩
    | some j =>
      have hat0 := (HLA.out (some j) (by first | rfl | trivial) HNP.out).2.1
      have hm := (HIFF.out _ _).1 hat0
      have HMJ := Lib.hid hm
      obtain ⟨kj, hkj⟩ : ∃ kj, (S.th j).kind = kj := ⟨_, rfl⟩
      have m0 : w5.cell? ⟨B j, 0, none⟩ = some (.int .i64 kj) := by have := (T5.out.node _ hm).cell 0; rw [← hkj]; simpa [encH] using this
      have m1 : w5.cell? ⟨B j, 1, none⟩ = some (.int .i64 j) := by have := (T5.out.node _ hm).cell 1; simpa [encH] using this
      have HKJ := Lib.hid hkj
      have HX6 := Lib.hid (show (if (S.th i).kind = 2 then ((11 : Int), S) else if (S.th j).kind = 2 then (13, S) else if j = i then (0, S) else (0, St.moved { S with ls := S.ls.filter (fun y => y.1 != p.data.toList) } o.data.toList p.data.toList)) = X from HX5.out)
      rw [show ptrM B (some j) = .pointer (some ⟨B j, 0, none⟩) from rfl]
      clear HX5 hat0 hm hkj
      rcases Classical.em (kj = 2) with h2 | h2
      · have K := Lib.hid (show X = (13, S) by rw [← HX6.out, if_neg HK2.out, if_pos (by rw [HKJ.out]; exact h2)])
        have e2 : (kj == 2) = true := by simpa using h2
        clear h2 HX6
        go_wp2_with fail
        go_ret
        rw [K.out]
        exact ⟨rfl, HDS.out _ HB5.out⟩
      have e2 : (kj == 2) = false := by simpa using h2
      have HKJ2 := Lib.hid (show (S.th j).kind ≠ 2 by rw [HKJ.out]; exact h2)
      have m0' : w5.drew.cell? ⟨B j, 1, none⟩ = _ := m1
      have n1' : w5.drew.cell? ⟨B i, 1, none⟩ = _ := n1
      clear h2
      rcases Classical.em (j = i) with hji | hji
      · have K := Lib.hid (show X = (0, S) by rw [← HX6.out, if_neg HK2.out, if_neg HKJ2.out, if_pos hji])
        have e3 : (j == i) = true := by simpa using hji
        have HB6 := Lib.hid (HB5.out.trans (((Below.refl w5.heap.size w5).drew).mono HB5.out.size))
        clear hji HX6
        go_wp2_with fail
        refine wp_region_held_drew (S := fun w' => Below (w5.drew).heap.size (w5.drew) w') (by kernel_rfl) (Below.refl _ _) (fun hHeld => ?_)
        refine wpAnyH_take (i := 0) (oi := ?oi25) (v := ?v25) ?hi25 ?hs25 ?hf25 ?hr25 ?hQ25 (Or.inl ⟨?hg25, ?hy25⟩) hHeld ?rest25
        case hi25 => simp only [List.getElem?_toArray, List.getElem?_cons_succ, List.getElem?_cons_zero]; rfl
        case hs25 => kernel_rfl
        case hf25 => kernel_rfl
        case hr25 => kernel_rfl
        case hg25 => rfl
        case hy25 => (intro w hSw; first | (go_simp; done) | (go_simp; with_reducible rfl))
        case hQ25 => exact fun _ _ _ h => h
        try simp only [Act.put, List.setIfInBounds_toArray, List.set_cons_zero, List.set_cons_succ]
        refine wpAnyH_take (i := 1) (oi := ?oi26) (v := ?v26) ?hi26 ?hs26 ?hf26 ?hr26 ?hQ26 (Or.inl ⟨?hg26, ?hy26⟩) hHeld ?rest26
        case hi26 => simp only [List.getElem?_toArray, List.getElem?_cons_succ, List.getElem?_cons_zero]; rfl
        case hs26 => kernel_rfl
        case hf26 => kernel_rfl
        case hr26 => kernel_rfl
        case hg26 => rfl
        case hy26 => (intro w hSw; first | (go_simp; done) | (go_simp; with_reducible rfl))
        case hQ26 => exact fun _ _ _ h => h
        try simp only [Act.put, List.setIfInBounds_toArray, List.set_cons_zero, List.set_cons_succ]
        refine wpAnyH_take (i := 2) (oi := ?oi27) (v := ?v27) ?hi27 ?hs27 ?hf27 ?hr27 ?hQ27 (Or.inl ⟨?hg27, ?hy27⟩) hHeld ?rest27
        case hi27 => simp only [List.getElem?_toArray, List.getElem?_cons_succ, List.getElem?_cons_zero]; rfl
        case hs27 => kernel_rfl
        case hf27 => kernel_rfl
        case hr27 => kernel_rfl
        case hg27 => rfl
        case hy27 => (intro w hSw; first | (go_simp; done) | (go_simp; with_reducible rfl))
        case hQ27 => exact fun _ _ _ h => h
        try simp only [Act.put, List.setIfInBounds_toArray, List.set_cons_zero, List.set_cons_succ]
        refine wpAnyH_take (i := 3) (oi := ?oi28) (v := ?v28) ?hi28 ?hs28 ?hf28 ?hr28 ?hQ28 (Or.inl ⟨?hg28, ?hy28⟩) hHeld ?rest28
        case hi28 => simp only [List.getElem?_toArray, List.getElem?_cons_succ, List.getElem?_cons_zero]; rfl
        case hs28 => kernel_rfl
        case hf28 => kernel_rfl
        case hr28 => kernel_rfl
        case hg28 => rfl
        case hy28 => (intro w hSw; first | (go_simp; done) | (go_simp; with_reducible rfl))
        case hQ28 => exact fun _ _ _ h => h
        try simp only [Act.put, List.setIfInBounds_toArray, List.set_cons_zero, List.set_cons_succ]
        refine wpAnyH_take (i := 4) (oi := ?oi29) (v := ?v29) ?hi29 ?hs29 ?hf29 ?hr29 ?hQ29 (Or.inl ⟨?hg29, ?hy29⟩) hHeld ?rest29
        case hi29 => simp only [List.getElem?_toArray, List.getElem?_cons_succ, List.getElem?_cons_zero]; rfl
        case hs29 => kernel_rfl
        case hf29 => kernel_rfl
        case hr29 => kernel_rfl
        case hg29 => rfl
        case hy29 => (intro w hSw; first | (go_simp; done) | (go_simp; with_reducible rfl))
        case hQ29 => exact fun _ _ _ h => h
        try simp only [Act.put, List.setIfInBounds_toArray, List.set_cons_zero, List.set_cons_succ]
        refine wpAnyH_take (i := 5) (oi := ?oi30) (v := ?v30) ?hi30 ?hs30 ?hf30 ?hr30 ?hQ30 (Or.inl ⟨?hg30, ?hy30⟩) hHeld ?rest30
        case hi30 => simp only [List.getElem?_toArray, List.getElem?_cons_succ, List.getElem?_cons_zero]; rfl
        case hs30 => kernel_rfl
        case hf30 => kernel_rfl
        case hr30 => kernel_rfl
        case hg30 => rfl
        case hy30 => (intro w hSw; first | (go_simp; done) | (go_simp; with_reducible rfl))
        case hQ30 => exact fun _ _ _ h => h
        try simp only [Act.put, List.setIfInBounds_toArray, List.set_cons_zero, List.set_cons_succ]
        refine wpAnyH_take (i := 6) (oi := ?oi31) (v := ?v31) ?hi31 ?hs31 ?hf31 ?hr31 ?hQ31 (Or.inl ⟨?hg31, ?hy31⟩) hHeld ?rest31
        case hi31 => simp only [List.getElem?_toArray, List.getElem?_cons_succ, List.getElem?_cons_zero]; rfl
        case hs31 => kernel_rfl
        case hf31 => kernel_rfl
        case hr31 => kernel_rfl
        case hg31 => rfl
        case hy31 => (intro w hSw; have x0 := cell_below m0' hSw; first | (go_simp; done) | (go_simp; with_reducible rfl))
        case hQ31 => exact fun _ _ _ h => h
        try simp only [Act.put, List.setIfInBounds_toArray, List.set_cons_zero, List.set_cons_succ]
        refine wpAnyH_take (i := 7) (oi := ?oi32) (v := ?v32) ?hi32 ?hs32 ?hf32 ?hr32 ?hQ32 (Or.inl ⟨?hg32, ?hy32⟩) hHeld ?rest32
        case hi32 => simp only [List.getElem?_toArray, List.getElem?_cons_succ, List.getElem?_cons_zero]; rfl
        case hs32 => kernel_rfl
        case hf32 => kernel_rfl
        case hr32 => kernel_rfl
        case hg32 => rfl
        case hy32 => (intro w hSw; first | (go_simp; done) | (go_simp; with_reducible rfl))
        case hQ32 => exact fun _ _ _ h => h
        try simp only [Act.put, List.setIfInBounds_toArray, List.set_cons_zero, List.set_cons_succ]
        refine wpAnyH_take (i := 8) (oi := ?oi33) (v := ?v33) ?hi33 ?hs33 ?hf33 ?hr33 ?hQ33 (Or.inl ⟨?hg33, ?hy33⟩) hHeld ?rest33
        case hi33 => simp only [List.getElem?_toArray, List.getElem?_cons_succ, List.getElem?_cons_zero]; rfl
        case hs33 => kernel_rfl
        case hf33 => kernel_rfl
        case hr33 => kernel_rfl
        case hg33 => rfl
        case hy33 => (intro w hSw; first | (go_simp; done) | (go_simp; with_reducible rfl))
        case hQ33 => exact fun _ _ _ h => h
        try simp only [Act.put, List.setIfInBounds_toArray, List.set_cons_zero, List.set_cons_succ]
        refine wpAnyH_take (i := 9) (oi := ?oi34) (v := ?v34) ?hi34 ?hs34 ?hf34 ?hr34 ?hQ34 (Or.inl ⟨?hg34, ?hy34⟩) hHeld ?rest34
        case hi34 => simp only [List.getElem?_toArray, List.getElem?_cons_succ, List.getElem?_cons_zero]; rfl
        case hs34 => kernel_rfl
        case hf34 => kernel_rfl
        case hr34 => kernel_rfl
        case hg34 => rfl
        case hy34 => (intro w hSw; first | (go_simp; done) | (go_simp; with_reducible rfl))
        case hQ34 => exact fun _ _ _ h => h
        try simp only [Act.put, List.setIfInBounds_toArray, List.set_cons_zero, List.set_cons_succ]
        refine wpAnyH_take (i := 10) (oi := ?oi35) (v := ?v35) ?hi35 ?hs35 ?hf35 ?hr35 ?hQ35 (Or.inl ⟨?hg35, ?hy35⟩) hHeld ?rest35
        case hi35 => simp only [List.getElem?_toArray, List.getElem?_cons_succ, List.getElem?_cons_zero]; rfl
        case hs35 => kernel_rfl
        case hf35 => kernel_rfl
        case hr35 => kernel_rfl
        case hg35 => rfl
        case hy35 => (intro w hSw; have x0 := cell_below n1' hSw; first | (go_simp; done) | (go_simp; with_reducible rfl))
        case hQ35 => exact fun _ _ _ h => h
        try simp only [Act.put, List.setIfInBounds_toArray, List.set_cons_zero, List.set_cons_succ]
        refine wpAnyH_take (i := 11) (oi := ?oi36) (v := ?v36) ?hi36 ?hs36 ?hf36 ?hr36 ?hQ36 (Or.inl ⟨?hg36, ?hy36⟩) hHeld ?rest36
        case hi36 => simp only [List.getElem?_toArray, List.getElem?_cons_succ, List.getElem?_cons_zero]; rfl
        case hs36 => kernel_rfl
        case hf36 => kernel_rfl
        case hr36 => kernel_rfl
        case hg36 => rfl
        case hy36 => (intro w hSw; first | (go_simp; done) | (go_simp; with_reducible rfl))
        case hQ36 => exact fun _ _ _ h => h
        try simp only [Act.put, List.setIfInBounds_toArray, List.set_cons_zero, List.set_cons_succ]
        refine wpAnyH_take (i := 12) (oi := ?oi37) (v := ?v37) ?hi37 ?hs37 ?hf37 ?hr37 ?hQ37 (Or.inl ⟨?hg37, ?hy37⟩) hHeld ?rest37
        case hi37 => simp only [List.getElem?_toArray, List.getElem?_cons_succ, List.getElem?_cons_zero]; rfl
        case hs37 => kernel_rfl
        case hf37 => kernel_rfl
        case hr37 => kernel_rfl
        case hg37 => rfl
        case hy37 => (intro w hSw; first | (go_simp; done) | (go_simp; with_reducible rfl))
        case hQ37 => exact fun _ _ _ h => h
        try simp only [Act.put, List.setIfInBounds_toArray, List.set_cons_zero, List.set_cons_succ]
        refine wpAnyH_done (by kernel_rfl) ?_ _
        clear hHeld
        go_wp2_with fail
        go_ret
        rw [K.out]
        exact ⟨rfl, HDS.out _ HB6.out⟩
      · have K := Lib.hid (show X = (0, St.moved { S with ls := S.ls.filter (fun y => y.1 != p.data.toList) } o.data.toList p.data.toList) by rw [← HX6.out, if_neg HK2.out, if_neg HKJ2.out, if_neg hji])
        have HW : Hid (∀ j', (some j : Option Int) = some j' → (S.th j').kind ≠ 2 ∧ j' ≠ i) := Lib.hid (fun j' h => by cases h; exact ⟨HKJ2.out, hji⟩)
        have e3 : (j == i) = false := by simpa using hji
        clear hji HX6
        go_wp2_with fail
        refine wp_region_held_drew (S := fun w' => Below (w5.drew).heap.size (w5.drew) w') (by kernel_rfl) (Below.refl _ _) (fun hHeld => ?_)
        refine wpAnyH_take (i := 0) (oi := ?oi38) (v := ?v38) ?hi38 ?hs38 ?hf38 ?hr38 ?hQ38 (Or.inl ⟨?hg38, ?hy38⟩) hHeld ?rest38
        case hi38 => simp only [List.getElem?_toArray, List.getElem?_cons_succ, List.getElem?_cons_zero]; rfl
        case hs38 => kernel_rfl
        case hf38 => kernel_rfl
        case hr38 => kernel_rfl
        case hg38 => rfl
        case hy38 => (intro w hSw; first | (go_simp; done) | (go_simp; with_reducible rfl))
        case hQ38 => exact fun _ _ _ h => h
        try simp only [Act.put, List.setIfInBounds_toArray, List.set_cons_zero, List.set_cons_succ]
        refine wpAnyH_take (i := 1) (oi := ?oi39) (v := ?v39) ?hi39 ?hs39 ?hf39 ?hr39 ?hQ39 (Or.inl ⟨?hg39, ?hy39⟩) hHeld ?rest39
        case hi39 => simp only [List.getElem?_toArray, List.getElem?_cons_succ, List.getElem?_cons_zero]; rfl
        case hs39 => kernel_rfl
        case hf39 => kernel_rfl
        case hr39 => kernel_rfl
        case hg39 => rfl
        case hy39 => (intro w hSw; first | (go_simp; done) | (go_simp; with_reducible rfl))
        case hQ39 => exact fun _ _ _ h => h
        try simp only [Act.put, List.setIfInBounds_toArray, List.set_cons_zero, List.set_cons_succ]
        refine wpAnyH_take (i := 2) (oi := ?oi40) (v := ?v40) ?hi40 ?hs40 ?hf40 ?hr40 ?hQ40 (Or.inl ⟨?hg40, ?hy40⟩) hHeld ?rest40
        case hi40 => simp only [List.getElem?_toArray, List.getElem?_cons_succ, List.getElem?_cons_zero]; rfl
        case hs40 => kernel_rfl
        case hf40 => kernel_rfl
        case hr40 => kernel_rfl
        case hg40 => rfl
        case hy40 => (intro w hSw; first | (go_simp; done) | (go_simp; with_reducible rfl))
        case hQ40 => exact fun _ _ _ h => h
        try simp only [Act.put, List.setIfInBounds_toArray, List.set_cons_zero, List.set_cons_succ]
        refine wpAnyH_take (i := 3) (oi := ?oi41) (v := ?v41) ?hi41 ?hs41 ?hf41 ?hr41 ?hQ41 (Or.inl ⟨?hg41, ?hy41⟩) hHeld ?rest41
        case hi41 => simp only [List.getElem?_toArray, List.getElem?_cons_succ, List.getElem?_cons_zero]; rfl
        case hs41 => kernel_rfl
        case hf41 => kernel_rfl
        case hr41 => kernel_rfl
        case hg41 => rfl
        case hy41 => (intro w hSw; first | (go_simp; done) | (go_simp; with_reducible rfl))
        case hQ41 => exact fun _ _ _ h => h
        try simp only [Act.put, List.setIfInBounds_toArray, List.set_cons_zero, List.set_cons_succ]
        refine wpAnyH_take (i := 4) (oi := ?oi42) (v := ?v42) ?hi42 ?hs42 ?hf42 ?hr42 ?hQ42 (Or.inl ⟨?hg42, ?hy42⟩) hHeld ?rest42
        case hi42 => simp only [List.getElem?_toArray, List.getElem?_cons_succ, List.getElem?_cons_zero]; rfl
        case hs42 => kernel_rfl
        case hf42 => kernel_rfl
        case hr42 => kernel_rfl
        case hg42 => rfl
        case hy42 => (intro w hSw; first | (go_simp; done) | (go_simp; with_reducible rfl))
        case hQ42 => exact fun _ _ _ h => h
        try simp only [Act.put, List.setIfInBounds_toArray, List.set_cons_zero, List.set_cons_succ]
        refine wpAnyH_take (i := 5) (oi := ?oi43) (v := ?v43) ?hi43 ?hs43 ?hf43 ?hr43 ?hQ43 (Or.inl ⟨?hg43, ?hy43⟩) hHeld ?rest43
        case hi43 => simp only [List.getElem?_toArray, List.getElem?_cons_succ, List.getElem?_cons_zero]; rfl
        case hs43 => kernel_rfl
        case hf43 => kernel_rfl
        case hr43 => kernel_rfl
        case hg43 => rfl
        case hy43 => (intro w hSw; first | (go_simp; done) | (go_simp; with_reducible rfl))
        case hQ43 => exact fun _ _ _ h => h
        try simp only [Act.put, List.setIfInBounds_toArray, List.set_cons_zero, List.set_cons_succ]
        refine wpAnyH_take (i := 6) (oi := ?oi44) (v := ?v44) ?hi44 ?hs44 ?hf44 ?hr44 ?hQ44 (Or.inl ⟨?hg44, ?hy44⟩) hHeld ?rest44
        case hi44 => simp only [List.getElem?_toArray, List.getElem?_cons_succ, List.getElem?_cons_zero]; rfl
        case hs44 => kernel_rfl
        case hf44 => kernel_rfl
        case hr44 => kernel_rfl
        case hg44 => rfl
        case hy44 => (intro w hSw; have x0 := cell_below m0' hSw; first | (go_simp; done) | (go_simp; with_reducible rfl))
        case hQ44 => exact fun _ _ _ h => h
        try simp only [Act.put, List.setIfInBounds_toArray, List.set_cons_zero, List.set_cons_succ]
        refine wpAnyH_take (i := 7) (oi := ?oi45) (v := ?v45) ?hi45 ?hs45 ?hf45 ?hr45 ?hQ45 (Or.inl ⟨?hg45, ?hy45⟩) hHeld ?rest45
        case hi45 => simp only [List.getElem?_toArray, List.getElem?_cons_succ, List.getElem?_cons_zero]; rfl
        case hs45 => kernel_rfl
        case hf45 => kernel_rfl
        case hr45 => kernel_rfl
        case hg45 => rfl
        case hy45 => (intro w hSw; first | (go_simp; done) | (go_simp; with_reducible rfl))
        case hQ45 => exact fun _ _ _ h => h
        try simp only [Act.put, List.setIfInBounds_toArray, List.set_cons_zero, List.set_cons_succ]
        refine wpAnyH_take (i := 8) (oi := ?oi46) (v := ?v46) ?hi46 ?hs46 ?hf46 ?hr46 ?hQ46 (Or.inl ⟨?hg46, ?hy46⟩) hHeld ?rest46
        case hi46 => simp only [List.getElem?_toArray, List.getElem?_cons_succ, List.getElem?_cons_zero]; rfl
        case hs46 => kernel_rfl
        case hf46 => kernel_rfl
        case hr46 => kernel_rfl
        case hg46 => rfl
        case hy46 => (intro w hSw; first | (go_simp; done) | (go_simp; with_reducible rfl))
        case hQ46 => exact fun _ _ _ h => h
        try simp only [Act.put, List.setIfInBounds_toArray, List.set_cons_zero, List.set_cons_succ]
        refine wpAnyH_take (i := 9) (oi := ?oi47) (v := ?v47) ?hi47 ?hs47 ?hf47 ?hr47 ?hQ47 (Or.inl ⟨?hg47, ?hy47⟩) hHeld ?rest47
        case hi47 => simp only [List.getElem?_toArray, List.getElem?_cons_succ, List.getElem?_cons_zero]; rfl
        case hs47 => kernel_rfl
        case hf47 => kernel_rfl
        case hr47 => kernel_rfl
        case hg47 => rfl
        case hy47 => (intro w hSw; first | (go_simp; done) | (go_simp; with_reducible rfl))
        case hQ47 => exact fun _ _ _ h => h
        try simp only [Act.put, List.setIfInBounds_toArray, List.set_cons_zero, List.set_cons_succ]
        refine wpAnyH_take (i := 10) (oi := ?oi48) (v := ?v48) ?hi48 ?hs48 ?hf48 ?hr48 ?hQ48 (Or.inl ⟨?hg48, ?hy48⟩) hHeld ?rest48
        case hi48 => simp only [List.getElem?_toArray, List.getElem?_cons_succ, List.getElem?_cons_zero]; rfl
        case hs48 => kernel_rfl
        case hf48 => kernel_rfl
        case hr48 => kernel_rfl
        case hg48 => rfl
        case hy48 => (intro w hSw; have x0 := cell_below n1' hSw; first | (go_simp; done) | (go_simp; with_reducible rfl))
        case hQ48 => exact fun _ _ _ h => h
        try simp only [Act.put, List.setIfInBounds_toArray, List.set_cons_zero, List.set_cons_succ]
        refine wpAnyH_take (i := 11) (oi := ?oi49) (v := ?v49) ?hi49 ?hs49 ?hf49 ?hr49 ?hQ49 (Or.inl ⟨?hg49, ?hy49⟩) hHeld ?rest49
        case hi49 => simp only [List.getElem?_toArray, List.getElem?_cons_succ, List.getElem?_cons_zero]; rfl
        case hs49 => kernel_rfl
        case hf49 => kernel_rfl
        case hr49 => kernel_rfl
        case hg49 => rfl
        case hy49 => (intro w hSw; first | (go_simp; done) | (go_simp; with_reducible rfl))
        case hQ49 => exact fun _ _ _ h => h
        try simp only [Act.put, List.setIfInBounds_toArray, List.set_cons_zero, List.set_cons_succ]
        refine wpAnyH_take (i := 12) (oi := ?oi50) (v := ?v50) ?hi50 ?hs50 ?hf50 ?hr50 ?hQ50 (Or.inl ⟨?hg50, ?hy50⟩) hHeld ?rest50
        case hi50 => simp only [List.getElem?_toArray, List.getElem?_cons_succ, List.getElem?_cons_zero]; rfl
        case hs50 => kernel_rfl
        case hf50 => kernel_rfl
        case hr50 => kernel_rfl
        case hg50 => rfl
        case hy50 => (intro w hSw; first | (go_simp; done) | (go_simp; with_reducible rfl))
        case hQ50 => exact fun _ _ _ h => h
        try simp only [Act.put, List.setIfInBounds_toArray, List.set_cons_zero, List.set_cons_succ]
        refine wpAnyH_done (by kernel_rfl) ?_ _
        clear hHeld
        have HB6 := Lib.hid (HB5.out.trans (((Below.refl w5.heap.size w5).drew).mono HB5.out.size))
        have T6 := Lib.hid (T5.out.below ((Below.refl w5.heap.size w5).drew))
        clear T5 HB5 m0 m1 m0' n1'
        generalize w5.drew = w6 at *
        have HFM := Lib.hid (file_move HOK.out HRB1.out HRB2.out HNO.out HNP.out HATO.out HK2.out HLP.out HW.out)
        have HGG := Lib.hid (HGO.out w6 T6.out HNP.out)
        clear n0 n1
        go_wp2_with fail
        refine HGG.out.mono ?_
        rintro e w7 ⟨rfl, v7, hD7, hO7, hv7⟩
        have D7 := Lib.hid hD7
        have O7 := Lib.hid hO7
        have V7 := Lib.hid hv7
        have hln : (S.ls.filter (fun y => y.1 != p.data.toList)).length ≤ 1000000 := Nat.le_trans (List.length_filter_le _ _) HL.out
        have hT7 : TopS { S with ls := S.ls.filter (fun y => y.1 != p.data.toList) } := HTOP.out.gone HNP.out
        have HA7 := Lib.hid (At_any t v7 _ B D o w7.drew (hD7.below ((Below.refl w7.heap.size w7).drew)) HFM.out.2.2 hT7 hln)
        have HA1 := Lib.hid (show St.at { S with ls := S.ls.filter (fun y => y.1 != p.data.toList) } o.data.toList = some i from (gone_at (S := S) (p := p.data.toList) (q := o.data.toList) HFM.out.2.2 HOK.out i).2 ⟨fun e => HFM.out.2.1 e.symm, HATO.out⟩)
        obtain ⟨g, cap, rfl, hcap, hsl⟩ := hD7.sl hT7 hln
        have t0 := hD7.tree.cell 0
        simp only [List.getElem?_cons_zero] at t0
        have hgt : g ≠ t := by
          obtain ⟨cs, hB⟩ := hD7.row_blk (k := g) rfl
          exact hB.ne hD7.tree (by decide)
        have t0' : w7.drew.cell? ⟨t, 0, none⟩ = _ := t0
        obtain ⟨ln, hlnq⟩ : ∃ ln, (S.ls.filter (fun y => y.1 != p.data.toList)).length = ln := ⟨_, rfl⟩
        have HLNQ := Lib.hid hlnq
        rw [hlnq] at t0 t0' hln hcap
        have HGT := Lib.hid hgt
        have HT7 := Lib.hid hT7
        have HLN := Lib.hid hln
        have hng : ¬ (t = g) := fun e => hgt e.symm
        rw [hlnq] at D7 V7
        have HROW := Lib.hid (show w7.ownsRow 0 129 2 (.slice (some ⟨g, 0, none⟩) ln cap) ln (encDs B (S.ls.filter (fun y => y.1 != p.data.toList))) from by rw [← hlnq]; exact hD7.row)
        clear hD7 hO7 hv7 hT7 hsl hcap HGG T6 hgt hlnq
        go_wp2_with fail
        refine wp_region_held_drew (S := (fun w' => Only (fun k => k = g) w7.drew w')) (by kernel_rfl) (Only.refl _ _) (fun hHeld => ?_)
        refine wpAnyH_take (i := 0) (oi := ?oi51) (v := ?v51) ?hi51 ?hs51 ?hf51 ?hr51 ?hQ51 (Or.inl ⟨?hg51, ?hy51⟩) hHeld ?rest51
        case hi51 => simp only [List.getElem?_toArray, List.getElem?_cons_succ, List.getElem?_cons_zero]; rfl
        case hs51 => kernel_rfl
        case hf51 => kernel_rfl
        case hr51 => kernel_rfl
        case hg51 => rfl
        case hy51 => (intro w hSw; first | (go_simp; done) | (go_simp; with_reducible rfl))
        case hQ51 => exact fun _ _ _ h => h
        try simp only [Act.put, List.setIfInBounds_toArray, List.set_cons_zero, List.set_cons_succ]
        refine wpAnyH_take (i := 1) (oi := ?oi52) (v := ?v52) ?hi52 ?hs52 ?hf52 ?hr52 ?hQ52 (Or.inl ⟨?hg52, ?hy52⟩) hHeld ?rest52
        case hi52 => simp only [List.getElem?_toArray, List.getElem?_cons_succ, List.getElem?_cons_zero]; rfl
        case hs52 => kernel_rfl
        case hf52 => kernel_rfl
        case hr52 => kernel_rfl
        case hg52 => rfl
        case hy52 => (intro w hSw; first | (go_simp; done) | (go_simp; with_reducible rfl))
        case hQ52 => exact fun _ _ _ h => h
        try simp only [Act.put, List.setIfInBounds_toArray, List.set_cons_zero, List.set_cons_succ]
        refine wpAnyH_take (i := 2) (oi := ?oi53) (v := ?v53) ?hi53 ?hs53 ?hf53 ?hr53 ?hQ53 (Or.inl ⟨?hg53, ?hy53⟩) hHeld ?rest53
        case hi53 => simp only [List.getElem?_toArray, List.getElem?_cons_succ, List.getElem?_cons_zero]; rfl
        case hs53 => kernel_rfl
        case hf53 => kernel_rfl
        case hr53 => kernel_rfl
        case hg53 => rfl
        case hy53 => (intro w hSw; first | (go_simp; done) | (go_simp; with_reducible rfl))
        case hQ53 => exact fun _ _ _ h => h
        try simp only [Act.put, List.setIfInBounds_toArray, List.set_cons_zero, List.set_cons_succ]
        refine wpAnyH_take (i := 3) (oi := ?oi54) (v := ?v54) ?hi54 ?hs54 ?hf54 ?hr54 ?hQ54 (Or.inl ⟨?hg54, ?hy54⟩) hHeld ?rest54
        case hi54 => simp only [List.getElem?_toArray, List.getElem?_cons_succ, List.getElem?_cons_zero]; rfl
        case hs54 => kernel_rfl
        case hf54 => kernel_rfl
        case hr54 => kernel_rfl
        case hg54 => rfl
        case hy54 => (intro w hSw; have x0 := Only.cell hSw t0' (fun e => hng e); first | (go_simp; done) | (go_simp; with_reducible rfl))
        case hQ54 => exact fun _ _ _ h => h
        try simp only [Act.put, List.setIfInBounds_toArray, List.set_cons_zero, List.set_cons_succ]
        refine wpAnyH_take (i := 4) (oi := ?oi55) (v := ?v55) ?hi55 ?hs55 ?hf55 ?hr55 ?hQ55 (Or.inl ⟨?hg55, ?hy55⟩) hHeld ?rest55
        case hi55 => simp only [List.getElem?_toArray, List.getElem?_cons_succ, List.getElem?_cons_zero]; rfl
        case hs55 => kernel_rfl
        case hf55 => kernel_rfl
        case hr55 => kernel_rfl
        case hg55 => rfl
        case hy55 => (intro w hSw; first | (go_simp; done) | (go_simp; with_reducible rfl))
        case hQ55 => exact fun _ _ _ h => h
        try simp only [Act.put, List.setIfInBounds_toArray, List.set_cons_zero, List.set_cons_succ]
        refine wpAnyH_take (i := 5) (oi := ?oi56) (v := ?v56) ?hi56 ?hs56 ?hf56 ?hr56 ?hQ56 (Or.inl ⟨?hg56, ?hy56⟩) hHeld ?rest56
        case hi56 => simp only [List.getElem?_toArray, List.getElem?_cons_succ, List.getElem?_cons_zero]; rfl
        case hs56 => kernel_rfl
        case hf56 => kernel_rfl
        case hr56 => kernel_rfl
        case hg56 => rfl
        case hy56 => (intro w hSw; first | (go_simp; done) | (go_simp; with_reducible rfl))
        case hQ56 => exact fun _ _ _ h => h
        try simp only [Act.put, List.setIfInBounds_toArray, List.set_cons_zero, List.set_cons_succ]
        refine wpAnyH_take (i := 7) (oi := ?oi57) (v := ?v57) ?hi57 ?hs57 ?hf57 ?hr57 ?hQ57 (Or.inl ⟨?hg57, ?hy57⟩) hHeld ?rest57
        case hi57 => simp only [List.getElem?_toArray, List.getElem?_cons_succ, List.getElem?_cons_zero]; rfl
        case hs57 => kernel_rfl
        case hf57 => kernel_rfl
        case hr57 => kernel_rfl
        case hg57 => rfl
        case hy57 => (intro w hSw; first | (go_simp; done) | (go_simp; with_reducible rfl))
        case hQ57 => exact fun _ _ _ h => h
        try simp only [Act.put, List.setIfInBounds_toArray, List.set_cons_zero, List.set_cons_succ]
        refine wpAnyH_ready (rs := [6]) (by kernel_rfl) (by simp) ?_
        refine AllReadyH.cons (o := ?oi58) ?hi58 (fun K hK => ?_) AllReadyH.nil
        case hi58 => simp only [List.getElem?_toArray, List.getElem?_cons_succ, List.getElem?_cons_zero]; rfl
        go_simp; go_at_call 136; refine HA7.out.mono ?_; rintro e w8 ⟨⟨r, rfl, hr⟩, rfl⟩; go_wp2_with fail
        refine hK.out _ _ ((Only.refl _ _)) (fun hHeld2 => ?_)
        clear hK K hHeld
        have hHeld := hHeld2
        clear hHeld2
        try simp only [Act.put, List.setIfInBounds_toArray, List.set_cons_zero, List.set_cons_succ]
        rcases hr with ⟨rfl, hr⟩ | ⟨k0, x, rfl, hx, hx1, hr⟩
        · exact absurd (HA1.out.symm.trans hr) (by simp)
        have HX0 := Lib.hid (And.intro hx hx1)
        have hk0 : k0 < ln := by rw [← HLNQ.out]; exact (List.getElem?_eq_some_iff.1 hx).1
        have i1 : (k0 : Int) < (ln : Int) := by omega
        have i2 : (0 : Int) ≤ (k0 : Int) := by omega
        have HK0 := Lib.hid hk0
        clear hx hx1 hr hk0
        have hrb := HROW.out
        obtain ⟨csB, hB7⟩ := D7.out.row_blk (k := g) rfl
        have c0 : ∃ u, w7.drew.cell? ⟨g, k0 * 2, none⟩ = some u := by
          obtain ⟨g', cap', cs, he, _, _, _, hB, h3, _, _⟩ := row_at HROW.out (by have := HK0.out; omega)
          cases he
          obtain ⟨y, hy⟩ : ∃ y, (encDs B (S.ls.filter (fun y => y.1 != p.data.toList)))[k0 * 2]? = some y := ⟨_, List.getElem?_eq_getElem (by rw [encDs_len, HLNQ.out]; have := HK0.out; omega)⟩
          exact ⟨y, h3 _ y hy⟩
        obtain ⟨u0, c0⟩ := c0
        have f0 : w7.drew.frozen? ⟨g, k0 * 2, none⟩ = false := hB7.frozen _
        clear hrb hB7
        refine wpAnyH_take (i := 8) (oi := ?oi59) (v := ?v59) ?hi59 ?hs59 ?hf59 ?hr59 ?hQ59 (Or.inl ⟨?hg59, ?hy59⟩) hHeld ?rest59
        case hi59 => simp only [List.getElem?_toArray, List.getElem?_cons_succ, List.getElem?_cons_zero]; rfl
        case hs59 => kernel_rfl
        case hf59 => kernel_rfl
        case hr59 => kernel_rfl
        case hg59 => rfl
        case hy59 => (intro w hSw; first | (go_simp; done) | (go_simp; with_reducible rfl))
        case hQ59 => exact fun _ _ _ h => h
        try simp only [Act.put, List.setIfInBounds_toArray, List.set_cons_zero, List.set_cons_succ]
        refine wpAnyH_take (i := 9) (oi := ?oi60) (v := ?v60) ?hi60 ?hs60 ?hf60 ?hr60 ?hQ60 (Or.inl ⟨?hg60, ?hy60⟩) hHeld ?rest60
        case hi60 => simp only [List.getElem?_toArray, List.getElem?_cons_succ, List.getElem?_cons_zero]; rfl
        case hs60 => kernel_rfl
        case hf60 => kernel_rfl
        case hr60 => kernel_rfl
        case hg60 => rfl
        case hy60 => (intro w hSw; first | (go_simp; done) | (go_simp; with_reducible rfl))
        case hQ60 => exact fun _ _ _ h => h
        try simp only [Act.put, List.setIfInBounds_toArray, List.set_cons_zero, List.set_cons_succ]
        refine wpAnyH_ready (rs := [10]) (by kernel_rfl) (by simp) ?_
        refine AllReadyH.cons (o := ?oi61) ?hi61 (fun K hK => ?_) AllReadyH.nil
        case hi61 => simp only [List.getElem?_toArray, List.getElem?_cons_succ, List.getElem?_cons_zero]; rfl
        go_simp
        refine hK.out _ _ ((Only.set (P := fun k => k = g) w7.drew ⟨g, k0 * 2, none⟩ _ rfl)) (fun hHeld2 => ?_)
        clear hK K hHeld
        have hHeld := hHeld2
        clear hHeld2
        try simp only [Act.put, List.setIfInBounds_toArray, List.set_cons_zero, List.set_cons_succ]
        refine wpAnyH_done (by kernel_rfl) ?_ _
        clear hHeld c0 f0 t0 t0' i1 i2
        have hxm := HX0.out
        have hid := HA1.out
        rw [← hxm.2] at hid
        have hst := set_map HFM.out.2.2.nodup hxm.1 (moveP o.data.toList p.data.toList) (fun y hy hne => HOK.out.leaf (q := y.1) (j := y.2) HATO.out HK2.out (List.mem_filter.1 hy).1 (by rw [← hxm.2]; exact hne))
        rw [hxm.2, moveP_self] at hst
        have hO8 : Only (fun k => k = g) w7 (w7.drew.setCell ⟨g, k0 * 2, none⟩ (.string p)) := (show Only (fun k => k = g) w7 w7.drew from ⟨rfl, rfl, rfl, Nat.le_refl _, fun _ _ _ => rfl⟩).trans (Only.set (P := fun k => k = g) w7.drew ⟨g, k0 * 2, none⟩ (.string p) rfl)
        have h4 : ∀ y ∈ (St.moved { S with ls := S.ls.filter (fun y => y.1 != p.data.toList) } o.data.toList p.data.toList).ls, ∃ z ∈ S.ls, z.2 = y.2 := fun y hy => by
          obtain ⟨z, hz, rfl⟩ := List.mem_map.1 hy
          exact ⟨z, (List.mem_filter.1 hz).1, rfl⟩
        have hthing : ∀ k, thingD { S with ls := S.ls.filter (fun y => y.1 != p.data.toList) } B D k → (w7.drew.setCell ⟨g, k0 * 2, none⟩ (.string p)).heap[k]? = w7.heap[k]? := fun k hk => hO8.block k (D7.out.thing_lt hk) (by
          obtain ⟨cs, hB⟩ := D7.out.row_blk (k := g) rfl
          exact D7.out.thing_ne hk hB (by decide) (by decide))
        have hD8 : DocAt (w7.drew.setCell ⟨g, k0 * 2, none⟩ (.string p)) t _ (St.moved { S with ls := S.ls.filter (fun y => y.1 != p.data.toList) } o.data.toList p.data.toList) B D := D7.out.list_to _
          (D7.out.tree.heap (hO8.block t D7.out.tree.lt (fun e => HGT.out e.symm)))
          (by
            show (w7.drew.setCell ⟨g, k0 * 2, none⟩ (.string p)).ownsRow 0 129 2 _ ((S.ls.filter (fun y => y.1 != p.data.toList)).map (fun y => (moveP o.data.toList p.data.toList y.1, y.2))).length (encDs B ((S.ls.filter (fun y => y.1 != p.data.toList)).map (fun y => (moveP o.data.toList p.data.toList y.1, y.2))))
            rw [hst, List.length_set, encDs_set B _ k0 x _ hxm.1, HLNQ.out, str_of]
            have := own_set (w := w7.drew) HROW.out (k0 * 2) (.string p) (by have := HK0.out; omega)
            exact this) hthing (fun y hy => by
              obtain ⟨z, hz, rfl⟩ := List.mem_map.1 hy
              exact ⟨z, hz, rfl⟩)
        have hOO : Only (fun k => k = t ∨ v.ownBlock = some k) w6 (w7.drew.setCell ⟨g, k0 * 2, none⟩ (.string p)) :=
          ⟨hO8.os.trans O7.out.os, hO8.tape.trans O7.out.tape, hO8.output.trans O7.out.output, Nat.le_trans O7.out.size hO8.size, fun k hk hn => (hO8.block k (Nat.lt_of_lt_of_le hk O7.out.size) (fun e => by
            subst e
            rcases V7.out k rfl with e | e
            · exact hn (.inr e)
            · omega)).trans (O7.out.block k hk (fun e => hn (.inl e)))⟩
        have HF := Lib.hid (HPL.out w6 _ _ _ hD8 HFM.out.1 (HT7.out.moved HNO.out p.data.toList) h4 hOO V7.out HB6.out)
        clear hxm hid hst hO8 h4 hthing hD8 hOO
        go_wp2_with fail
        go_ret
        rw [K.out]
        exact ⟨rfl, HF.out⟩
  · subst hk
    by_cases hpo : p = o
    · have HX4 := Lib.hid (HPO.out (fun h => h.2.1 (by rw [hpo])))
      have HB4 := Lib.hid HB3.out
      have T4 := Lib.hid T3.out
      have HOUT := Lib.hid (show ¬ (p.data.toList ≠ o.data.toList ∧ pfxB (splitB p.data.toList) (splitB o.data.toList) = true) from fun h => h.1 (by rw [hpo]))
      have q0 : (p.toList == o.toList) = true := by rw [hpo]; simp
      clear hpo HPO HX3 T3 HB3
      go_wp2_with fail
      refine (HNLK.out w3 T4.out).mono ?_
      rintro e w5 ⟨rfl, hb5⟩
      have HB5 := Lib.hid (HB4.out.trans (hb5.mono HB4.out.size))
      have T5 := Lib.hid (T4.out.below hb5)
      clear hb5 T4 HB4 HNLK
      rcases (Classical.em (rpe = 0)).symm with hp0 | hp0
      · have K := Lib.hid (show X = (rpe, S) by rw [← HX4.out]; exact if_pos hp0)
        have e1 : (rpe != 0) = true := by simpa using hp0
        clear hp0 HX4
        go_wp2_with fail
        go_ret
        rw [K.out]
        exact ⟨rfl, HDS.out _ HB5.out⟩
      subst hp0
      have HX5 := Lib.hid (show moveR S o.data.toList p.data.toList i rp = X from HX4.out)
      clear HX4
      obtain ⟨n0, n1⟩ := HNK.out w5 T5.out
      cases rp with
      | some j =>
        have K := Lib.hid (show X = (11, S) by rw [← HX5.out]; unfold moveR; exact if_pos HKD.out)
        rw [show ptrM B (some j) = .pointer (some ⟨B j, 0, none⟩) from rfl]
        clear HX5
        go_wp2_with fail
        go_ret
        rw [K.out]
        exact ⟨rfl, HDS.out _ HB5.out⟩
      | none =>
      have HX6 := Lib.hid (show (if (S.th i).kind = 2 ∧ (S.ls.all fun y => rightB (moveP o.data.toList p.data.toList y.1)) = false then ((7 : Int), S) else (0, S.moved o.data.toList p.data.toList)) = X from HX5.out)
      rw [show ptrM B none = .pointer none from rfl]
      have HDM := Lib.hid (fun hal => dir_move HOK.out HRB1.out HRB2.out HNO.out HNP.out HATO.out HLP.out HOUT.out hal)
      have HMM := Lib.hid (HMV.out w5 T5.out HNO.out HNP.out)
      obtain ⟨al, hal⟩ : ∃ al, (S.ls.all fun y => rightB (moveP o.data.toList p.data.toList y.1)) = al := ⟨_, rfl⟩
      rw [hal] at HX6 HDM HMM
      clear HX5 hal
      go_wp2_with fail
      refine HMM.out.mono ?_
      rintro e w6 ⟨hpost, hb6⟩
      unfold MvPost at hpost
      cases al with
      | false =>
        rw [if_neg (by simp)] at hpost
        subst hpost
        have K := Lib.hid (show X = (7, S) by rw [← HX6.out]; exact if_pos ⟨HKD.out, rfl⟩)
        have HB6 := Lib.hid (HB5.out.trans (hb6.mono HB5.out.size))
        clear hb6 HX6 HMM n0 n1
        go_wp2_with fail
        go_ret
        rw [K.out]
        exact ⟨rfl, HDS.out _ HB6.out⟩
      | true =>
        rw [if_pos rfl] at hpost
        obtain ⟨u, rfl, hown⟩ := hpost
        have K := Lib.hid (show X = (0, S.moved o.data.toList p.data.toList) by rw [← HX6.out]; exact if_neg (fun h => by cases h.2))
        have T6 := T5.out.below hb6
        have HB6 := HB5.out.trans (hb6.mono HB5.out.size)
        have hut : ∀ b, u.ownBlock = some b → b ≠ t := fun b hb e => by
          have h1 := (row_lt hown hb).1
          have h2 := T5.out.tree.lt
          rw [e] at h1; omega
        have h4 : ∀ y ∈ S.ls.map (mvF o.data.toList p.data.toList), ∃ z ∈ S.ls, z.2 = y.2 := fun y hy => by
          obtain ⟨z, hz, rfl⟩ := List.mem_map.1 hy
          exact ⟨z, hz, rfl⟩
        have hO7 : Only (fun k => k = t ∨ v.ownBlock = some k) w6 (w6.setCell ⟨t, 0, none⟩ u) := Only.set w6 ⟨t, 0, none⟩ u (.inl rfl)
        have hD7 : DocAt (w6.setCell ⟨t, 0, none⟩ u) t u { S with ls := S.ls.map (mvF o.data.toList p.data.toList) } B D := T6.list_to _ (T6.tree.set 0 u)
          (row_heap ⟨hown.1, hown.2.imp id (fun ⟨g, cap, cur, a, b, r⟩ => ⟨g, cap, cur, a, Nat.zero_le _, r⟩)⟩ (fun b hb => heap_setCell_other w6 ⟨t, 0, none⟩ b u (hut b hb))) (T6.only_things hO7) h4
        have HF := Lib.hid (HPL.out w5 _ u _ hD7 (HDM.out (by first | rfl | trivial)) (HTOP.out.moved HNO.out p.data.toList) h4 ((Only.of hb6).trans hO7) (fun k hk => .inr (row_lt hown hk).1) HB5.out)
        have t0 := T6.tree.cell 0
        have g0 := T6.tree.frozen 0
        simp only [List.getElem?_cons_zero] at t0
        obtain ⟨A1, m1, c1, rfl⟩ := T6.slice
        obtain ⟨A2, m2, c2, rfl⟩ := own_slice hown
        clear hut h4 hO7 hD7 hown T6 HB6 hb6 n0 n1 HX6 HMM
        go_wp2_with fail
        go_ret
        rw [K.out]
        exact ⟨rfl, HF.out⟩
    · have hne : p.data.toList ≠ o.data.toList := fun e => hpo (ByteArray.ext (Array.toList_inj.1 e))
      have q0 : (p.toList == o.toList) = false := ne_toListD hpo
      have HNE := Lib.hid hne
      clear hpo hne
      go_wp2_with fail
      refine (HUN.out w3).mono ?_
      rintro e w4 ⟨rfl, hb4⟩
      have HB4 := Lib.hid (HB3.out.trans (hb4.mono HB3.out.size))
      have T4 := Lib.hid (T3.out.below hb4)
      clear hb4 T3 HB3 HUN n0 n1
      cases px with
      | true =>
        have K := Lib.hid (show X = (2, S) by rw [← HX3.out]; refine if_pos ⟨?_, HNE.out, ?_⟩ <;> first | rfl | trivial)
        clear HX3 HPO
        go_wp2_with fail
        go_ret
        rw [K.out]
        exact ⟨rfl, HDS.out _ HB4.out⟩
      | false =>
      have HX4 := Lib.hid (HPO.out (fun h => by cases h.2.2))
      have HOUT := Lib.hid (show ¬ (p.data.toList ≠ o.data.toList ∧ pfxB (splitB p.data.toList) (splitB o.data.toList) = true) from fun h => by rw [HPX.out] at h; cases h.2)
      clear HPO HX3
      go_wp2_with fail
      refine (HNLK.out w4 T4.out).mono ?_
      rintro e w5 ⟨rfl, hb5⟩
      have HB5 := Lib.hid (HB4.out.trans (hb5.mono HB4.out.size))
      have T5 := Lib.hid (T4.out.below hb5)
      clear hb5 T4 HB4 HNLK
      rcases (Classical.em (rpe = 0)).symm with hp0 | hp0
      · have K := Lib.hid (show X = (rpe, S) by rw [← HX4.out]; exact if_pos hp0)
        have e1 : (rpe != 0) = true := by simpa using hp0
        clear hp0 HX4
        go_wp2_with fail
        go_ret
        rw [K.out]
        exact ⟨rfl, HDS.out _ HB5.out⟩
      subst hp0
      have HX5 := Lib.hid (show moveR S o.data.toList p.data.toList i rp = X from HX4.out)
      clear HX4
      obtain ⟨n0, n1⟩ := HNK.out w5 T5.out
      cases rp with
      | some j =>
        have K := Lib.hid (show X = (11, S) by rw [← HX5.out]; unfold moveR; exact if_pos HKD.out)
        rw [show ptrM B (some j) = .pointer (some ⟨B j, 0, none⟩) from rfl]
        clear HX5
        go_wp2_with fail
        go_ret
        rw [K.out]
        exact ⟨rfl, HDS.out _ HB5.out⟩
      | none =>
      have HX6 := Lib.hid (show (if (S.th i).kind = 2 ∧ (S.ls.all fun y => rightB (moveP o.data.toList p.data.toList y.1)) = false then ((7 : Int), S) else (0, S.moved o.data.toList p.data.toList)) = X from HX5.out)
      rw [show ptrM B none = .pointer none from rfl]
      have HDM := Lib.hid (fun hal => dir_move HOK.out HRB1.out HRB2.out HNO.out HNP.out HATO.out HLP.out HOUT.out hal)
      have HMM := Lib.hid (HMV.out w5 T5.out HNO.out HNP.out)
      obtain ⟨al, hal⟩ : ∃ al, (S.ls.all fun y => rightB (moveP o.data.toList p.data.toList y.1)) = al := ⟨_, rfl⟩
      rw [hal] at HX6 HDM HMM
      clear HX5 hal
      go_wp2_with fail
      refine HMM.out.mono ?_
      rintro e w6 ⟨hpost, hb6⟩
      unfold MvPost at hpost
      cases al with
      | false =>
        rw [if_neg (by simp)] at hpost
        subst hpost
        have K := Lib.hid (show X = (7, S) by rw [← HX6.out]; exact if_pos ⟨HKD.out, rfl⟩)
        have HB6 := Lib.hid (HB5.out.trans (hb6.mono HB5.out.size))
        clear hb6 HX6 HMM n0 n1
        go_wp2_with fail
        go_ret
        rw [K.out]
        exact ⟨rfl, HDS.out _ HB6.out⟩
      | true =>
        rw [if_pos rfl] at hpost
        obtain ⟨u, rfl, hown⟩ := hpost
        have K := Lib.hid (show X = (0, S.moved o.data.toList p.data.toList) by rw [← HX6.out]; exact if_neg (fun h => by cases h.2))
        have T6 := T5.out.below hb6
        have HB6 := HB5.out.trans (hb6.mono HB5.out.size)
        have hut : ∀ b, u.ownBlock = some b → b ≠ t := fun b hb e => by
          have h1 := (row_lt hown hb).1
          have h2 := T5.out.tree.lt
          rw [e] at h1; omega
        have h4 : ∀ y ∈ S.ls.map (mvF o.data.toList p.data.toList), ∃ z ∈ S.ls, z.2 = y.2 := fun y hy => by
          obtain ⟨z, hz, rfl⟩ := List.mem_map.1 hy
          exact ⟨z, hz, rfl⟩
        have hO7 : Only (fun k => k = t ∨ v.ownBlock = some k) w6 (w6.setCell ⟨t, 0, none⟩ u) := Only.set w6 ⟨t, 0, none⟩ u (.inl rfl)
        have hD7 : DocAt (w6.setCell ⟨t, 0, none⟩ u) t u { S with ls := S.ls.map (mvF o.data.toList p.data.toList) } B D := T6.list_to _ (T6.tree.set 0 u)
          (row_heap ⟨hown.1, hown.2.imp id (fun ⟨g, cap, cur, a, b, r⟩ => ⟨g, cap, cur, a, Nat.zero_le _, r⟩)⟩ (fun b hb => heap_setCell_other w6 ⟨t, 0, none⟩ b u (hut b hb))) (T6.only_things hO7) h4
        have HF := Lib.hid (HPL.out w5 _ u _ hD7 (HDM.out (by first | rfl | trivial)) (HTOP.out.moved HNO.out p.data.toList) h4 ((Only.of hb6).trans hO7) (fun k hk => .inr (row_lt hown hk).1) HB5.out)
        have t0 := T6.tree.cell 0
        have g0 := T6.tree.frozen 0
        simp only [List.getElem?_cons_zero] at t0
        obtain ⟨A1, m1, c1, rfl⟩ := T6.slice
        obtain ⟨A2, m2, c2, rfl⟩ := own_slice hown
        clear hut h4 hO7 hD7 hown T6 HB6 hb6 n0 n1 HX6 HMM
        go_wp2_with fail
        go_ret
        rw [K.out]
        exact ⟨rfl, HF.out⟩
end Go.Proofs.YtlbbehfbjbbckaaGreatDoor

/-! An act on the document's tree: Do; a tree of acts: Build. -/
set_option linter.unusedVariables false
set_option linter.unusedSimpArgs false
namespace Go.Proofs.YtlbbehfbjbbckaaGreatDoor
open Go.RowKit

set_option maxRecDepth 100000 in
set_option maxHeartbeats 8000000 in
theorem DoD_any (t : Nat) (S : St) (O : Nat → Prop) (a : Ac) (w : World) (h : DocS w t S O) (hs : Sl 1 w a.dA a.dn (bys a.data)) (hdn : a.dn ≤ 1000000) (hp : a.path.size ≤ 100000) (hd : a.dst.size ≤ 100000) (hn0 : 0 ≤ S.next) (hn1 : S.next ≤ 1099511627776) (hls : S.ls.length ≤ 1000000) :
    Calls Tryz.prog 51 #[.pointer (some ⟨t, 0, none⟩), aggA a] w fun e w' => e = .returned (.int .i64 (S.doA a).1) ∧ DocPost w w' t (S.doA a).2 O := by
  obtain ⟨X, hX⟩ : ∃ X, S.doA a = X := ⟨_, rfl⟩
  rw [hX]
  unfold St.doA at hX
  obtain ⟨ac, p, q, dA, dn, dc, data, m⟩ := a
  simp only at hX hs hp hd hdn
  have hb := (Below.refl w.heap.size w).alloc (Nat.le_refl _) (.cells #[.int .i64 ac, .string p, .string q, .slice dA dn dc, .int .i64 m.m0, .int .i64 m.m1, .int .i64 m.m2, .int .i64 m.m3, .int .i64 m.m4] 70)
  have b0 : Blk (w.alloc (.cells #[.int .i64 ac, .string p, .string q, .slice dA dn dc, .int .i64 m.m0, .int .i64 m.m1, .int .i64 m.m2, .int .i64 m.m3, .int .i64 m.m4] 70)) w.heap.size 70 (encA ⟨ac, p, q, dA, dn, dc, data, m⟩) := Blk.new w 70 (encA ⟨ac, p, q, dA, dn, dc, data, m⟩)
  obtain ⟨x0, x1, x2, x3, x4, x5, x6, x7, x8⟩ := act_cells b0
  dsimp only at x0 x1 x2 x3 x4 x5 x6 x7 x8
  have HT := Lib.hid (h.below hb)
  have HSL := Lib.hid (hs.below hb)
  have HB := Lib.hid hb
  have HX := Lib.hid hX
  clear h hs hb b0 hX
  unfold aggA
  have M1 := Lib.hid (fun w (h : DocS w t S O) => MkdirD_any t S O p m w h (by omega) hn0 hn1 hls)
  have M2 := Lib.hid (fun w (h : DocS w t S O) (hs : Sl 1 w dA dn (bys data)) => WriteD_any t S O p dA dn dc data m w h hs (by omega) (by omega) hn0 hn1 hls)
  have M3 := Lib.hid (fun w (h : DocS w t S O) => SymlinkD_any t S O p q m w h (by omega) hn0 hn1 hls)
  have M4 := Lib.hid (fun w (h : DocS w t S O) => LinkD_any t S O p q w h (by omega) (by omega) hls)
  have M5 := Lib.hid (fun w (h : DocS w t S O) => RemoveD_any t S O p w h (by omega) hls)
  have M6 := Lib.hid (fun w (h : DocS w t S O) => RenameD_any t S O p q w h (by omega) (by omega) hls)
  have M7 := Lib.hid (fun w (h : DocS w t S O) => SetD_any t S O p m w h (by omega) hls)
  have M8 := Lib.hid (fun w (h : DocS w t S O) (hs : Sl 1 w dA dn (bys data)) => AppendD_any t S O p dA dn dc data w h hs (by omega) (by omega) hls)
  unfold aggM at *
  go_enter Tryz.func51, Tryz.ntmps51
  by_cases g0 : ac = 0
  · subst g0
    have K := Lib.hid (show S.mkdir p.data.toList m = X by rw [← HX.out]; simp)
    clear HX M2 M3 M4 M5 M6 M7 M8
    go_wp2_with fail
    refine (M1.out _ HT.out).mono ?_
    rintro e w1 ⟨rfl, hA⟩
    rw [K.out] at hA ⊢
    have HA := Lib.hid (doc_from HB.out hA)
    clear hA M1 K
    go_wp2_with fail
    go_ret
    exact ⟨rfl, HA.out⟩
  by_cases g1 : ac = 1
  · subst g1
    have K := Lib.hid (show S.write p.data.toList data m = X by rw [← HX.out]; simp)
    clear HX M1 M3 M4 M5 M6 M7 M8
    go_wp2_with fail
    refine (M2.out _ HT.out HSL.out).mono ?_
    rintro e w1 ⟨rfl, hA⟩
    rw [K.out] at hA ⊢
    have HA := Lib.hid (doc_from HB.out hA)
    clear hA M2 K
    go_wp2_with fail
    go_ret
    exact ⟨rfl, HA.out⟩
  by_cases g2 : ac = 2
  · subst g2
    have K := Lib.hid (show S.symlink p.data.toList q m = X by rw [← HX.out]; simp)
    clear HX M1 M2 M4 M5 M6 M7 M8
    go_wp2_with fail
    refine (M3.out _ HT.out).mono ?_
    rintro e w1 ⟨rfl, hA⟩
    rw [K.out] at hA ⊢
    have HA := Lib.hid (doc_from HB.out hA)
    clear hA M3 K
    go_wp2_with fail
    go_ret
    exact ⟨rfl, HA.out⟩
  by_cases g3 : ac = 3
  · subst g3
    have K := Lib.hid (show S.link p.data.toList q.data.toList = X by rw [← HX.out]; simp)
    clear HX M1 M2 M3 M5 M6 M7 M8
    go_wp2_with fail
    refine (M4.out _ HT.out).mono ?_
    rintro e w1 ⟨rfl, hA⟩
    rw [K.out] at hA ⊢
    have HA := Lib.hid (doc_from HB.out hA)
    clear hA M4 K
    go_wp2_with fail
    go_ret
    exact ⟨rfl, HA.out⟩
  by_cases g4 : ac = 4
  · subst g4
    have K := Lib.hid (show S.remove p.data.toList = X by rw [← HX.out]; simp)
    clear HX M1 M2 M3 M4 M6 M7 M8
    go_wp2_with fail
    refine (M5.out _ HT.out).mono ?_
    rintro e w1 ⟨rfl, hA⟩
    rw [K.out] at hA ⊢
    have HA := Lib.hid (doc_from HB.out hA)
    clear hA M5 K
    go_wp2_with fail
    go_ret
    exact ⟨rfl, HA.out⟩
  by_cases g5 : ac = 5
  · subst g5
    have K := Lib.hid (show S.rename p.data.toList q.data.toList = X by rw [← HX.out]; simp)
    clear HX M1 M2 M3 M4 M5 M7 M8
    go_wp2_with fail
    refine (M6.out _ HT.out).mono ?_
    rintro e w1 ⟨rfl, hA⟩
    rw [K.out] at hA ⊢
    have HA := Lib.hid (doc_from HB.out hA)
    clear hA M6 K
    go_wp2_with fail
    go_ret
    exact ⟨rfl, HA.out⟩
  by_cases g6 : ac = 6
  · subst g6
    have K := Lib.hid (show S.set p.data.toList m = X by rw [← HX.out]; simp)
    clear HX M1 M2 M3 M4 M5 M6 M8
    go_wp2_with fail
    refine (M7.out _ HT.out).mono ?_
    rintro e w1 ⟨rfl, hA⟩
    rw [K.out] at hA ⊢
    have HA := Lib.hid (doc_from HB.out hA)
    clear hA M7 K
    go_wp2_with fail
    go_ret
    exact ⟨rfl, HA.out⟩
  by_cases g7 : ac = 7
  · subst g7
    have K := Lib.hid (show S.append p.data.toList data = X by rw [← HX.out]; simp)
    clear HX M1 M2 M3 M4 M5 M6 M7
    go_wp2_with fail
    refine (M8.out _ HT.out HSL.out).mono ?_
    rintro e w1 ⟨rfl, hA⟩
    rw [K.out] at hA ⊢
    have HA := Lib.hid (doc_from HB.out hA)
    clear hA M8 K
    go_wp2_with fail
    go_ret
    exact ⟨rfl, HA.out⟩
  have K := Lib.hid (show ((0 : Int), S) = X by rw [← HX.out]; simp [g0, g1, g2, g3, g4, g5, g6, g7])
  clear HX M1 M2 M3 M4 M5 M6 M7 M8
  go_wp2_with fail
  go_ret
  rw [← K.out]
  exact ⟨rfl, doc_from HB.out (doc_same HT.out (Below.refl _ _))⟩
set_option maxRecDepth 100000 in
set_option maxHeartbeats 8000000 in
theorem BuildD_any (A : Option Addr) (n cp : Nat) (L : List Ac) (w : World) (h : ActsAt w A n L) (hn : n ≤ 100000) (hL : ∀ a ∈ L, a.dn ≤ 1000000 ∧ a.path.size ≤ 100000 ∧ a.dst.size ≤ 100000) :
    Calls Tryz.prog 13 #[.slice A n cp] w fun e w' => ∃ t, e = .returned (.pointer (some ⟨t, 0, none⟩)) ∧ DocS w' t (newS.acts L) (fun k => w.heap.size ≤ k) ∧ Below w.heap.size w w' := by
  have HA := Lib.hid h
  have HL := Lib.hid hL
  have hlen := h.row.acLen
  have HNW := Lib.hid (NewD_any w)
  clear h hL
  go_enter Tryz.func13, Tryz.ntmps13
  go_wp2_with fail
  refine HNW.out.mono ?_
  rintro e w1 ⟨t, rfl, hT1, hb1⟩
  have T1 := Lib.hid hT1
  have B1 := Lib.hid hb1
  clear hT1 hb1 HNW
  go_wp2_with fail
  go_loopw [4] (fun v wr => ∃ (j : Nat), v = .int .i64 j ∧ j ≤ n ∧ DocS wr t (newS.acts (L.take j)) (fun k => w.heap.size ≤ k) ∧ Below w.heap.size w wr) (fun v _ => n - (intOf v).toNat)
  case atStart => exact ⟨0, rfl, Nat.zero_le _, by rw [List.take_zero]; exact T1.out, B1.out⟩
  case round =>
    obtain ⟨j, rfl, hj, hT, hB⟩ := hrel
    have T2 := Lib.hid hT
    have B2 := Lib.hid hB
    clear hT hB
    rcases Nat.lt_or_ge j n with hlt | hlt
    · obtain ⟨ab, ao, x, rfl, hx, hcell⟩ := (HA.out.below B2.out).row.acRow hlt
      have hin : (j : Int) < (n : Int) := by omega
      have hov : IntKind.i64.wrap ((j : Nat) + 1 : Int) = (j : Nat) + 1 := by rw [IntKind.wrap_i64]; omega
      have hmem := List.mem_of_getElem? hx
      obtain ⟨hl1, hl2, hl3⟩ := HL.out x hmem
      obtain ⟨g1, g2, g3⟩ := acts_grow newS (L.take j)
      have hn2 : newS.next = 2 := rfl
      have hn3 : newS.ls.length = 1 := rfl
      have hn4 : (L.take j).length ≤ j := List.length_take_le _ _
      have HD := Lib.hid (DoD_any t _ _ x wr T2.out ((HA.out.data x hmem).below B2.out) hl1 hl2 hl3 (by omega) (by omega) (by omega))
      have HTK := Lib.hid (show newS.acts (L.take (j + 1)) = ((newS.acts (L.take j)).doA x).2 by rw [take_snocG hx, St.acts_snoc])
      have y0 := hcell 0 _ rfl
      have y1 := hcell 1 _ rfl
      have y2 := hcell 2 _ rfl
      have y3 := hcell 3 _ rfl
      have y4 := hcell 4 _ rfl
      have y5 := hcell 5 _ rfl
      have y6 := hcell 6 _ rfl
      have y7 := hcell 7 _ rfl
      have y8 := hcell 8 _ rfl
      rw [Nat.add_zero] at y0
      unfold aggA at HD
      clear hcell hx hmem hl1 hl2 hl3 g1 g2 g3 hn2 hn3 hn4 hlt
      go_wp2_with fail
      refine HD.out.mono ?_
      rintro e w2 ⟨rfl, O', hT', hO', hK'⟩
      have T3 := Lib.hid (hT'.mono (O' := fun k => w.heap.size ≤ k) (fun k hk => (hK' k hk).elim id (fun g => Nat.le_trans B2.out.size g)))
      have B3 := Lib.hid (B2.out.trans (hO'.below B2.out.size (fun k hk => hk)))
      clear hT' hO' hK'
      go_wp2_with fail
      go_roundw
      case rel => exact ⟨j + 1, by go_num, by omega, by rw [HTK.out]; exact T3.out, B3.out⟩
      case measure => simp [intOf]; omega
    · obtain rfl : j = n := by omega
      have hin : ¬ ((j : Int) < (j : Int)) := by omega
      have K := Lib.hid (show DocS wr t (newS.acts L) (fun k => w.heap.size ≤ k) by
        have := T2.out
        rwa [List.take_of_length_le (Nat.le_of_eq hlen)] at this)
      clear hlt hj
      go_wp2_with fail
      go_ret
      exact ⟨t, rfl, K.out, B2.out⟩
end Go.Proofs.YtlbbehfbjbbckaaGreatDoor
