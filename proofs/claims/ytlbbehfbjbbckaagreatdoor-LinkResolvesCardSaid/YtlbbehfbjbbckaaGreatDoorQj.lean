import Derived.Test.YtlbbehfbjbbckaaGreatDoorQi
/-! A name moves: the program's Rename, walked. -/
set_option linter.unusedVariables false
set_option linter.unusedSimpArgs false
namespace Go.Proofs.YtlbbehfbjbbckaaGreatDoor
open Go.RowKit

theorem ownT_out {t d k : Nat} {b : List UInt8} {o : Option Nat} {N : Nat → Option Nd} (h : k = t ∨ heldT (outN N d b o) k) : k = t ∨ heldT N k := by
  cases o with
  | none => exact h
  | some j => exact heldT_rel k h
theorem heldT_kid {t d : Nat} {b : List UInt8} {v : Option Nat} {N : Nat → Option Nd} : ∀ k, k = t ∨ heldT (kidN N d b v) k → k = t ∨ heldT N k := by
  rintro k (rfl | ⟨n, hi⟩ | ⟨i, n, a, hi, ha, rfl⟩ | ⟨i, n, hi, hk⟩)
  · exact .inl rfl
  · obtain ⟨m, h1, _⟩ := kidN_some hi
    exact .inr (.inl ⟨m, h1⟩)
  · obtain ⟨m, h1, _, h2, _⟩ := kidN_some hi
    exact .inr (.inr (.inl ⟨i, m, a, h1, by rw [← h2]; exact ha, rfl⟩))
  · obtain ⟨m, h1, _, _, _, _, _, h2, _⟩ := kidN_some hi
    exact .inr (.inr (.inr ⟨i, m, h1, by rw [← h2]; exact hk⟩))
theorem act_move {w w' : World} {t top c f d k : Nat} {S' : St} {N : Nat → Option Nd} {bo bp : List UInt8} {o : Option Nat} {O : Nat → Prop} (hO : ∀ k, k = t ∨ heldT N k → O k) (hT : TreeAt w' t top S'.next (c + 1) (moveN (outN N d bp o) f d bo bp k)) (hR : Rep (moveN (outN N d bp o) f d bo bp k) top S') (ho : OkS S') (hw : Only (fun j => j = t ∨ heldT N j) w w') : ActPost w w' t c S' O :=
  ⟨O, ⟨top, _, hT, hR, ho, fun j hj => hO j (ownT_out (heldT_kid j (heldT_kid j hj)))⟩, hw.mono (fun j _ hj => hO j hj), fun j hj => .inl hj⟩
theorem look_top {N : Nat → Option Nd} {top : Nat} {p : List UInt8} {o d : Option Nat} (h : lookN N top p = (o, d, 0)) (hp : p ≠ []) : ∃ d', d = some d' := by
  unfold lookN at h
  by_cases h1 : rightB p = false
  · rw [if_pos h1] at h; simp at h
  rw [if_neg h1, if_neg hp] at h
  cases hd : atN N (some top) (splitB (parentB p)) with
  | none => rw [hd] at h; simp at h
  | some d' =>
    rw [hd] at h
    cases hm : N d' with
    | none => simp only [hm] at h; simp at h
    | some m =>
      simp only [hm] at h
      split at h
      · simp only [Prod.mk.injEq, and_true] at h
        exact ⟨d', h.2.symm⟩
      · simp at h
set_option maxRecDepth 100000 in
set_option maxHeartbeats 8000000 in
theorem RenameS_any (t c : Nat) (S : St) (O : Nat → Prop) (old p : ByteArray) (w : World) (h : TreeS w t c S O) (hp0 : old.size ≤ 100000) (hp : p.size ≤ 100000) (hc : c ≤ 1099511627776) (hls : S.ls.length ≤ 1099511627776) :
    Calls Tryz.prog 93 #[.pointer (some ⟨t, 0, none⟩), .string old, .string p] w fun e w' => e = .returned (.int .i64 (S.rename old.data.toList p.data.toList).1) ∧ ActPost w w' t c (S.rename old.data.toList p.data.toList).2 O := by
  have HS := Lib.hid h
  obtain ⟨top, N, hT, hR, ho, hO⟩ := h
  obtain ⟨X, hX⟩ : ∃ X, S.rename old.data.toList p.data.toList = X := ⟨_, rfl⟩
  have HX : Hid ((if rightB old.data.toList = false ∨ rightB p.data.toList = false then ((9 : Int), S) else if old.data.toList = [] ∨ p.data.toList = [] then (2, S) else renameR S old.data.toList p.data.toList (thereS (S.look old.data.toList)) (S.look p.data.toList)) = X) := Lib.hid hX
  rw [hX]
  have HR1 := Lib.hid (fun w => right_any old _ w rfl (by omega))
  have HR2 := Lib.hid (fun w => right_any p _ w rfl (by omega))
  have HF := Lib.hid (fun w (h : TreeAt w t top S.next c N) => there_any t top c S.next N old w h (by omega))
  have HL := Lib.hid (fun w (h : TreeAt w t top S.next c N) => look_any t top c S.next N p w h (by omega))
  have HU := Lib.hid (fun w => under_any p old w (by omega) (by omega))
  have HTH := Lib.hid (hR.thereR ho old.data.toList)
  have HLK := Lib.hid (hR.look ho p.data.toList)
  have HT := Lib.hid hT
  have HRP := Lib.hid hR
  have HOK := Lib.hid ho
  have HOO := Lib.hid hO
  clear hX hT hR ho hO
  obtain ⟨r, hr⟩ : ∃ r, thereS (S.look old.data.toList) = r := ⟨_, rfl⟩
  obtain ⟨l, hl⟩ : ∃ l, thereU (lookN N top old.data.toList) = l := ⟨_, rfl⟩
  obtain ⟨r2, hr2⟩ : ∃ r2, S.look p.data.toList = r2 := ⟨_, rfl⟩
  obtain ⟨l2, hl2⟩ : ∃ l2, lookN N top p.data.toList = l2 := ⟨_, rfl⟩
  have HLL := Lib.hid (fun k d (h : l = (some k, d, 0)) => there_look (hl.trans h))
  have HL2 := Lib.hid hl2
  rw [hr, hr2] at HX
  rw [hr] at HTH
  rw [hl] at HF HTH
  rw [hl2] at HL
  rw [hr2, hl2] at HLK
  clear hr hl hr2 hl2
  obtain ⟨un, hun⟩ : ∃ un, pfxB (splitB p.data.toList) (splitB old.data.toList) = un := ⟨_, rfl⟩
  have HUN := Lib.hid hun
  rw [hun] at HU
  clear hun
  generalize hra : rightB old.data.toList = ra at *
  generalize hrb : rightB p.data.toList = rb at *
  go_enter Tryz.func93, Tryz.ntmps93
  go_wp2_with fail
  refine (HR1.out w).mono ?_
  rintro e w1 ⟨rfl, hb1⟩
  have B1 := Lib.hid hb1
  have T1 := Lib.hid (HT.out.below hb1)
  clear hb1 HR1 HT
  cases ra with
  | false =>
    have K := Lib.hid (show X = ((9 : Int), S) by rw [← HX.out]; exact if_pos (.inl rfl))
    go_wp2_with fail
    go_ret
    rw [K.out]
    exact ⟨rfl, act_same HS.out B1.out⟩
  | true =>
  go_wp2_with fail
  refine (HR2.out w1).mono ?_
  rintro e w2 ⟨rfl, hb2⟩
  have B2 := Lib.hid (B1.out.trans (hb2.mono B1.out.size))
  have T2 := Lib.hid (T1.out.below hb2)
  clear hb2 HR2 T1 B1
  cases rb with
  | false =>
    have K := Lib.hid (show X = ((9 : Int), S) by rw [← HX.out]; exact if_pos (.inr rfl))
    go_wp2_with fail
    go_ret
    rw [K.out]
    exact ⟨rfl, act_same HS.out B2.out⟩
  | true =>
  have HX1 := Lib.hid (show (if old.data.toList = [] ∨ p.data.toList = [] then ((2 : Int), S) else renameR S old.data.toList p.data.toList r r2) = X by rw [← HX.out]; exact (if_neg (by simp)).symm)
  clear HX
  by_cases hz : old.size = 0
  · obtain rfl : old = ⟨#[]⟩ := ByteArray.ext (Array.size_eq_zero_iff.1 hz)
    have K := Lib.hid (show X = ((2 : Int), S) by rw [← HX1.out]; exact if_pos (.inl rfl))
    clear hz
    go_wp2_with fail
    go_ret
    rw [K.out]
    exact ⟨rfl, act_same HS.out B2.out⟩
  by_cases hz2 : p.size = 0
  · obtain rfl : p = ⟨#[]⟩ := ByteArray.ext (Array.size_eq_zero_iff.1 hz2)
    have K := Lib.hid (show X = ((2 : Int), S) by rw [← HX1.out]; exact if_pos (.inr rfl))
    have hnil := nil_toList old hz
    clear hz hz2
    go_wp2_with fail
    go_ret
    rw [K.out]
    exact ⟨rfl, act_same HS.out B2.out⟩
  have hnil := nil_toList old hz
  have hnil2 := nil_toList p hz2
  have HNE := Lib.hid (show old.data.toList ≠ [] from fun e => hz (by
    have : old.data.toList.length = 0 := by rw [e]; rfl
    rwa [Array.length_toList] at this))
  have HNE2 := Lib.hid (show p.data.toList ≠ [] from fun e => hz2 (by
    have : p.data.toList.length = 0 := by rw [e]; rfl
    rwa [Array.length_toList] at this))
  have HX2 := Lib.hid (show renameR S old.data.toList p.data.toList r r2 = X by rw [← HX1.out]; exact (if_neg (fun h => h.elim HNE.out HNE2.out)).symm)
  clear HX1 hz hz2
  go_wp2_with fail
  refine (HF.out w2 T2.out).mono ?_
  rintro e w3 ⟨rfl, hb3⟩
  have B3 := Lib.hid (B2.out.trans (hb3.mono B2.out.size))
  have T3 := Lib.hid (T2.out.below hb3)
  clear hb3 HF T2 B2
  obtain ⟨lo, ld, le⟩ := l
  obtain ⟨ro, re⟩ := r
  obtain rfl : le = re := HTH.out.err
  unfold tupL
  rcases Classical.em (le = 0) with h0 | h0
  · subst h0
    obtain ⟨k, x, e1, hk, e2⟩ := HTH.out.found rfl
    obtain rfl : lo = some k := e1
    obtain rfl : ro = some x.ino := e2
    have hlk := HLL.out k ld rfl
    obtain ⟨f, rfl⟩ := look_has hlk HNE.out
    have hth : S.th x.ino = thN x := HRP.out.info k x hk
    obtain ⟨x0, _⟩ := node_cells (T3.out.node k x hk)
    have HK := Lib.hid hk
    have HLO := Lib.hid hlk
    rw [show ptrO (some k) = .pointer (some ⟨k, 0, none⟩) from rfl, ptrO_some]
    clear hlk hk HTH
    have HTH1 := Lib.hid (show (S.th x.ino).kind = x.kind by rw [hth]; rfl)
    have HATO := Lib.hid (show atN N (some top) (splitB old.data.toList) = some k by
      obtain ⟨ro', o0', hD', mf', hf', _, hfb'⟩ := lookN_fresh HLO.out
      rw [Rep.parent o0' ro' hD' hf', hfb'])
    have HX2' := Lib.hid (show (if x.kind = 2 ∧ p.data.toList ≠ old.data.toList ∧ un = true then ((2 : Int), S) else if r2.2 ≠ 0 then (r2.2, S) else moveR S old.data.toList p.data.toList x.ino r2.1) = X by
      rw [← HX2.out]
      obtain ⟨a2, e2⟩ := r2
      have e : renameR S old.data.toList p.data.toList (some x.ino, 0) (a2, e2) = (if (S.th x.ino).kind = 2 ∧ p.data.toList ≠ old.data.toList ∧ pfxB (splitB p.data.toList) (splitB old.data.toList) = true then ((2 : Int), S) else if e2 ≠ 0 then (e2, S) else moveR S old.data.toList p.data.toList x.ino a2) := by
        unfold renameR
        simp only [ne_eq, not_true_eq_false, if_false]
      rw [e, HUN.out, HTH1.out])
    clear HX2 hth
    by_cases hk2 : x.kind = 2
    · have HK2 := Lib.hid hk2
      by_cases hpo : p = old
      · subst hpo
        have hl2 : l2 = (some k, some f, 0) := by rw [← HL2.out, HLO.out]
        subst hl2
        have HX3 := Lib.hid (show (if r2.2 ≠ 0 then (r2.2, S) else moveR S p.data.toList p.data.toList x.ino r2.1) = X by rw [← HX2'.out]; exact (if_neg (fun h => h.2.1 rfl)).symm)
        clear HX2'
        obtain ⟨a2, e3⟩ := r2
        obtain ⟨hs1, he1⟩ := HLK.out
        simp only at hs1 he1
        subst he1
        have K := Lib.hid (show X = ((11 : Int), S) by
          rw [← HX3.out]
          obtain ⟨n', _, g2⟩ := hs1.some
          rw [g2]
          show (if (S.th x.ino).kind = 2 then ((11 : Int), S) else _) = _
          rw [if_pos (by rw [HTH1.out]; exact HK2.out)])
        clear hs1 HX3
        rw [hk2] at x0
        clear hk2
        go_wp2_with fail
        refine (HL.out w3 T3.out).mono ?_
        rintro e w4 ⟨rfl, hb4⟩
        have B4 := Lib.hid (B3.out.trans (hb4.mono B3.out.size))
        clear hb4 HL
        unfold tupL
        rw [show ptrO (some k) = .pointer (some ⟨k, 0, none⟩) from rfl]
        go_wp2_with fail
        go_ret
        rw [K.out]
        exact ⟨rfl, act_same HS.out B4.out⟩
      · have hq1 : (p.toList == old.toList) = false := beq_eq_false_iff_ne.2 <| fun e => hpo (by
          rw [ByteArray.toList_eq, ByteArray.toList_eq] at e
          exact ByteArray.ext (Array.toList_inj.1 e))
        have hq2 : p.data.toList ≠ old.data.toList := fun e => hpo (ByteArray.ext (Array.toList_inj.1 e))
        rw [hk2] at x0
        clear hpo
        cases un with
        | true =>
          have K := Lib.hid (show X = ((2 : Int), S) by rw [← HX2'.out]; exact if_pos ⟨hk2, hq2, rfl⟩)
          clear hk2 hq2 HX2'
          go_wp2_with fail
          refine (HU.out w3).mono ?_
          rintro e w4 ⟨rfl, hb4⟩
          have B4 := Lib.hid (B3.out.trans (hb4.mono B3.out.size))
          clear hb4 HU
          go_wp2_with fail
          go_ret
          rw [K.out]
          exact ⟨rfl, act_same HS.out B4.out⟩
        | false =>
          have HX3 := Lib.hid (show (if r2.2 ≠ 0 then (r2.2, S) else moveR S old.data.toList p.data.toList x.ino r2.1) = X by rw [← HX2'.out]; exact (if_neg (by simp)).symm)
          clear hk2 hq2 HX2'
          go_wp2_with fail
          refine (HU.out w3).mono ?_
          rintro e w30 ⟨rfl, hb30⟩
          have B30 := Lib.hid (B3.out.trans (hb30.mono B3.out.size))
          have T30 := Lib.hid (T3.out.below hb30)
          clear hb30 HU B3 T3
          go_wp2_with fail
          refine (HL.out w30 T30.out).mono ?_
          rintro e w4 ⟨rfl, hb4⟩
          have B4 := Lib.hid (B30.out.trans (hb4.mono B30.out.size))
          have T4 := Lib.hid (T30.out.below hb4)
          clear hb4 HL
          obtain ⟨o2, d2, e2⟩ := l2
          obtain ⟨a2, e3⟩ := r2
          obtain ⟨hs1, he1⟩ := HLK.out
          simp only at hs1 he1
          obtain rfl := he1
          unfold tupL
          rcases Classical.em (¬ e2 = 0) with h0 | h0
          · have K := Lib.hid (show X = (e2, S) by
              rw [← HX3.out]; exact if_pos h0)
            have q1 : (e2 != 0) = true := by simpa using h0
            clear h0 HX3 hs1
            go_wp2_with fail
            go_ret
            rw [K.out]
            exact ⟨rfl, act_same HS.out B4.out⟩
          have h0 := Classical.not_not.1 h0
          subst h0
          obtain ⟨td, rfl⟩ := look_top HL2.out HNE2.out
          have HX4 := Lib.hid (show moveR S old.data.toList p.data.toList x.ino a2 = X by rw [← HX3.out]; exact (if_neg (by simp)).symm)
          clear HX3
          cases o2 with
          | some j =>
            obtain ⟨n', _, g2⟩ := hs1.some
            have K := Lib.hid (show X = ((11 : Int), S) by
              rw [← HX4.out, g2]
              show (if (S.th x.ino).kind = 2 then ((11 : Int), S) else _) = _
              rw [if_pos (by rw [HTH1.out]; exact HK2.out)])
            clear hs1 g2 HX4
            rw [show ptrO (some j) = .pointer (some ⟨j, 0, none⟩) from rfl]
            go_wp2_with fail
            go_ret
            rw [K.out]
            exact ⟨rfl, act_same HS.out B4.out⟩
          | none =>
            obtain rfl : a2 = none := (hs1.none_iff).1 rfl
            clear hs1
            rw [show ptrO none = .pointer none from rfl, ptrO_some]
            have HAN := Lib.hid (show S.at p.data.toList = none by
              obtain ⟨ro', o0', hD', mf', hf', _, hfb'⟩ := lookN_fresh HL2.out
              have := HRP.out.rep _ ro'
              rw [Rep.parent o0' ro' hD' hf', hfb'] at this
              exact (this.none_iff).1 rfl)
            have hk2 := HK2.out
            have hpe := ptrEqN k
            have hFI := fits_any t top c S.next N 12 k x p w4 T4.out HK.out (T4.out.dirs k x HK.out hk2) (deep_of 12 k (HRP.out.depth HATO.out)) (by omega) hp hc
            rw [HRP.out.fits HOK.out T4.out.named T4.out.bare HATO.out hrb HNE2.out] at hFI
            obtain ⟨fit, hfit⟩ : ∃ fit, (S.ls.all fun y => rightB (moveP old.data.toList p.data.toList y.1)) = fit := ⟨_, rfl⟩
            rw [hfit] at hFI
            have HFI := Lib.hid hFI
            have HFT := Lib.hid hfit
            clear hFI hfit hk2
            unfold ptrN at HFI
            go_wp2_with fail
            refine HFI.out.mono ?_
            rintro e w9 ⟨rfl, hb9⟩
            have B9 := Lib.hid (B4.out.trans (hb9.mono B4.out.size))
            have T9 := Lib.hid (T4.out.below hb9)
            clear hb9 HFI T4 B4
            cases fit with
            | false =>
              have K := Lib.hid (show X = ((7 : Int), S) by
                rw [← HX4.out]
                exact if_pos ⟨by rw [HTH1.out]; exact HK2.out, HFT.out⟩)
              go_wp2_with fail
              go_ret
              rw [K.out]
              exact ⟨rfl, act_same HS.out B9.out⟩
            | true =>
            have K := Lib.hid (show X = ((0 : Int), (S.gone p.data.toList).moved old.data.toList p.data.toList) by
              rw [← HX4.out, gone_none HOK.out HAN.out]
              exact if_neg (fun h => by rw [HFT.out] at h; exact absurd h.2 (by simp)))
            have hne : (none : Option Nat) ≠ some k := by simp
            have hno : ∀ j y, (none : Option Nat) = some j → N j = some y → y.kind ≠ 2 := fun j y h => by cases h
            have hdir : x.kind = 2 → ¬ (p.data.toList ≠ old.data.toList ∧ pfxB (splitB p.data.toList) (splitB old.data.toList) = true) ∧ (S.ls.all fun y => rightB (moveP old.data.toList p.data.toList y.1)) = true := fun _ => ⟨fun h => by rw [HUN.out] at h; exact absurd h.2 (by simp), HFT.out⟩
            have hnoS := hno
            have HOU := Lib.hid (outS_any t top c td N S p none w9 T9.out HRP.out HOK.out HL2.out hno (by omega) hls)
            have HRD := Lib.hid (fun h1 h2 => move_ready HRP.out HOK.out HLO.out HL2.out HK.out hne hno hdir h1 h2)
            unfold ptrN at HOU ⊢
            clear hno hnoS hne hdir
            go_wp2_with fail
            refine HOU.out.mono ?_
            rintro e w5 ⟨rfl, hT5, hR5, ho5, hO5⟩
            obtain ⟨i, d, x1, mf, mt, RD⟩ := HRD.out hR5 ho5
            obtain ⟨bf, hbf⟩ : ∃ b, mf.kb = some b := by
              cases hq : mf.kb with
              | none => exact absurd hq (hT5.dirs f mf RD.hf RD.fk)
              | some b => exact ⟨b, rfl⟩
            have hMf := hT5.kids f mf bf RD.hf hbf
            obtain ⟨w6, hdrop, hm6, hg6⟩ := (hMf.drewN 1).drop Tryz.underlying109 (base_size old (by omega)) 0
            rw [str_list, ← delM_set] at hm6
            have hg6' : w5.grownBy w6 (some bf) := ⟨hg6.os, hg6.tape, hg6.output, hg6.size, hg6.block⟩
            have T6 := Lib.hid (hT5.kid (c' := c) RD.hf hbf (Nat.le_refl c) hm6 hg6' (fun j hj => by cases hj))
            obtain ⟨mt2, hmt2, hmk2, _⟩ := kidN_is (d := f) (baseB old.data.toList) none RD.ht
            obtain ⟨bt, hbt⟩ : ∃ b, mt2.kb = some b := by
              cases hq : mt2.kb with
              | none => exact absurd hq (T6.out.dirs td mt2 hmt2 (hmk2.trans RD.tk))
              | some b => exact ⟨b, rfl⟩
            have hMt := T6.out.kids td mt2 bt hmt2 hbt
            obtain ⟨w7, hput, hm7, hg7⟩ := (hMt.drewN 1).put Tryz.underlying109 (by unfold maxLen; omega) (base_size p (by omega)) (.pointer (some ⟨k, 0, none⟩))
            rw [str_list] at hm7
            have hg7' : w6.grownBy w7 (some bt) := ⟨hg7.os, hg7.tape, hg7.output, hg7.size, hg7.block⟩
            have T7 := Lib.hid (T6.out.kid (c' := c + 1) (s := baseB p.data.toList) (v := some k) hmt2 hbt (Nat.le_succ c) (by
              have hfe : (fun y => (kidsSet mt2.kids (baseB p.data.toList) (some k) y).map ptrN) = updM (fun y => (mt2.kids y).map ptrN) (baseB p.data.toList) (ptrN k) := funext fun y => by
                unfold kidsSet updM
                by_cases hy : y = baseB p.data.toList
                · rw [if_pos hy, if_pos hy]; rfl
                · rw [if_neg hy, if_neg hy]
              rw [hfe]; exact hm7) hg7' (fun j hj => by
                cases hj
                obtain ⟨q, hq, _⟩ := kidN_is (d := f) (baseB old.data.toList) none RD.hk
                exact ⟨q, hq⟩))
            have R7 := Lib.hid (And.intro (Rep.move hR5 ho5 RD.ok RD.atk RD.hk RD.atf RD.hf RD.att RD.ht RD.fk RD.tk) (OkS.move ho5 RD.ok))
            have O7 : Hid (Only (fun j => j = t ∨ heldT N j) w w7) := Lib.hid ((((Only.of (P := fun j => j = t ∨ heldT N j) B9.out).trans (hO5.mono (fun jj _ hj => ownT_held hj))).trans ((Only.grown (P := fun j => j = bf) hg6' rfl).mono (fun jj _ hj => by subst hj; exact ownT_out (b := baseB p.data.toList) (o := none) (d := td) (.inr (.inr (.inr ⟨f, mf, RD.hf, hbf⟩)))))).trans ((Only.grown (P := fun j => j = bt) hg7' rfl).mono (fun jj _ hj => by subst hj; exact ownT_out (b := baseB p.data.toList) (o := none) (d := td) (heldT_kid (b := baseB old.data.toList) (v := none) (d := f) jj (.inr (.inr (.inr ⟨td, mt2, hmt2, hbt⟩)))))))
            obtain ⟨_, _, _, _, _, _, _, _, _, _, _, n11⟩ := node_cells (hT5.node f mf RD.hf)
            rw [hbf] at n11
            obtain ⟨_, _, _, _, _, _, _, _, _, _, _, m11⟩ := node_cells (T6.out.node td mt2 hmt2)
            rw [hbt] at m11
            have n11d : w5.drew.cell? ⟨f, 11, none⟩ = some (.map (some bf)) := n11
            have m11d : w6.drew.cell? ⟨td, 11, none⟩ = some (.map (some bt)) := m11
            have hfb : some f ≠ some bf := fun e => hMf.ne (hT5.node f mf RD.hf) (by cases e; rfl)
            have htb : some td ≠ some bt := fun e => hMt.ne (T6.out.node td mt2 hmt2) (by cases e; rfl)
            have hdrop : (Builtin.delete_ #[109, 9] 0 #[.map (some bf), .string (str (baseB old.data.toList))]).run Tryz.prog w5.drew = .ok (.tuple #[]) w6 := hdrop
            have hput : (Instr.mapUpdate 109 (.map (some bt)) (.string (str (baseB p.data.toList))) (.pointer (some ⟨k, 0, none⟩))).run Tryz.prog w6.drew = .ok () w7 := hput
            have hgd : w5.drew.grownBy w6 (some bf) := hg6
            have hgd2 : w6.drew.grownBy w7 (some bt) := hg7
            clear hMf hm6 hg6 hg6' hMt hm7 hg7 hg7' hbf hbt hmt2 hmk2 n11 m11 RD hT5 hR5 ho5 hO5
            go_wp2_with fail
            refine wp_region_held_drew (S := (fun w' => w5.drew.grownBy w' (some bf))) (by kernel_rfl) (World.grownBy.refl _ _) (fun hHeld => ?_)
            refine wpAnyH_take (i := 0) (oi := ?oi1) (v := ?v1) ?hi1 ?hs1 ?hf1 ?hr1 ?hQ1 (Or.inl ⟨?hg1, ?hy1⟩) hHeld ?rest1
            case hi1 => simp only [List.getElem?_toArray, List.getElem?_cons_succ, List.getElem?_cons_zero]; rfl
            case hs1 => kernel_rfl
            case hf1 => kernel_rfl
            case hr1 => kernel_rfl
            case hg1 => rfl
            case hy1 => (intro w hSw; first | (go_simp; done) | (go_simp; with_reducible rfl))
            case hQ1 => exact fun _ _ _ h => h
            try simp only [Act.put, List.setIfInBounds_toArray, List.set_cons_zero, List.set_cons_succ]
            refine wpAnyH_take (i := 1) (oi := ?oi2) (v := ?v2) ?hi2 ?hs2 ?hf2 ?hr2 ?hQ2 (Or.inl ⟨?hg2, ?hy2⟩) hHeld ?rest2
            case hi2 => simp only [List.getElem?_toArray, List.getElem?_cons_succ, List.getElem?_cons_zero]; rfl
            case hs2 => kernel_rfl
            case hf2 => kernel_rfl
            case hr2 => kernel_rfl
            case hg2 => rfl
            case hy2 => (intro w hSw; first | (go_simp; done) | (go_simp; with_reducible rfl))
            case hQ2 => exact fun _ _ _ h => h
            try simp only [Act.put, List.setIfInBounds_toArray, List.set_cons_zero, List.set_cons_succ]
            refine wpAnyH_take (i := 2) (oi := ?oi3) (v := ?v3) ?hi3 ?hs3 ?hf3 ?hr3 ?hQ3 (Or.inl ⟨?hg3, ?hy3⟩) hHeld ?rest3
            case hi3 => simp only [List.getElem?_toArray, List.getElem?_cons_succ, List.getElem?_cons_zero]; rfl
            case hs3 => kernel_rfl
            case hf3 => kernel_rfl
            case hr3 => kernel_rfl
            case hg3 => rfl
            case hy3 => (intro w hSw; first | (go_simp; done) | (go_simp; with_reducible rfl))
            case hQ3 => exact fun _ _ _ h => h
            try simp only [Act.put, List.setIfInBounds_toArray, List.set_cons_zero, List.set_cons_succ]
            refine wpAnyH_take (i := 3) (oi := ?oi4) (v := ?v4) ?hi4 ?hs4 ?hf4 ?hr4 ?hQ4 (Or.inl ⟨?hg4, ?hy4⟩) hHeld ?rest4
            case hi4 => simp only [List.getElem?_toArray, List.getElem?_cons_succ, List.getElem?_cons_zero]; rfl
            case hs4 => kernel_rfl
            case hf4 => kernel_rfl
            case hr4 => kernel_rfl
            case hg4 => rfl
            case hy4 => (intro w hSw; have x0 := World.grownBy.cell hSw n11d hfb; first | (go_simp; done) | (go_simp; with_reducible rfl))
            case hQ4 => exact fun _ _ _ h => h
            try simp only [Act.put, List.setIfInBounds_toArray, List.set_cons_zero, List.set_cons_succ]
            refine wpAnyH_take (i := 4) (oi := ?oi5) (v := ?v5) ?hi5 ?hs5 ?hf5 ?hr5 ?hQ5 (Or.inl ⟨?hg5, ?hy5⟩) hHeld ?rest5
            case hi5 => simp only [List.getElem?_toArray, List.getElem?_cons_succ, List.getElem?_cons_zero]; rfl
            case hs5 => kernel_rfl
            case hf5 => kernel_rfl
            case hr5 => kernel_rfl
            case hg5 => rfl
            case hy5 => (intro w hSw; first | (go_simp; done) | (go_simp; with_reducible rfl))
            case hQ5 => exact fun _ _ _ h => h
            try simp only [Act.put, List.setIfInBounds_toArray, List.set_cons_zero, List.set_cons_succ]
            refine wpAnyH_ready (rs := [5]) (by kernel_rfl) (by simp) ?_
            refine AllReadyH.cons (o := ?oi6) ?hi6 (fun K hK => ?_) AllReadyH.nil
            case hi6 => simp only [List.getElem?_toArray, List.getElem?_cons_succ, List.getElem?_cons_zero]; rfl
            go_simp; go_at_call 124; refine (base_any old _ (by omega)).mono ?_; rintro e w8 ⟨rfl, rfl⟩; go_wp2_with fail
            refine hK.out _ _ ((World.grownBy.refl _ _)) (fun hHeld2 => ?_)
            clear hK K hHeld
            have hHeld := hHeld2
            clear hHeld2
            try simp only [Act.put, List.setIfInBounds_toArray, List.set_cons_zero, List.set_cons_succ]
            refine wpAnyH_ready (rs := [6]) (by kernel_rfl) (by simp) ?_
            refine AllReadyH.cons (o := ?oi7) ?hi7 (fun K hK => ?_) AllReadyH.nil
            case hi7 => simp only [List.getElem?_toArray, List.getElem?_cons_succ, List.getElem?_cons_zero]; rfl
            refine step_delete_run rfl (.tmp 101) (.tmp 103) 109 9 rfl rfl rfl hdrop ?_
            refine hK.out _ _ (hgd) (fun hHeld2 => ?_)
            clear hK K hHeld
            have hHeld := hHeld2
            clear hHeld2
            try simp only [Act.put, List.setIfInBounds_toArray, List.set_cons_zero, List.set_cons_succ]
            refine wpAnyH_done (by kernel_rfl) ?_ _
            clear hHeld hgd hdrop n11d
            go_wp2_with fail
            refine wp_region_held_drew (S := (fun w' => w6.drew.grownBy w' (some bt))) (by kernel_rfl) (World.grownBy.refl _ _) (fun hHeld => ?_)
            refine wpAnyH_take (i := 0) (oi := ?oi8) (v := ?v8) ?hi8 ?hs8 ?hf8 ?hr8 ?hQ8 (Or.inl ⟨?hg8, ?hy8⟩) hHeld ?rest8
            case hi8 => simp only [List.getElem?_toArray, List.getElem?_cons_succ, List.getElem?_cons_zero]; rfl
            case hs8 => kernel_rfl
            case hf8 => kernel_rfl
            case hr8 => kernel_rfl
            case hg8 => rfl
            case hy8 => (intro w hSw; first | (go_simp; done) | (go_simp; with_reducible rfl))
            case hQ8 => exact fun _ _ _ h => h
            try simp only [Act.put, List.setIfInBounds_toArray, List.set_cons_zero, List.set_cons_succ]
            refine wpAnyH_take (i := 1) (oi := ?oi9) (v := ?v9) ?hi9 ?hs9 ?hf9 ?hr9 ?hQ9 (Or.inl ⟨?hg9, ?hy9⟩) hHeld ?rest9
            case hi9 => simp only [List.getElem?_toArray, List.getElem?_cons_succ, List.getElem?_cons_zero]; rfl
            case hs9 => kernel_rfl
            case hf9 => kernel_rfl
            case hr9 => kernel_rfl
            case hg9 => rfl
            case hy9 => (intro w hSw; first | (go_simp; done) | (go_simp; with_reducible rfl))
            case hQ9 => exact fun _ _ _ h => h
            try simp only [Act.put, List.setIfInBounds_toArray, List.set_cons_zero, List.set_cons_succ]
            refine wpAnyH_take (i := 2) (oi := ?oi10) (v := ?v10) ?hi10 ?hs10 ?hf10 ?hr10 ?hQ10 (Or.inl ⟨?hg10, ?hy10⟩) hHeld ?rest10
            case hi10 => simp only [List.getElem?_toArray, List.getElem?_cons_succ, List.getElem?_cons_zero]; rfl
            case hs10 => kernel_rfl
            case hf10 => kernel_rfl
            case hr10 => kernel_rfl
            case hg10 => rfl
            case hy10 => (intro w hSw; first | (go_simp; done) | (go_simp; with_reducible rfl))
            case hQ10 => exact fun _ _ _ h => h
            try simp only [Act.put, List.setIfInBounds_toArray, List.set_cons_zero, List.set_cons_succ]
            refine wpAnyH_take (i := 3) (oi := ?oi11) (v := ?v11) ?hi11 ?hs11 ?hf11 ?hr11 ?hQ11 (Or.inl ⟨?hg11, ?hy11⟩) hHeld ?rest11
            case hi11 => simp only [List.getElem?_toArray, List.getElem?_cons_succ, List.getElem?_cons_zero]; rfl
            case hs11 => kernel_rfl
            case hf11 => kernel_rfl
            case hr11 => kernel_rfl
            case hg11 => rfl
            case hy11 => (intro w hSw; have x0 := World.grownBy.cell hSw m11d htb; first | (go_simp; done) | (go_simp; with_reducible rfl))
            case hQ11 => exact fun _ _ _ h => h
            try simp only [Act.put, List.setIfInBounds_toArray, List.set_cons_zero, List.set_cons_succ]
            refine wpAnyH_take (i := 4) (oi := ?oi12) (v := ?v12) ?hi12 ?hs12 ?hf12 ?hr12 ?hQ12 (Or.inl ⟨?hg12, ?hy12⟩) hHeld ?rest12
            case hi12 => simp only [List.getElem?_toArray, List.getElem?_cons_succ, List.getElem?_cons_zero]; rfl
            case hs12 => kernel_rfl
            case hf12 => kernel_rfl
            case hr12 => kernel_rfl
            case hg12 => rfl
            case hy12 => (intro w hSw; first | (go_simp; done) | (go_simp; with_reducible rfl))
            case hQ12 => exact fun _ _ _ h => h
            try simp only [Act.put, List.setIfInBounds_toArray, List.set_cons_zero, List.set_cons_succ]
            refine wpAnyH_take (i := 6) (oi := ?oi13) (v := ?v13) ?hi13 ?hs13 ?hf13 ?hr13 ?hQ13 (Or.inl ⟨?hg13, ?hy13⟩) hHeld ?rest13
            case hi13 => simp only [List.getElem?_toArray, List.getElem?_cons_succ, List.getElem?_cons_zero]; rfl
            case hs13 => kernel_rfl
            case hf13 => kernel_rfl
            case hr13 => kernel_rfl
            case hg13 => rfl
            case hy13 => (intro w hSw; first | (go_simp; done) | (go_simp; with_reducible rfl))
            case hQ13 => exact fun _ _ _ h => h
            try simp only [Act.put, List.setIfInBounds_toArray, List.set_cons_zero, List.set_cons_succ]
            refine wpAnyH_ready (rs := [5]) (by kernel_rfl) (by simp) ?_
            refine AllReadyH.cons (o := ?oi14) ?hi14 (fun K hK => ?_) AllReadyH.nil
            case hi14 => simp only [List.getElem?_toArray, List.getElem?_cons_succ, List.getElem?_cons_zero]; rfl
            go_simp; go_at_call 124; refine (base_any p _ (by omega)).mono ?_; rintro e w8 ⟨rfl, rfl⟩; go_wp2_with fail
            refine hK.out _ _ ((World.grownBy.refl _ _)) (fun hHeld2 => ?_)
            clear hK K hHeld
            have hHeld := hHeld2
            clear hHeld2
            try simp only [Act.put, List.setIfInBounds_toArray, List.set_cons_zero, List.set_cons_succ]
            refine wpAnyH_ready (rs := [7]) (by kernel_rfl) (by simp) ?_
            refine AllReadyH.cons (o := ?oi15) ?hi15 (fun K hK => ?_) AllReadyH.nil
            case hi15 => simp only [List.getElem?_toArray, List.getElem?_cons_succ, List.getElem?_cons_zero]; rfl
            refine step_mapUpdate rfl 109 (.tmp 107) (.tmp 109) (.tmp 110) rfl rfl rfl rfl hput ?_
            refine hK.out _ _ (hgd2) (fun hHeld2 => ?_)
            clear hK K hHeld
            have hHeld := hHeld2
            clear hHeld2
            try simp only [Act.put, List.setIfInBounds_toArray, List.set_cons_zero, List.set_cons_succ]
            refine wpAnyH_done (by kernel_rfl) ?_ _
            clear hHeld hgd2 hput m11d
            go_wp2_with fail
            go_ret
            rw [K.out]
            exact ⟨rfl, act_move HOO.out T7.out R7.out.1 R7.out.2 O7.out⟩
    · have HK2 := Lib.hid hk2
      have HX3 := Lib.hid (show (if r2.2 ≠ 0 then (r2.2, S) else moveR S old.data.toList p.data.toList x.ino r2.1) = X by rw [← HX2'.out]; exact (if_neg (fun h => HK2.out h.1)).symm)
      clear HX2'
      go_wp2_with fail
      refine (HL.out w3 T3.out).mono ?_
      rintro e w4 ⟨rfl, hb4⟩
      have B4 := Lib.hid (B3.out.trans (hb4.mono B3.out.size))
      have T4 := Lib.hid (T3.out.below hb4)
      clear hb4 HL
      obtain ⟨o2, d2, e2⟩ := l2
      obtain ⟨a2, e3⟩ := r2
      obtain ⟨hs1, he1⟩ := HLK.out
      simp only at hs1 he1
      obtain rfl := he1
      unfold tupL
      rcases Classical.em (¬ e2 = 0) with h0 | h0
      · have K := Lib.hid (show X = (e2, S) by
          rw [← HX3.out]; exact if_pos h0)
        have q1 : (e2 != 0) = true := by simpa using h0
        clear h0 HX3 hs1
        go_wp2_with fail
        go_ret
        rw [K.out]
        exact ⟨rfl, act_same HS.out B4.out⟩
      have h0 := Classical.not_not.1 h0
      subst h0
      obtain ⟨td, rfl⟩ := look_top HL2.out HNE2.out
      have HX4 := Lib.hid (show moveR S old.data.toList p.data.toList x.ino a2 = X by rw [← HX3.out]; exact (if_neg (by simp)).symm)
      clear HX3
      cases o2 with
      | none =>
        obtain rfl : a2 = none := (hs1.none_iff).1 rfl
        clear hs1
        rw [show ptrO none = .pointer none from rfl, ptrO_some]
        have HAN := Lib.hid (show S.at p.data.toList = none by
          obtain ⟨ro', o0', hD', mf', hf', _, hfb'⟩ := lookN_fresh HL2.out
          have := HRP.out.rep _ ro'
          rw [Rep.parent o0' ro' hD' hf', hfb'] at this
          exact (this.none_iff).1 rfl)
        have hpe := ptrEqN k
        have K := Lib.hid (show X = ((0 : Int), (S.gone p.data.toList).moved old.data.toList p.data.toList) by
          rw [← HX4.out, gone_none HOK.out HAN.out]
          exact if_neg (fun h => HK2.out (by rw [← HTH1.out]; exact h.1)))
        have hne : (none : Option Nat) ≠ some k := by simp
        have hno : ∀ j y, (none : Option Nat) = some j → N j = some y → y.kind ≠ 2 := fun j y h => by cases h
        have hdir : x.kind = 2 → ¬ (p.data.toList ≠ old.data.toList ∧ pfxB (splitB p.data.toList) (splitB old.data.toList) = true) ∧ (S.ls.all fun y => rightB (moveP old.data.toList p.data.toList y.1)) = true := fun h => absurd h HK2.out
        have hnoS := hno
        have HOU := Lib.hid (outS_any t top c td N S p none w4 T4.out HRP.out HOK.out HL2.out hno (by omega) hls)
        have HRD := Lib.hid (fun h1 h2 => move_ready HRP.out HOK.out HLO.out HL2.out HK.out hne hno hdir h1 h2)
        unfold ptrN at HOU ⊢
        clear hno hnoS hne hdir
        go_wp2_with fail
        refine HOU.out.mono ?_
        rintro e w5 ⟨rfl, hT5, hR5, ho5, hO5⟩
        obtain ⟨i, d, x1, mf, mt, RD⟩ := HRD.out hR5 ho5
        obtain ⟨bf, hbf⟩ : ∃ b, mf.kb = some b := by
          cases hq : mf.kb with
          | none => exact absurd hq (hT5.dirs f mf RD.hf RD.fk)
          | some b => exact ⟨b, rfl⟩
        have hMf := hT5.kids f mf bf RD.hf hbf
        obtain ⟨w6, hdrop, hm6, hg6⟩ := (hMf.drewN 1).drop Tryz.underlying109 (base_size old (by omega)) 0
        rw [str_list, ← delM_set] at hm6
        have hg6' : w5.grownBy w6 (some bf) := ⟨hg6.os, hg6.tape, hg6.output, hg6.size, hg6.block⟩
        have T6 := Lib.hid (hT5.kid (c' := c) RD.hf hbf (Nat.le_refl c) hm6 hg6' (fun j hj => by cases hj))
        obtain ⟨mt2, hmt2, hmk2, _⟩ := kidN_is (d := f) (baseB old.data.toList) none RD.ht
        obtain ⟨bt, hbt⟩ : ∃ b, mt2.kb = some b := by
          cases hq : mt2.kb with
          | none => exact absurd hq (T6.out.dirs td mt2 hmt2 (hmk2.trans RD.tk))
          | some b => exact ⟨b, rfl⟩
        have hMt := T6.out.kids td mt2 bt hmt2 hbt
        obtain ⟨w7, hput, hm7, hg7⟩ := (hMt.drewN 1).put Tryz.underlying109 (by unfold maxLen; omega) (base_size p (by omega)) (.pointer (some ⟨k, 0, none⟩))
        rw [str_list] at hm7
        have hg7' : w6.grownBy w7 (some bt) := ⟨hg7.os, hg7.tape, hg7.output, hg7.size, hg7.block⟩
        have T7 := Lib.hid (T6.out.kid (c' := c + 1) (s := baseB p.data.toList) (v := some k) hmt2 hbt (Nat.le_succ c) (by
          have hfe : (fun y => (kidsSet mt2.kids (baseB p.data.toList) (some k) y).map ptrN) = updM (fun y => (mt2.kids y).map ptrN) (baseB p.data.toList) (ptrN k) := funext fun y => by
            unfold kidsSet updM
            by_cases hy : y = baseB p.data.toList
            · rw [if_pos hy, if_pos hy]; rfl
            · rw [if_neg hy, if_neg hy]
          rw [hfe]; exact hm7) hg7' (fun j hj => by
            cases hj
            obtain ⟨q, hq, _⟩ := kidN_is (d := f) (baseB old.data.toList) none RD.hk
            exact ⟨q, hq⟩))
        have R7 := Lib.hid (And.intro (Rep.move hR5 ho5 RD.ok RD.atk RD.hk RD.atf RD.hf RD.att RD.ht RD.fk RD.tk) (OkS.move ho5 RD.ok))
        have O7 : Hid (Only (fun j => j = t ∨ heldT N j) w w7) := Lib.hid ((((Only.of (P := fun j => j = t ∨ heldT N j) B4.out).trans (hO5.mono (fun jj _ hj => ownT_held hj))).trans ((Only.grown (P := fun j => j = bf) hg6' rfl).mono (fun jj _ hj => by subst hj; exact ownT_out (b := baseB p.data.toList) (o := none) (d := td) (.inr (.inr (.inr ⟨f, mf, RD.hf, hbf⟩)))))).trans ((Only.grown (P := fun j => j = bt) hg7' rfl).mono (fun jj _ hj => by subst hj; exact ownT_out (b := baseB p.data.toList) (o := none) (d := td) (heldT_kid (b := baseB old.data.toList) (v := none) (d := f) jj (.inr (.inr (.inr ⟨td, mt2, hmt2, hbt⟩)))))))
        obtain ⟨_, _, _, _, _, _, _, _, _, _, _, n11⟩ := node_cells (hT5.node f mf RD.hf)
        rw [hbf] at n11
        obtain ⟨_, _, _, _, _, _, _, _, _, _, _, m11⟩ := node_cells (T6.out.node td mt2 hmt2)
        rw [hbt] at m11
        have n11d : w5.drew.cell? ⟨f, 11, none⟩ = some (.map (some bf)) := n11
        have m11d : w6.drew.cell? ⟨td, 11, none⟩ = some (.map (some bt)) := m11
        have hfb : some f ≠ some bf := fun e => hMf.ne (hT5.node f mf RD.hf) (by cases e; rfl)
        have htb : some td ≠ some bt := fun e => hMt.ne (T6.out.node td mt2 hmt2) (by cases e; rfl)
        have hdrop : (Builtin.delete_ #[109, 9] 0 #[.map (some bf), .string (str (baseB old.data.toList))]).run Tryz.prog w5.drew = .ok (.tuple #[]) w6 := hdrop
        have hput : (Instr.mapUpdate 109 (.map (some bt)) (.string (str (baseB p.data.toList))) (.pointer (some ⟨k, 0, none⟩))).run Tryz.prog w6.drew = .ok () w7 := hput
        have hgd : w5.drew.grownBy w6 (some bf) := hg6
        have hgd2 : w6.drew.grownBy w7 (some bt) := hg7
        clear hMf hm6 hg6 hg6' hMt hm7 hg7 hg7' hbf hbt hmt2 hmk2 n11 m11 RD hT5 hR5 ho5 hO5
        go_wp2_with fail
        refine wp_region_held_drew (S := (fun w' => w5.drew.grownBy w' (some bf))) (by kernel_rfl) (World.grownBy.refl _ _) (fun hHeld => ?_)
        refine wpAnyH_take (i := 0) (oi := ?oi16) (v := ?v16) ?hi16 ?hs16 ?hf16 ?hr16 ?hQ16 (Or.inl ⟨?hg16, ?hy16⟩) hHeld ?rest16
        case hi16 => simp only [List.getElem?_toArray, List.getElem?_cons_succ, List.getElem?_cons_zero]; rfl
        case hs16 => kernel_rfl
        case hf16 => kernel_rfl
        case hr16 => kernel_rfl
        case hg16 => rfl
        case hy16 => (intro w hSw; first | (go_simp; done) | (go_simp; with_reducible rfl))
        case hQ16 => exact fun _ _ _ h => h
        try simp only [Act.put, List.setIfInBounds_toArray, List.set_cons_zero, List.set_cons_succ]
        refine wpAnyH_take (i := 1) (oi := ?oi17) (v := ?v17) ?hi17 ?hs17 ?hf17 ?hr17 ?hQ17 (Or.inl ⟨?hg17, ?hy17⟩) hHeld ?rest17
        case hi17 => simp only [List.getElem?_toArray, List.getElem?_cons_succ, List.getElem?_cons_zero]; rfl
        case hs17 => kernel_rfl
        case hf17 => kernel_rfl
        case hr17 => kernel_rfl
        case hg17 => rfl
        case hy17 => (intro w hSw; first | (go_simp; done) | (go_simp; with_reducible rfl))
        case hQ17 => exact fun _ _ _ h => h
        try simp only [Act.put, List.setIfInBounds_toArray, List.set_cons_zero, List.set_cons_succ]
        refine wpAnyH_take (i := 2) (oi := ?oi18) (v := ?v18) ?hi18 ?hs18 ?hf18 ?hr18 ?hQ18 (Or.inl ⟨?hg18, ?hy18⟩) hHeld ?rest18
        case hi18 => simp only [List.getElem?_toArray, List.getElem?_cons_succ, List.getElem?_cons_zero]; rfl
        case hs18 => kernel_rfl
        case hf18 => kernel_rfl
        case hr18 => kernel_rfl
        case hg18 => rfl
        case hy18 => (intro w hSw; first | (go_simp; done) | (go_simp; with_reducible rfl))
        case hQ18 => exact fun _ _ _ h => h
        try simp only [Act.put, List.setIfInBounds_toArray, List.set_cons_zero, List.set_cons_succ]
        refine wpAnyH_take (i := 3) (oi := ?oi19) (v := ?v19) ?hi19 ?hs19 ?hf19 ?hr19 ?hQ19 (Or.inl ⟨?hg19, ?hy19⟩) hHeld ?rest19
        case hi19 => simp only [List.getElem?_toArray, List.getElem?_cons_succ, List.getElem?_cons_zero]; rfl
        case hs19 => kernel_rfl
        case hf19 => kernel_rfl
        case hr19 => kernel_rfl
        case hg19 => rfl
        case hy19 => (intro w hSw; have x0 := World.grownBy.cell hSw n11d hfb; first | (go_simp; done) | (go_simp; with_reducible rfl))
        case hQ19 => exact fun _ _ _ h => h
        try simp only [Act.put, List.setIfInBounds_toArray, List.set_cons_zero, List.set_cons_succ]
        refine wpAnyH_take (i := 4) (oi := ?oi20) (v := ?v20) ?hi20 ?hs20 ?hf20 ?hr20 ?hQ20 (Or.inl ⟨?hg20, ?hy20⟩) hHeld ?rest20
        case hi20 => simp only [List.getElem?_toArray, List.getElem?_cons_succ, List.getElem?_cons_zero]; rfl
        case hs20 => kernel_rfl
        case hf20 => kernel_rfl
        case hr20 => kernel_rfl
        case hg20 => rfl
        case hy20 => (intro w hSw; first | (go_simp; done) | (go_simp; with_reducible rfl))
        case hQ20 => exact fun _ _ _ h => h
        try simp only [Act.put, List.setIfInBounds_toArray, List.set_cons_zero, List.set_cons_succ]
        refine wpAnyH_ready (rs := [5]) (by kernel_rfl) (by simp) ?_
        refine AllReadyH.cons (o := ?oi21) ?hi21 (fun K hK => ?_) AllReadyH.nil
        case hi21 => simp only [List.getElem?_toArray, List.getElem?_cons_succ, List.getElem?_cons_zero]; rfl
        go_simp; go_at_call 124; refine (base_any old _ (by omega)).mono ?_; rintro e w8 ⟨rfl, rfl⟩; go_wp2_with fail
        refine hK.out _ _ ((World.grownBy.refl _ _)) (fun hHeld2 => ?_)
        clear hK K hHeld
        have hHeld := hHeld2
        clear hHeld2
        try simp only [Act.put, List.setIfInBounds_toArray, List.set_cons_zero, List.set_cons_succ]
        refine wpAnyH_ready (rs := [6]) (by kernel_rfl) (by simp) ?_
        refine AllReadyH.cons (o := ?oi22) ?hi22 (fun K hK => ?_) AllReadyH.nil
        case hi22 => simp only [List.getElem?_toArray, List.getElem?_cons_succ, List.getElem?_cons_zero]; rfl
        refine step_delete_run rfl (.tmp 101) (.tmp 103) 109 9 rfl rfl rfl hdrop ?_
        refine hK.out _ _ (hgd) (fun hHeld2 => ?_)
        clear hK K hHeld
        have hHeld := hHeld2
        clear hHeld2
        try simp only [Act.put, List.setIfInBounds_toArray, List.set_cons_zero, List.set_cons_succ]
        refine wpAnyH_done (by kernel_rfl) ?_ _
        clear hHeld hgd hdrop n11d
        go_wp2_with fail
        refine wp_region_held_drew (S := (fun w' => w6.drew.grownBy w' (some bt))) (by kernel_rfl) (World.grownBy.refl _ _) (fun hHeld => ?_)
        refine wpAnyH_take (i := 0) (oi := ?oi23) (v := ?v23) ?hi23 ?hs23 ?hf23 ?hr23 ?hQ23 (Or.inl ⟨?hg23, ?hy23⟩) hHeld ?rest23
        case hi23 => simp only [List.getElem?_toArray, List.getElem?_cons_succ, List.getElem?_cons_zero]; rfl
        case hs23 => kernel_rfl
        case hf23 => kernel_rfl
        case hr23 => kernel_rfl
        case hg23 => rfl
        case hy23 => (intro w hSw; first | (go_simp; done) | (go_simp; with_reducible rfl))
        case hQ23 => exact fun _ _ _ h => h
        try simp only [Act.put, List.setIfInBounds_toArray, List.set_cons_zero, List.set_cons_succ]
        refine wpAnyH_take (i := 1) (oi := ?oi24) (v := ?v24) ?hi24 ?hs24 ?hf24 ?hr24 ?hQ24 (Or.inl ⟨?hg24, ?hy24⟩) hHeld ?rest24
        case hi24 => simp only [List.getElem?_toArray, List.getElem?_cons_succ, List.getElem?_cons_zero]; rfl
        case hs24 => kernel_rfl
        case hf24 => kernel_rfl
        case hr24 => kernel_rfl
        case hg24 => rfl
        case hy24 => (intro w hSw; first | (go_simp; done) | (go_simp; with_reducible rfl))
        case hQ24 => exact fun _ _ _ h => h
        try simp only [Act.put, List.setIfInBounds_toArray, List.set_cons_zero, List.set_cons_succ]
        refine wpAnyH_take (i := 2) (oi := ?oi25) (v := ?v25) ?hi25 ?hs25 ?hf25 ?hr25 ?hQ25 (Or.inl ⟨?hg25, ?hy25⟩) hHeld ?rest25
        case hi25 => simp only [List.getElem?_toArray, List.getElem?_cons_succ, List.getElem?_cons_zero]; rfl
        case hs25 => kernel_rfl
        case hf25 => kernel_rfl
        case hr25 => kernel_rfl
        case hg25 => rfl
        case hy25 => (intro w hSw; first | (go_simp; done) | (go_simp; with_reducible rfl))
        case hQ25 => exact fun _ _ _ h => h
        try simp only [Act.put, List.setIfInBounds_toArray, List.set_cons_zero, List.set_cons_succ]
        refine wpAnyH_take (i := 3) (oi := ?oi26) (v := ?v26) ?hi26 ?hs26 ?hf26 ?hr26 ?hQ26 (Or.inl ⟨?hg26, ?hy26⟩) hHeld ?rest26
        case hi26 => simp only [List.getElem?_toArray, List.getElem?_cons_succ, List.getElem?_cons_zero]; rfl
        case hs26 => kernel_rfl
        case hf26 => kernel_rfl
        case hr26 => kernel_rfl
        case hg26 => rfl
        case hy26 => (intro w hSw; have x0 := World.grownBy.cell hSw m11d htb; first | (go_simp; done) | (go_simp; with_reducible rfl))
        case hQ26 => exact fun _ _ _ h => h
        try simp only [Act.put, List.setIfInBounds_toArray, List.set_cons_zero, List.set_cons_succ]
        refine wpAnyH_take (i := 4) (oi := ?oi27) (v := ?v27) ?hi27 ?hs27 ?hf27 ?hr27 ?hQ27 (Or.inl ⟨?hg27, ?hy27⟩) hHeld ?rest27
        case hi27 => simp only [List.getElem?_toArray, List.getElem?_cons_succ, List.getElem?_cons_zero]; rfl
        case hs27 => kernel_rfl
        case hf27 => kernel_rfl
        case hr27 => kernel_rfl
        case hg27 => rfl
        case hy27 => (intro w hSw; first | (go_simp; done) | (go_simp; with_reducible rfl))
        case hQ27 => exact fun _ _ _ h => h
        try simp only [Act.put, List.setIfInBounds_toArray, List.set_cons_zero, List.set_cons_succ]
        refine wpAnyH_take (i := 6) (oi := ?oi28) (v := ?v28) ?hi28 ?hs28 ?hf28 ?hr28 ?hQ28 (Or.inl ⟨?hg28, ?hy28⟩) hHeld ?rest28
        case hi28 => simp only [List.getElem?_toArray, List.getElem?_cons_succ, List.getElem?_cons_zero]; rfl
        case hs28 => kernel_rfl
        case hf28 => kernel_rfl
        case hr28 => kernel_rfl
        case hg28 => rfl
        case hy28 => (intro w hSw; first | (go_simp; done) | (go_simp; with_reducible rfl))
        case hQ28 => exact fun _ _ _ h => h
        try simp only [Act.put, List.setIfInBounds_toArray, List.set_cons_zero, List.set_cons_succ]
        refine wpAnyH_ready (rs := [5]) (by kernel_rfl) (by simp) ?_
        refine AllReadyH.cons (o := ?oi29) ?hi29 (fun K hK => ?_) AllReadyH.nil
        case hi29 => simp only [List.getElem?_toArray, List.getElem?_cons_succ, List.getElem?_cons_zero]; rfl
        go_simp; go_at_call 124; refine (base_any p _ (by omega)).mono ?_; rintro e w8 ⟨rfl, rfl⟩; go_wp2_with fail
        refine hK.out _ _ ((World.grownBy.refl _ _)) (fun hHeld2 => ?_)
        clear hK K hHeld
        have hHeld := hHeld2
        clear hHeld2
        try simp only [Act.put, List.setIfInBounds_toArray, List.set_cons_zero, List.set_cons_succ]
        refine wpAnyH_ready (rs := [7]) (by kernel_rfl) (by simp) ?_
        refine AllReadyH.cons (o := ?oi30) ?hi30 (fun K hK => ?_) AllReadyH.nil
        case hi30 => simp only [List.getElem?_toArray, List.getElem?_cons_succ, List.getElem?_cons_zero]; rfl
        refine step_mapUpdate rfl 109 (.tmp 107) (.tmp 109) (.tmp 110) rfl rfl rfl rfl hput ?_
        refine hK.out _ _ (hgd2) (fun hHeld2 => ?_)
        clear hK K hHeld
        have hHeld := hHeld2
        clear hHeld2
        try simp only [Act.put, List.setIfInBounds_toArray, List.set_cons_zero, List.set_cons_succ]
        refine wpAnyH_done (by kernel_rfl) ?_ _
        clear hHeld hgd2 hput m11d
        go_wp2_with fail
        go_ret
        rw [K.out]
        exact ⟨rfl, act_move HOO.out T7.out R7.out.1 R7.out.2 O7.out⟩
      | some j =>
        obtain ⟨z, g1, g2⟩ := hs1.some
        have HZ := Lib.hid g1
        subst g2
        obtain ⟨z0, _⟩ := node_cells (T4.out.node j z g1)
        clear hs1 g1
        rw [show ptrO (some j) = .pointer (some ⟨j, 0, none⟩) from rfl, ptrO_some]
        by_cases hkj : z.kind = 2
        · have K := Lib.hid (show X = ((13 : Int), S) by
            rw [← HX4.out]
            show (if (S.th x.ino).kind = 2 then ((11 : Int), S) else if (S.th z.ino).kind = 2 then (13, S) else _) = _
            rw [if_neg (by rw [HTH1.out]; exact HK2.out), if_pos (by rw [HRP.out.info j z HZ.out]; exact hkj)])
          clear HX4
          rw [hkj] at z0
          clear hkj
          go_wp2_with fail
          go_ret
          rw [K.out]
          exact ⟨rfl, act_same HS.out B4.out⟩
        · have HKJ := Lib.hid hkj
          by_cases hjk : j = k
          · subst hjk
            have hpe := ptrSame j
            obtain rfl : x = z := by have h := HK.out; rw [HZ.out, Option.some.injEq] at h; exact h.symm
            have K := Lib.hid (show X = ((0 : Int), S) by
              rw [← HX4.out]
              show (if (S.th x.ino).kind = 2 then ((11 : Int), S) else if (S.th x.ino).kind = 2 then (13, S) else if x.ino = x.ino then (0, S) else _) = _
              rw [if_neg (by rw [HTH1.out]; exact HK2.out), if_neg (by rw [HTH1.out]; exact HK2.out), if_pos rfl])
            clear HX4
            go_wp2_with fail
            go_ret
            rw [K.out]
            exact ⟨rfl, act_same HS.out B4.out⟩
          · have HJK := Lib.hid hjk
            have hpe := ptrOther (T4.out.node j z HZ.out) (T4.out.node k x HK.out) hjk
            have hkj2 : ¬ z.kind = 2 := hkj
            clear hkj hjk
            have K := Lib.hid (show X = ((0 : Int), (S.gone p.data.toList).moved old.data.toList p.data.toList) by
              rw [← HX4.out]
              show (if (S.th x.ino).kind = 2 then ((11 : Int), S) else if (S.th z.ino).kind = 2 then (13, S) else if z.ino = x.ino then (0, S) else (0, (S.gone p.data.toList).moved old.data.toList p.data.toList)) = _
              rw [if_neg (by rw [HTH1.out]; exact HK2.out), if_neg (by rw [HRP.out.info j z HZ.out]; exact HKJ.out), if_neg (fun e => HJK.out (HRP.out.inj j k z x HZ.out HK.out e))])
            have hne : (some j : Option Nat) ≠ some k := fun e => HJK.out (Option.some.inj e)
            have hno : ∀ j' y, (some j : Option Nat) = some j' → N j' = some y → y.kind ≠ 2 := fun j' y h hy => by
              cases h
              rw [HZ.out, Option.some.injEq] at hy
              rw [← hy]; exact HKJ.out
            have hdir : x.kind = 2 → ¬ (p.data.toList ≠ old.data.toList ∧ pfxB (splitB p.data.toList) (splitB old.data.toList) = true) ∧ (S.ls.all fun y => rightB (moveP old.data.toList p.data.toList y.1)) = true := fun h => absurd h HK2.out
            have hnoS := hno
            have HOU := Lib.hid (outS_any t top c td N S p (some j) w4 T4.out HRP.out HOK.out HL2.out hno (by omega) hls)
            have HRD := Lib.hid (fun h1 h2 => move_ready HRP.out HOK.out HLO.out HL2.out HK.out hne hno hdir h1 h2)
            unfold ptrN at HOU ⊢
            clear hno hnoS hne hdir
            go_wp2_with fail
            refine HOU.out.mono ?_
            rintro e w5 ⟨rfl, hT5, hR5, ho5, hO5⟩
            obtain ⟨i, d, x1, mf, mt, RD⟩ := HRD.out hR5 ho5
            obtain ⟨bf, hbf⟩ : ∃ b, mf.kb = some b := by
              cases hq : mf.kb with
              | none => exact absurd hq (hT5.dirs f mf RD.hf RD.fk)
              | some b => exact ⟨b, rfl⟩
            have hMf := hT5.kids f mf bf RD.hf hbf
            obtain ⟨w6, hdrop, hm6, hg6⟩ := (hMf.drewN 1).drop Tryz.underlying109 (base_size old (by omega)) 0
            rw [str_list, ← delM_set] at hm6
            have hg6' : w5.grownBy w6 (some bf) := ⟨hg6.os, hg6.tape, hg6.output, hg6.size, hg6.block⟩
            have T6 := Lib.hid (hT5.kid (c' := c) RD.hf hbf (Nat.le_refl c) hm6 hg6' (fun j hj => by cases hj))
            obtain ⟨mt2, hmt2, hmk2, _⟩ := kidN_is (d := f) (baseB old.data.toList) none RD.ht
            obtain ⟨bt, hbt⟩ : ∃ b, mt2.kb = some b := by
              cases hq : mt2.kb with
              | none => exact absurd hq (T6.out.dirs td mt2 hmt2 (hmk2.trans RD.tk))
              | some b => exact ⟨b, rfl⟩
            have hMt := T6.out.kids td mt2 bt hmt2 hbt
            obtain ⟨w7, hput, hm7, hg7⟩ := (hMt.drewN 1).put Tryz.underlying109 (by unfold maxLen; omega) (base_size p (by omega)) (.pointer (some ⟨k, 0, none⟩))
            rw [str_list] at hm7
            have hg7' : w6.grownBy w7 (some bt) := ⟨hg7.os, hg7.tape, hg7.output, hg7.size, hg7.block⟩
            have T7 := Lib.hid (T6.out.kid (c' := c + 1) (s := baseB p.data.toList) (v := some k) hmt2 hbt (Nat.le_succ c) (by
              have hfe : (fun y => (kidsSet mt2.kids (baseB p.data.toList) (some k) y).map ptrN) = updM (fun y => (mt2.kids y).map ptrN) (baseB p.data.toList) (ptrN k) := funext fun y => by
                unfold kidsSet updM
                by_cases hy : y = baseB p.data.toList
                · rw [if_pos hy, if_pos hy]; rfl
                · rw [if_neg hy, if_neg hy]
              rw [hfe]; exact hm7) hg7' (fun j hj => by
                cases hj
                obtain ⟨q, hq, _⟩ := kidN_is (d := f) (baseB old.data.toList) none RD.hk
                exact ⟨q, hq⟩))
            have R7 := Lib.hid (And.intro (Rep.move hR5 ho5 RD.ok RD.atk RD.hk RD.atf RD.hf RD.att RD.ht RD.fk RD.tk) (OkS.move ho5 RD.ok))
            have O7 : Hid (Only (fun j => j = t ∨ heldT N j) w w7) := Lib.hid ((((Only.of (P := fun j => j = t ∨ heldT N j) B4.out).trans (hO5.mono (fun jj _ hj => ownT_held hj))).trans ((Only.grown (P := fun j => j = bf) hg6' rfl).mono (fun jj _ hj => by subst hj; exact ownT_out (b := baseB p.data.toList) (o := (some j)) (d := td) (.inr (.inr (.inr ⟨f, mf, RD.hf, hbf⟩)))))).trans ((Only.grown (P := fun j => j = bt) hg7' rfl).mono (fun jj _ hj => by subst hj; exact ownT_out (b := baseB p.data.toList) (o := (some j)) (d := td) (heldT_kid (b := baseB old.data.toList) (v := none) (d := f) jj (.inr (.inr (.inr ⟨td, mt2, hmt2, hbt⟩)))))))
            obtain ⟨_, _, _, _, _, _, _, _, _, _, _, n11⟩ := node_cells (hT5.node f mf RD.hf)
            rw [hbf] at n11
            obtain ⟨_, _, _, _, _, _, _, _, _, _, _, m11⟩ := node_cells (T6.out.node td mt2 hmt2)
            rw [hbt] at m11
            have n11d : w5.drew.cell? ⟨f, 11, none⟩ = some (.map (some bf)) := n11
            have m11d : w6.drew.cell? ⟨td, 11, none⟩ = some (.map (some bt)) := m11
            have hfb : some f ≠ some bf := fun e => hMf.ne (hT5.node f mf RD.hf) (by cases e; rfl)
            have htb : some td ≠ some bt := fun e => hMt.ne (T6.out.node td mt2 hmt2) (by cases e; rfl)
            have hdrop : (Builtin.delete_ #[109, 9] 0 #[.map (some bf), .string (str (baseB old.data.toList))]).run Tryz.prog w5.drew = .ok (.tuple #[]) w6 := hdrop
            have hput : (Instr.mapUpdate 109 (.map (some bt)) (.string (str (baseB p.data.toList))) (.pointer (some ⟨k, 0, none⟩))).run Tryz.prog w6.drew = .ok () w7 := hput
            have hgd : w5.drew.grownBy w6 (some bf) := hg6
            have hgd2 : w6.drew.grownBy w7 (some bt) := hg7
            clear hMf hm6 hg6 hg6' hMt hm7 hg7 hg7' hbf hbt hmt2 hmk2 n11 m11 RD hT5 hR5 ho5 hO5
            go_wp2_with fail
            refine wp_region_held_drew (S := (fun w' => w5.drew.grownBy w' (some bf))) (by kernel_rfl) (World.grownBy.refl _ _) (fun hHeld => ?_)
            refine wpAnyH_take (i := 0) (oi := ?oi31) (v := ?v31) ?hi31 ?hs31 ?hf31 ?hr31 ?hQ31 (Or.inl ⟨?hg31, ?hy31⟩) hHeld ?rest31
            case hi31 => simp only [List.getElem?_toArray, List.getElem?_cons_succ, List.getElem?_cons_zero]; rfl
            case hs31 => kernel_rfl
            case hf31 => kernel_rfl
            case hr31 => kernel_rfl
            case hg31 => rfl
            case hy31 => (intro w hSw; first | (go_simp; done) | (go_simp; with_reducible rfl))
            case hQ31 => exact fun _ _ _ h => h
            try simp only [Act.put, List.setIfInBounds_toArray, List.set_cons_zero, List.set_cons_succ]
            refine wpAnyH_take (i := 1) (oi := ?oi32) (v := ?v32) ?hi32 ?hs32 ?hf32 ?hr32 ?hQ32 (Or.inl ⟨?hg32, ?hy32⟩) hHeld ?rest32
            case hi32 => simp only [List.getElem?_toArray, List.getElem?_cons_succ, List.getElem?_cons_zero]; rfl
            case hs32 => kernel_rfl
            case hf32 => kernel_rfl
            case hr32 => kernel_rfl
            case hg32 => rfl
            case hy32 => (intro w hSw; first | (go_simp; done) | (go_simp; with_reducible rfl))
            case hQ32 => exact fun _ _ _ h => h
            try simp only [Act.put, List.setIfInBounds_toArray, List.set_cons_zero, List.set_cons_succ]
            refine wpAnyH_take (i := 2) (oi := ?oi33) (v := ?v33) ?hi33 ?hs33 ?hf33 ?hr33 ?hQ33 (Or.inl ⟨?hg33, ?hy33⟩) hHeld ?rest33
            case hi33 => simp only [List.getElem?_toArray, List.getElem?_cons_succ, List.getElem?_cons_zero]; rfl
            case hs33 => kernel_rfl
            case hf33 => kernel_rfl
            case hr33 => kernel_rfl
            case hg33 => rfl
            case hy33 => (intro w hSw; first | (go_simp; done) | (go_simp; with_reducible rfl))
            case hQ33 => exact fun _ _ _ h => h
            try simp only [Act.put, List.setIfInBounds_toArray, List.set_cons_zero, List.set_cons_succ]
            refine wpAnyH_take (i := 3) (oi := ?oi34) (v := ?v34) ?hi34 ?hs34 ?hf34 ?hr34 ?hQ34 (Or.inl ⟨?hg34, ?hy34⟩) hHeld ?rest34
            case hi34 => simp only [List.getElem?_toArray, List.getElem?_cons_succ, List.getElem?_cons_zero]; rfl
            case hs34 => kernel_rfl
            case hf34 => kernel_rfl
            case hr34 => kernel_rfl
            case hg34 => rfl
            case hy34 => (intro w hSw; have x0 := World.grownBy.cell hSw n11d hfb; first | (go_simp; done) | (go_simp; with_reducible rfl))
            case hQ34 => exact fun _ _ _ h => h
            try simp only [Act.put, List.setIfInBounds_toArray, List.set_cons_zero, List.set_cons_succ]
            refine wpAnyH_take (i := 4) (oi := ?oi35) (v := ?v35) ?hi35 ?hs35 ?hf35 ?hr35 ?hQ35 (Or.inl ⟨?hg35, ?hy35⟩) hHeld ?rest35
            case hi35 => simp only [List.getElem?_toArray, List.getElem?_cons_succ, List.getElem?_cons_zero]; rfl
            case hs35 => kernel_rfl
            case hf35 => kernel_rfl
            case hr35 => kernel_rfl
            case hg35 => rfl
            case hy35 => (intro w hSw; first | (go_simp; done) | (go_simp; with_reducible rfl))
            case hQ35 => exact fun _ _ _ h => h
            try simp only [Act.put, List.setIfInBounds_toArray, List.set_cons_zero, List.set_cons_succ]
            refine wpAnyH_ready (rs := [5]) (by kernel_rfl) (by simp) ?_
            refine AllReadyH.cons (o := ?oi36) ?hi36 (fun K hK => ?_) AllReadyH.nil
            case hi36 => simp only [List.getElem?_toArray, List.getElem?_cons_succ, List.getElem?_cons_zero]; rfl
            go_simp; go_at_call 124; refine (base_any old _ (by omega)).mono ?_; rintro e w8 ⟨rfl, rfl⟩; go_wp2_with fail
            refine hK.out _ _ ((World.grownBy.refl _ _)) (fun hHeld2 => ?_)
            clear hK K hHeld
            have hHeld := hHeld2
            clear hHeld2
            try simp only [Act.put, List.setIfInBounds_toArray, List.set_cons_zero, List.set_cons_succ]
            refine wpAnyH_ready (rs := [6]) (by kernel_rfl) (by simp) ?_
            refine AllReadyH.cons (o := ?oi37) ?hi37 (fun K hK => ?_) AllReadyH.nil
            case hi37 => simp only [List.getElem?_toArray, List.getElem?_cons_succ, List.getElem?_cons_zero]; rfl
            refine step_delete_run rfl (.tmp 101) (.tmp 103) 109 9 rfl rfl rfl hdrop ?_
            refine hK.out _ _ (hgd) (fun hHeld2 => ?_)
            clear hK K hHeld
            have hHeld := hHeld2
            clear hHeld2
            try simp only [Act.put, List.setIfInBounds_toArray, List.set_cons_zero, List.set_cons_succ]
            refine wpAnyH_done (by kernel_rfl) ?_ _
            clear hHeld hgd hdrop n11d
            go_wp2_with fail
            refine wp_region_held_drew (S := (fun w' => w6.drew.grownBy w' (some bt))) (by kernel_rfl) (World.grownBy.refl _ _) (fun hHeld => ?_)
            refine wpAnyH_take (i := 0) (oi := ?oi38) (v := ?v38) ?hi38 ?hs38 ?hf38 ?hr38 ?hQ38 (Or.inl ⟨?hg38, ?hy38⟩) hHeld ?rest38
            case hi38 => simp only [List.getElem?_toArray, List.getElem?_cons_succ, List.getElem?_cons_zero]; rfl
            case hs38 => kernel_rfl
            case hf38 => kernel_rfl
            case hr38 => kernel_rfl
            case hg38 => rfl
            case hy38 => (intro w hSw; first | (go_simp; done) | (go_simp; with_reducible rfl))
            case hQ38 => exact fun _ _ _ h => h
            try simp only [Act.put, List.setIfInBounds_toArray, List.set_cons_zero, List.set_cons_succ]
            refine wpAnyH_take (i := 1) (oi := ?oi39) (v := ?v39) ?hi39 ?hs39 ?hf39 ?hr39 ?hQ39 (Or.inl ⟨?hg39, ?hy39⟩) hHeld ?rest39
            case hi39 => simp only [List.getElem?_toArray, List.getElem?_cons_succ, List.getElem?_cons_zero]; rfl
            case hs39 => kernel_rfl
            case hf39 => kernel_rfl
            case hr39 => kernel_rfl
            case hg39 => rfl
            case hy39 => (intro w hSw; first | (go_simp; done) | (go_simp; with_reducible rfl))
            case hQ39 => exact fun _ _ _ h => h
            try simp only [Act.put, List.setIfInBounds_toArray, List.set_cons_zero, List.set_cons_succ]
            refine wpAnyH_take (i := 2) (oi := ?oi40) (v := ?v40) ?hi40 ?hs40 ?hf40 ?hr40 ?hQ40 (Or.inl ⟨?hg40, ?hy40⟩) hHeld ?rest40
            case hi40 => simp only [List.getElem?_toArray, List.getElem?_cons_succ, List.getElem?_cons_zero]; rfl
            case hs40 => kernel_rfl
            case hf40 => kernel_rfl
            case hr40 => kernel_rfl
            case hg40 => rfl
            case hy40 => (intro w hSw; first | (go_simp; done) | (go_simp; with_reducible rfl))
            case hQ40 => exact fun _ _ _ h => h
            try simp only [Act.put, List.setIfInBounds_toArray, List.set_cons_zero, List.set_cons_succ]
            refine wpAnyH_take (i := 3) (oi := ?oi41) (v := ?v41) ?hi41 ?hs41 ?hf41 ?hr41 ?hQ41 (Or.inl ⟨?hg41, ?hy41⟩) hHeld ?rest41
            case hi41 => simp only [List.getElem?_toArray, List.getElem?_cons_succ, List.getElem?_cons_zero]; rfl
            case hs41 => kernel_rfl
            case hf41 => kernel_rfl
            case hr41 => kernel_rfl
            case hg41 => rfl
            case hy41 => (intro w hSw; have x0 := World.grownBy.cell hSw m11d htb; first | (go_simp; done) | (go_simp; with_reducible rfl))
            case hQ41 => exact fun _ _ _ h => h
            try simp only [Act.put, List.setIfInBounds_toArray, List.set_cons_zero, List.set_cons_succ]
            refine wpAnyH_take (i := 4) (oi := ?oi42) (v := ?v42) ?hi42 ?hs42 ?hf42 ?hr42 ?hQ42 (Or.inl ⟨?hg42, ?hy42⟩) hHeld ?rest42
            case hi42 => simp only [List.getElem?_toArray, List.getElem?_cons_succ, List.getElem?_cons_zero]; rfl
            case hs42 => kernel_rfl
            case hf42 => kernel_rfl
            case hr42 => kernel_rfl
            case hg42 => rfl
            case hy42 => (intro w hSw; first | (go_simp; done) | (go_simp; with_reducible rfl))
            case hQ42 => exact fun _ _ _ h => h
            try simp only [Act.put, List.setIfInBounds_toArray, List.set_cons_zero, List.set_cons_succ]
            refine wpAnyH_take (i := 6) (oi := ?oi43) (v := ?v43) ?hi43 ?hs43 ?hf43 ?hr43 ?hQ43 (Or.inl ⟨?hg43, ?hy43⟩) hHeld ?rest43
            case hi43 => simp only [List.getElem?_toArray, List.getElem?_cons_succ, List.getElem?_cons_zero]; rfl
            case hs43 => kernel_rfl
            case hf43 => kernel_rfl
            case hr43 => kernel_rfl
            case hg43 => rfl
            case hy43 => (intro w hSw; first | (go_simp; done) | (go_simp; with_reducible rfl))
            case hQ43 => exact fun _ _ _ h => h
            try simp only [Act.put, List.setIfInBounds_toArray, List.set_cons_zero, List.set_cons_succ]
            refine wpAnyH_ready (rs := [5]) (by kernel_rfl) (by simp) ?_
            refine AllReadyH.cons (o := ?oi44) ?hi44 (fun K hK => ?_) AllReadyH.nil
            case hi44 => simp only [List.getElem?_toArray, List.getElem?_cons_succ, List.getElem?_cons_zero]; rfl
            go_simp; go_at_call 124; refine (base_any p _ (by omega)).mono ?_; rintro e w8 ⟨rfl, rfl⟩; go_wp2_with fail
            refine hK.out _ _ ((World.grownBy.refl _ _)) (fun hHeld2 => ?_)
            clear hK K hHeld
            have hHeld := hHeld2
            clear hHeld2
            try simp only [Act.put, List.setIfInBounds_toArray, List.set_cons_zero, List.set_cons_succ]
            refine wpAnyH_ready (rs := [7]) (by kernel_rfl) (by simp) ?_
            refine AllReadyH.cons (o := ?oi45) ?hi45 (fun K hK => ?_) AllReadyH.nil
            case hi45 => simp only [List.getElem?_toArray, List.getElem?_cons_succ, List.getElem?_cons_zero]; rfl
            refine step_mapUpdate rfl 109 (.tmp 107) (.tmp 109) (.tmp 110) rfl rfl rfl rfl hput ?_
            refine hK.out _ _ (hgd2) (fun hHeld2 => ?_)
            clear hK K hHeld
            have hHeld := hHeld2
            clear hHeld2
            try simp only [Act.put, List.setIfInBounds_toArray, List.set_cons_zero, List.set_cons_succ]
            refine wpAnyH_done (by kernel_rfl) ?_ _
            clear hHeld hgd2 hput m11d
            go_wp2_with fail
            go_ret
            rw [K.out]
            exact ⟨rfl, act_move HOO.out T7.out R7.out.1 R7.out.2 O7.out⟩
  · have K := Lib.hid (show X = (le, S) by
      rw [← HX2.out]
      obtain ⟨ra2, rb2⟩ := r2
      cases ro with
      | none => rfl
      | some i => exact if_pos h0)
    have e1 : (le != 0) = true := by simpa using h0
    clear h0 HX2
    go_wp2_with fail
    go_ret
    rw [K.out]
    exact ⟨rfl, act_same HS.out B3.out⟩
end Go.Proofs.YtlbbehfbjbbckaaGreatDoor

/-! An act, plainly; what it does to a tree. -/
set_option linter.unusedVariables false
set_option linter.unusedSimpArgs false
namespace Go.Proofs.YtlbbehfbjbbckaaGreatDoor
open Go.RowKit

structure Ac where
  act : Int
  path : ByteArray
  dst : ByteArray
  dA : Option Addr
  dn : Nat
  dc : Nat
  data : List UInt8
  m : Mt
def encA (a : Ac) : List Value := [.int .i64 a.act, .string a.path, .string a.dst, .slice a.dA a.dn a.dc, .int .i64 a.m.m0, .int .i64 a.m.m1, .int .i64 a.m.m2, .int .i64 a.m.m3, .int .i64 a.m.m4]
def aggA (a : Ac) : Value := .agg #[.int .i64 a.act, .string a.path, .string a.dst, .slice a.dA a.dn a.dc, .int .i64 a.m.m0, .int .i64 a.m.m1, .int .i64 a.m.m2, .int .i64 a.m.m3, .int .i64 a.m.m4]
def encAs (l : List Ac) : List Value := l.flatMap encA
theorem encAs_at : ∀ {L : List Ac} {i : Nat} {x : Ac}, L[i]? = some x → ∀ j v, (encA x)[j]? = some v → (encAs L)[i * 9 + j]? = some v
  | [], _, _, h, _, _, _ => by simp at h
  | a :: L, 0, x, h, j, v, hj => by
    simp only [List.getElem?_cons_zero, Option.some.injEq] at h
    subst h
    have hl : j < (encA a).length := (List.getElem?_eq_some_iff.1 hj).1
    rw [encAs, List.flatMap_cons, List.getElem?_append_left (by omega)]
    rw [show 0 * 9 + j = j by omega]; exact hj
  | a :: L, i+1, x, h, j, v, hj => by
    simp only [List.getElem?_cons_succ] at h
    have hl : (encA a).length = 9 := rfl
    rw [encAs, List.flatMap_cons, List.getElem?_append_right (by rw [hl]; omega)]
    rw [show (i + 1) * 9 + j - (encA a).length = i * 9 + j by rw [hl]; omega]
    exact encAs_at h j v hj
def St.doA (S : St) (a : Ac) : Int × St :=
  if a.act = 0 then S.mkdir a.path.data.toList a.m
  else if a.act = 1 then S.write a.path.data.toList a.data a.m
  else if a.act = 2 then S.symlink a.path.data.toList a.dst a.m
  else if a.act = 3 then S.link a.path.data.toList a.dst.data.toList
  else if a.act = 4 then S.remove a.path.data.toList
  else if a.act = 5 then S.rename a.path.data.toList a.dst.data.toList
  else if a.act = 6 then S.set a.path.data.toList a.m
  else if a.act = 7 then S.append a.path.data.toList a.data
  else (0, S)
def St.acts (S : St) : List Ac → St
  | [] => S
  | a :: l => (S.doA a).2.acts l
theorem St.acts_snoc (S : St) : ∀ (l : List Ac) (a : Ac), S.acts (l ++ [a]) = ((S.acts l).doA a).2 := by
  intro l
  induction l generalizing S with
  | nil => intro a; rfl
  | cons x l ih => intro a; exact ih (S.doA x).2 a
/-- Few things come with an act. -/
def Gr (S : St) (r : Int × St) : Prop := S.next ≤ r.2.next ∧ r.2.next ≤ S.next + 1 ∧ r.2.ls.length ≤ S.ls.length + 1
theorem Gr.ite {S : St} {c : Prop} [Decidable c] {x y : Int × St} (hx : Gr S x) (hy : Gr S y) : Gr S (if c then x else y) := by
  split
  · exact hx
  · exact hy
theorem Gr.same (S : St) (e : Int) (S' : St) (h1 : S'.next = S.next) (h2 : S'.ls.length ≤ S.ls.length + 1) : Gr S (e, S') := ⟨Int.le_of_eq h1.symm, by show S'.next ≤ _; omega, h2⟩
theorem Gr.refl (S : St) (e : Int) : Gr S (e, S) := Gr.same S e S rfl (Nat.le_succ _)
theorem Gr.add (S : St) (e : Int) (p : List UInt8) (t : Th) : Gr S (e, S.add p t) := by
  refine ⟨?_, ?_, ?_⟩
  · show S.next ≤ S.next + 1; omega
  · show S.next + 1 ≤ S.next + 1; omega
  · show (S.ls ++ [(p, S.next)]).length ≤ _; simp
theorem moved_len (S : St) (o p : List UInt8) : (S.moved o p).ls.length = S.ls.length := List.length_map ..
theorem doA_grow (S : St) (a : Ac) : Gr S (S.doA a) := by
  unfold St.doA
  refine Gr.ite ?_ (Gr.ite ?_ (Gr.ite ?_ (Gr.ite ?_ (Gr.ite ?_ (Gr.ite ?_ (Gr.ite ?_ (Gr.ite ?_ (Gr.refl S 0))))))))
  · exact Gr.ite (Gr.refl S _) (Gr.ite (Gr.refl S _) (Gr.add S _ _ _))
  · unfold St.write
    refine Gr.ite (Gr.refl S _) (Gr.ite (Gr.refl S _) (Gr.ite (Gr.refl S _) ?_))
    cases (S.look a.path.data.toList).1 with
    | none => exact Gr.add S _ _ _
    | some i => exact Gr.ite (Gr.refl S _) (Gr.same S _ _ rfl (Nat.le_succ _))
  · exact Gr.ite (Gr.refl S _) (Gr.ite (Gr.refl S _) (Gr.ite (Gr.refl S _) (Gr.ite (Gr.refl S _) (Gr.add S _ _ _))))
  · unfold St.link
    refine Gr.ite (Gr.refl S _) ?_
    generalize thereS (S.look a.path.data.toList) = r
    obtain ⟨o, e⟩ := r
    cases o with
    | none => exact Gr.refl S _
    | some i => exact Gr.ite (Gr.refl S _) (Gr.ite (Gr.refl S _) (Gr.ite (Gr.refl S _) (Gr.same S _ _ rfl (by simp))))
  · unfold St.remove
    refine Gr.ite (Gr.refl S _) (Gr.ite (Gr.refl S _) ?_)
    generalize thereS (S.look a.path.data.toList) = r
    obtain ⟨o, e⟩ := r
    cases o with
    | none => exact Gr.refl S _
    | some i => exact Gr.ite (Gr.refl S _) (Gr.ite (Gr.refl S _) (Gr.same S _ _ rfl (Nat.le_succ_of_le (List.length_filter_le _ _))))
  · unfold St.rename
    refine Gr.ite (Gr.refl S _) (Gr.ite (Gr.refl S _) ?_)
    generalize thereS (S.look a.path.data.toList) = r
    generalize S.look a.dst.data.toList = r2
    obtain ⟨o, e⟩ := r
    obtain ⟨o2, e2⟩ := r2
    cases o with
    | none => exact Gr.refl S _
    | some i =>
      refine Gr.ite (Gr.refl S _) (Gr.ite (Gr.refl S _) (Gr.ite (Gr.refl S _) ?_))
      cases o2 with
      | some j => exact Gr.ite (Gr.refl S _) (Gr.ite (Gr.refl S _) (Gr.ite (Gr.refl S _) (Gr.same S _ _ rfl (by rw [moved_len]; exact Nat.le_succ_of_le (List.length_filter_le _ _)))))
      | none => exact Gr.ite (Gr.refl S _) (Gr.same S _ _ rfl (by rw [moved_len]; exact Nat.le_succ _))
  · unfold St.set
    refine Gr.ite (Gr.refl S _) ?_
    generalize thereS (S.look a.path.data.toList) = r
    obtain ⟨o, e⟩ := r
    cases o with
    | none => exact Gr.refl S _
    | some i => exact Gr.ite (Gr.refl S _) (Gr.same S _ _ rfl (Nat.le_succ _))
  · unfold St.append
    generalize thereS (S.look a.path.data.toList) = r
    obtain ⟨o, e⟩ := r
    cases o with
    | none => exact Gr.refl S _
    | some i => exact Gr.ite (Gr.refl S _) (Gr.ite (Gr.refl S _) (Gr.ite (Gr.refl S _) (Gr.same S _ _ rfl (Nat.le_succ _))))
theorem act_cells {w : World} {g : Nat} {T : TypeId} {a : Ac} (h : Blk w g T (encA a)) : w.cell? ⟨g, 0, none⟩ = some (.int .i64 a.act) ∧ w.cell? ⟨g, 1, none⟩ = some (.string a.path) ∧ w.cell? ⟨g, 2, none⟩ = some (.string a.dst) ∧ w.cell? ⟨g, 3, none⟩ = some (.slice a.dA a.dn a.dc) ∧ w.cell? ⟨g, 4, none⟩ = some (.int .i64 a.m.m0) ∧ w.cell? ⟨g, 5, none⟩ = some (.int .i64 a.m.m1) ∧ w.cell? ⟨g, 6, none⟩ = some (.int .i64 a.m.m2) ∧ w.cell? ⟨g, 7, none⟩ = some (.int .i64 a.m.m3) ∧ w.cell? ⟨g, 8, none⟩ = some (.int .i64 a.m.m4) :=
  ⟨h.cell 0, h.cell 1, h.cell 2, h.cell 3, h.cell 4, h.cell 5, h.cell 6, h.cell 7, h.cell 8⟩
theorem act_from {w wa w' : World} {t c : Nat} {S : St} {O : Nat → Prop} (hb : Below w.heap.size w wa) (h : ActPost wa w' t c S O) : ActPost w w' t c S O := by
  obtain ⟨O', h1, h2, h3⟩ := h
  exact ⟨O', h1, (Only.of hb).trans h2, fun k hk => (h3 k hk).imp id (fun g => Nat.le_trans hb.size g)⟩
end Go.Proofs.YtlbbehfbjbbckaaGreatDoor
