import Derived.Test.YtlbbehfbjbbckaaDoorUg
import Derived.Test.YtlbbehfbjbbckaaDoorUc
import Derived.Test.YtlbbehfbjbbckaaDoorUb
import Derived.Sort.OwnSorted
import Derived.Maps.RangeWalk
/-! Another name of a file: the program's Link. -/
set_option linter.unusedVariables false
set_option linter.unusedSimpArgs false
namespace Go.Proofs.YtlbbehfbjbbckaaDoor
open Go.RowKit

theorem relN_set {N : Nat → Option Nd} {d k : Nat} {b : List UInt8} {v : Option Nat} {n : Int} {x1 : Nd} (h : kidN N d b v k = some x1) : relN N d b v k n = setN (kidN N d b v) k { x1 with links := x1.links + n } := by
  funext i
  unfold relN setN
  by_cases hi : i = k
  · subst hi; rw [h, if_pos rfl]; simp
  · rw [if_neg hi]
    simp only [if_neg hi]
    cases kidN N d b v i <;> rfl
theorem heldT_rel {t d k0 : Nat} {N : Nat → Option Nd} {b : List UInt8} {v : Option Nat} {n : Int} : ∀ k, k = t ∨ heldT (relN N d b v k0 n) k → k = t ∨ heldT N k := by
  have key : ∀ i m', relN N d b v k0 n i = some m' → ∃ m, N i = some m ∧ m'.dA = m.dA ∧ m'.kb = m.kb := fun i m' h => by
    unfold relN at h
    cases hm : kidN N d b v i with
    | none => rw [hm] at h; cases h
    | some m1 =>
      rw [hm] at h
      obtain ⟨m, hm0, _, e1, _, _, _, e2, _⟩ := kidN_some hm
      simp only [Option.map_some, Option.some.injEq] at h
      subst h
      split <;> exact ⟨m, hm0, e1, e2⟩
  rintro k (rfl | ⟨m, hi⟩ | ⟨i, m, a, hi, ha, rfl⟩ | ⟨i, m, hi, hk⟩)
  · exact .inl rfl
  · obtain ⟨m0, h1, _⟩ := key _ _ hi; exact .inr (.inl ⟨m0, h1⟩)
  · obtain ⟨m0, h1, h2, _⟩ := key _ _ hi; exact .inr (.inr (.inl ⟨i, m0, a, h1, by rw [← h2]; exact ha, rfl⟩))
  · obtain ⟨m0, h1, _, h2⟩ := key _ _ hi; exact .inr (.inr (.inr ⟨i, m0, h1, by rw [← h2]; exact hk⟩))
theorem act_rel {w w' : World} {t top c d k : Nat} {S' : St} {N : Nat → Option Nd} {b : List UInt8} {v : Option Nat} {n : Int} {O : Nat → Prop} (hO : ∀ k, k = t ∨ heldT N k → O k) (hT : TreeAt w' t top S'.next (c + 1) (relN N d b v k n)) (hR : Rep (relN N d b v k n) top S') (ho : OkS S') (hw : Only (ownT t N) w w') : ActPost w w' t c S' O :=
  ⟨O, ⟨top, _, hT, hR, ho, fun j hj => hO j (heldT_rel j hj)⟩, hw.mono (fun j _ hj => hO j (ownT_held hj)), fun j hj => .inl hj⟩
theorem links_bound {N : Nat → Option Nd} {top : Nat} {S : St} (h : Rep N top S) {k : Nat} {x : Nd} (hk : N k = some x) : 0 ≤ x.links ∧ x.links ≤ (S.ls.length : Int) := by
  rw [h.links k x hk]
  have := List.countP_le_length (p := fun y : List UInt8 × Int => y.2 == x.ino) (l := S.ls)
  omega
theorem link_err (S : St) (old p : List UInt8) (h : (S.link old p).1 ≠ 0) : (S.link old p).2 = S := by
  unfold St.link at h ⊢
  by_cases a : rightB old = false ∨ rightB p = false
  · rw [if_pos a]
  rw [if_neg a] at h ⊢
  unfold linkR at h ⊢
  generalize thereS (S.look old) = r at *
  obtain ⟨o, e⟩ := r
  cases o with
  | none => rfl
  | some i =>
    simp only at h ⊢
    by_cases a : e ≠ 0
    · rw [if_pos a]
    rw [if_neg a] at h ⊢
    by_cases b : fileU (S.th i).kind ≠ 0
    · rw [if_pos b]
    rw [if_neg b] at h ⊢
    by_cases c : freshS (S.look p) ≠ 0
    · rw [if_pos c]
    · rw [if_neg c] at h; exact absurd rfl h
set_option maxRecDepth 100000 in
set_option maxHeartbeats 8000000 in
theorem LinkS_any (t c : Nat) (S : St) (O : Nat → Prop) (old p : ByteArray) (w : World) (h : TreeS w t c S O) (hp0 : old.size ≤ 2097152) (hp : p.size ≤ 2097152) (hc : c ≤ 1099511627776) (hls : S.ls.length ≤ 1099511627776) :
    Calls Tryd.prog 46 #[.pointer (some ⟨t, 0, none⟩), .string old, .string p] w fun e w' => e = .returned (.int .i64 (S.link old.data.toList p.data.toList).1) ∧ ActPost w w' t c (S.link old.data.toList p.data.toList).2 O := by
  have HS := Lib.hid h
  obtain ⟨top, N, hT, hR, ho, hO⟩ := h
  obtain ⟨X, hX⟩ : ∃ X, S.link old.data.toList p.data.toList = X := ⟨_, rfl⟩
  have HX : Hid ((if rightB old.data.toList = false ∨ rightB p.data.toList = false then ((9 : Int), S) else linkR S p.data.toList (freshS (S.look p.data.toList)) (thereS (S.look old.data.toList))) = X) := Lib.hid hX
  rw [hX]
  have HR1 := Lib.hid (fun w => right_any old _ w rfl hp0)
  have HR2 := Lib.hid (fun w => right_any p _ w rfl hp)
  have HF := Lib.hid (fun w (h : TreeAt w t top S.next c N) => there_any t top c S.next N old w h hp0)
  have HFR := Lib.hid (fun w (h : TreeAt w t top S.next c N) => fresh_any t top c S.next N p w h hp)
  have HTH := Lib.hid (hR.thereR ho old.data.toList)
  have HFE := Lib.hid (hR.fresh ho p.data.toList)
  have HT := Lib.hid hT
  have HRP := Lib.hid hR
  have HOK := Lib.hid ho
  have HOO := Lib.hid hO
  have HIN := Lib.hid (fun k x (hk : N k = some x) => hR.info k x hk)
  clear hX hT hR ho hO
  obtain ⟨r, hr⟩ : ∃ r, thereS (S.look old.data.toList) = r := ⟨_, rfl⟩
  obtain ⟨l, hl⟩ : ∃ l, thereU (lookN N top old.data.toList) = l := ⟨_, rfl⟩
  have HTA := Lib.hid (fun i (h : r = (some i, 0)) => there_at HOK.out (hr.trans h))
  rw [hr] at HX HTH
  rw [hl] at HF HTH
  clear hr hl
  obtain ⟨fe, hfe⟩ : ∃ fe, freshS (S.look p.data.toList) = fe := ⟨_, rfl⟩
  have HFS := Lib.hid hfe
  rw [hfe] at HX HFE
  clear hfe
  generalize rightB old.data.toList = r1 at *
  generalize hr2 : rightB p.data.toList = r2 at *
  go_enter Tryd.func46, Tryd.ntmps46
  go_wp2_with fail
  refine (HR1.out w).mono ?_
  rintro e w1 ⟨rfl, hb1⟩
  have B1 := Lib.hid hb1
  have T1 := Lib.hid (HT.out.below hb1)
  clear hb1 HR1 HT
  cases r1 with
  | false =>
    have K := Lib.hid (show X = ((9 : Int), S) by rw [← HX.out]; exact if_pos (.inl rfl))
    go_wp2_with fail
    go_ret
    rw [K.out]
    exact ⟨rfl, act_same HS.out B1.out⟩
  | true =>
  go_wp2_with fail
  refine (HR2.out w1).mono ?_
  rintro e w2 ⟨rfl, hb2⟩
  have B2 := Lib.hid (B1.out.trans (hb2.mono B1.out.size))
  have T2 := Lib.hid (T1.out.below hb2)
  clear hb2 HR2 T1 B1
  cases r2 with
  | false =>
    have K := Lib.hid (show X = ((9 : Int), S) by rw [← HX.out]; exact if_pos (.inr rfl))
    go_wp2_with fail
    go_ret
    rw [K.out]
    exact ⟨rfl, act_same HS.out B2.out⟩
  | true =>
  have HX1 := Lib.hid (show linkR S p.data.toList fe r = X by rw [← HX.out]; exact (if_neg (by simp)).symm)
  clear HX
  go_wp2_with fail
  refine (HF.out w2 T2.out).mono ?_
  rintro e w3 ⟨rfl, hb3⟩
  have B3 := Lib.hid (B2.out.trans (hb3.mono B2.out.size))
  have T3 := Lib.hid (T2.out.below hb3)
  clear hb3 HF T2 B2
  obtain ⟨lo, ld, le⟩ := l
  obtain ⟨ro, re⟩ := r
  obtain rfl : le = re := HTH.out.err
  unfold tupL
  rcases Classical.em (le = 0) with h0 | h0
  · subst h0
    obtain ⟨k, x, e1, hk, e2⟩ := HTH.out.found rfl
    obtain rfl : lo = some k := e1
    obtain rfl : ro = some x.ino := e2
    have hth := HIN.out k x hk
    have HX2 := Lib.hid (show (if fileU x.kind ≠ 0 then (fileU x.kind, S) else if fe ≠ 0 then (fe, S) else ((0 : Int), { S with ls := S.ls ++ [(p.data.toList, x.ino)] })) = X by
      have h := HX1.out
      unfold linkR at h
      simp only [ne_eq, not_true_eq_false, if_false] at h
      rw [← h, hth]; rfl)
    have HK := Lib.hid hk
    have HFI := Lib.hid (file_any k x w3 (T3.out.node k x hk))
    rw [show ptrO (some k) = .pointer (some ⟨k, 0, none⟩) from rfl]
    unfold ptrN at HFI
    clear hk HX1 HTH hth
    go_wp2_with fail
    refine HFI.out.mono ?_
    rintro e w4 ⟨rfl, rfl⟩
    rcases Classical.em (fileU x.kind = 0) with hf | hf
    · have HX3 := Lib.hid (show (if fe ≠ 0 then (fe, S) else ((0 : Int), { S with ls := S.ls ++ [(p.data.toList, x.ino)] })) = X by have h := HX2.out; rwa [if_neg (show ¬ fileU x.kind ≠ 0 from fun h => h hf)] at h)
      have q1 : (fileU x.kind != 0) = false := by simpa using hf
      have HFF := Lib.hid hf
      clear hf HX2
      go_wp2_with fail
      refine (HFR.out _ T3.out).mono ?_
      rintro e w5 ⟨rfl, hb5⟩
      have B5 := Lib.hid (B3.out.trans (hb5.mono B3.out.size))
      have T5 := Lib.hid (T3.out.below hb5)
      clear hb5 HFR T3 B3
      rw [HFE.out]
      by_cases hfe0 : fe = 0
      · have K := Lib.hid (show X = ((0 : Int), { S with ls := S.ls ++ [(p.data.toList, x.ino)] }) by rw [← HX3.out]; exact if_neg (fun h => h hfe0))
        have hF2 : (freshU (lookN N top p.data.toList)).2 = 0 := HFE.out.trans hfe0
        obtain ⟨d, md, b, hlk, hd, hkb, hfr⟩ := look_dir T5.out hF2 (fun e => fresh_nil (N := N) (top := top) (by rw [e] at hF2; exact hF2))
        rw [hfr]
        obtain ⟨_, _, _, md', hd', hmk, hmb⟩ := lookN_fresh hlk
        obtain rfl : md = md' := by rw [hd] at hd'; exact Option.some.inj hd'
        have hkk : x.kind ≠ 2 := fun e => by have := HFF.out; unfold fileU at this; rw [if_pos e] at this; cases this
        have hat := (HTA.out x.ino rfl).1
        have hk1 : (S.th x.ino).kind = 1 := by
          have hx3 : x.kind ≠ 3 := fun e => by have := HFF.out; unfold fileU at this; rw [if_neg hkk, if_pos e] at this; cases this
          have h := HOK.out.kind _ ((HOK.out.at_iff _ _).1 hat)
          simp only [HIN.out k x HK.out] at h ⊢
          rcases h with h | h | h
          · exact h
          · exact absurd h hkk
          · exact absurd h hx3
        have hSl : S.look p.data.toList = (none, 0) := by
          obtain ⟨h1, h2⟩ := HRP.out.look HOK.out p.data.toList
          rw [hlk] at h1 h2
          exact Prod.ext ((h1.none_iff).1 rfl) h2.symm
        have hdk : k ≠ d := fun e => by
          have hk := HK.out
          rw [e, hd, Option.some.injEq] at hk
          exact hkk (by rw [← hk]; exact hmk)
        obtain ⟨hl0, hl1⟩ := links_bound HRP.out HK.out
        have hR6 := HRP.out.link HOK.out hlk HK.out hkk
        have ho6 := HOK.out.link hSl ⟨_, hat⟩ hk1
        have hM := T5.out.kids d md b hd hkb
        have hbs : (str (baseB p.data.toList)).size ≤ maxLen := by
          rw [size_toList]
          have := baseB_len p.data.toList
          have h2 : p.data.toList.length = p.size := Array.length_toList
          unfold maxLen; omega
        obtain ⟨w6, hput, hm6, hg6⟩ := (hM.drewN 1).put Tryd.underlying66 (by unfold maxLen; omega) hbs (.pointer (some ⟨k, 0, none⟩))
        have hst : (str (baseB p.data.toList)).data.toList = baseB p.data.toList := by simp [str]
        rw [hst] at hm6
        have hg6' : w5.grownBy w6 (some b) := ⟨hg6.os, hg6.tape, hg6.output, hg6.size, hg6.block⟩
        have T6 := Lib.hid (T5.out.kid (c' := c + 1) (s := baseB p.data.toList) (v := some k) hd hkb (Nat.le_succ c) (by
          have hfe : (fun y => (kidsSet md.kids (baseB p.data.toList) (some k) y).map ptrN) = updM (fun y => (md.kids y).map ptrN) (baseB p.data.toList) (ptrN k) := funext fun y => by
            unfold kidsSet updM
            by_cases hy : y = baseB p.data.toList
            · rw [if_pos hy, if_pos hy]; rfl
            · rw [if_neg hy, if_neg hy]
          rw [hfe]; exact hm6) hg6' (fun j hj => by cases hj; exact ⟨x, HK.out⟩))
        have hk6 : kidN N d (baseB p.data.toList) (some k) k = some x := by rw [kidN_old _ _ hdk]; exact HK.out
        have Y6 := Lib.hid (T6.out.node k x hk6)
        have O6 := Lib.hid (Only.trans (Only.of (P := ownT t N) B5.out) ((Only.grown (P := fun j => j = b) hg6' rfl).mono (fun j _ hj => by subst hj; exact .inr (.inr ⟨d, md, hd, hkb⟩))))
        have y3 := Y6.out.cell 3
        have y3f := Y6.out.frozen 3
        simp only [encN, List.getElem?_cons_zero, List.getElem?_cons_succ] at y3
        have hput : (Instr.mapUpdate 66 (.map (some b)) (.string (str (baseB p.data.toList))) (.pointer (some ⟨k, 0, none⟩))).run Tryd.prog w5.drew = .ok () w6 := hput
        have hgd : w5.drew.grownBy w6 (some b) := hg6
        obtain ⟨_, _, _, _, _, _, _, _, _, _, _, n11⟩ := node_cells (T5.out.node d md hd)
        rw [hkb] at n11
        have n11d : w5.drew.cell? ⟨d, 11, none⟩ = some (.map (some b)) := n11
        have hdb : some d ≠ some b := fun e => hM.ne (T5.out.node d md hd) (by cases e; rfl)
        have e1 : (fe != 0) = false := by simpa using hfe0
        have hov : IntKind.i64.wrap (x.links + 1) = x.links + 1 := by rw [IntKind.wrap_i64]; omega
        have R6 := Lib.hid (And.intro hR6 ho6)
        have HK6 := Lib.hid hk6
        rw [ptrO_some]
        unfold ptrN
        clear hM hbs hm6 hg6 hg6' hst hd hkb n11 hR6 ho6 hk1 hSl hkk hat hlk hfr hF2 hfe0 HX3 hl0 hl1 hk6 hd' hmk hmb
        go_wp2_with fail
        refine wp_region_held_drew (S := (fun w' => w5.drew.grownBy w' (some b))) (by kernel_rfl) (World.grownBy.refl _ _) (fun hHeld => ?_)
        refine wpAnyH_take (i := 0) (oi := ?oi1) (v := ?v1) ?hi1 ?hs1 ?hf1 ?hr1 ?hQ1 (Or.inl ⟨?hg1, ?hy1⟩) hHeld ?rest1
        case hi1 => simp only [List.getElem?_toArray, List.getElem?_cons_succ, List.getElem?_cons_zero]; rfl
        case hs1 => kernel_rfl
        case hf1 => kernel_rfl
        case hr1 => kernel_rfl
        case hg1 => rfl
        case hy1 => (intro w hSw; first | (go_simp; done) | (go_simp; with_reducible rfl))
        case hQ1 => exact fun _ _ _ h => h
        try simp only [Act.put, List.setIfInBounds_toArray, List.set_cons_zero, List.set_cons_succ]
        refine wpAnyH_take (i := 1) (oi := ?oi2) (v := ?v2) ?hi2 ?hs2 ?hf2 ?hr2 ?hQ2 (Or.inl ⟨?hg2, ?hy2⟩) hHeld ?rest2
        case hi2 => simp only [List.getElem?_toArray, List.getElem?_cons_succ, List.getElem?_cons_zero]; rfl
        case hs2 => kernel_rfl
        case hf2 => kernel_rfl
        case hr2 => kernel_rfl
        case hg2 => rfl
        case hy2 => (intro w hSw; first | (go_simp; done) | (go_simp; with_reducible rfl))
        case hQ2 => exact fun _ _ _ h => h
        try simp only [Act.put, List.setIfInBounds_toArray, List.set_cons_zero, List.set_cons_succ]
        refine wpAnyH_take (i := 2) (oi := ?oi3) (v := ?v3) ?hi3 ?hs3 ?hf3 ?hr3 ?hQ3 (Or.inl ⟨?hg3, ?hy3⟩) hHeld ?rest3
        case hi3 => simp only [List.getElem?_toArray, List.getElem?_cons_succ, List.getElem?_cons_zero]; rfl
        case hs3 => kernel_rfl
        case hf3 => kernel_rfl
        case hr3 => kernel_rfl
        case hg3 => rfl
        case hy3 => (intro w hSw; first | (go_simp; done) | (go_simp; with_reducible rfl))
        case hQ3 => exact fun _ _ _ h => h
        try simp only [Act.put, List.setIfInBounds_toArray, List.set_cons_zero, List.set_cons_succ]
        refine wpAnyH_take (i := 3) (oi := ?oi4) (v := ?v4) ?hi4 ?hs4 ?hf4 ?hr4 ?hQ4 (Or.inl ⟨?hg4, ?hy4⟩) hHeld ?rest4
        case hi4 => simp only [List.getElem?_toArray, List.getElem?_cons_succ, List.getElem?_cons_zero]; rfl
        case hs4 => kernel_rfl
        case hf4 => kernel_rfl
        case hr4 => kernel_rfl
        case hg4 => rfl
        case hy4 => (intro w hSw; have x0 := World.grownBy.cell hSw n11d hdb; first | (go_simp; done) | (go_simp; with_reducible rfl))
        case hQ4 => exact fun _ _ _ h => h
        try simp only [Act.put, List.setIfInBounds_toArray, List.set_cons_zero, List.set_cons_succ]
        refine wpAnyH_take (i := 4) (oi := ?oi5) (v := ?v5) ?hi5 ?hs5 ?hf5 ?hr5 ?hQ5 (Or.inl ⟨?hg5, ?hy5⟩) hHeld ?rest5
        case hi5 => simp only [List.getElem?_toArray, List.getElem?_cons_succ, List.getElem?_cons_zero]; rfl
        case hs5 => kernel_rfl
        case hf5 => kernel_rfl
        case hr5 => kernel_rfl
        case hg5 => rfl
        case hy5 => (intro w hSw; first | (go_simp; done) | (go_simp; with_reducible rfl))
        case hQ5 => exact fun _ _ _ h => h
        try simp only [Act.put, List.setIfInBounds_toArray, List.set_cons_zero, List.set_cons_succ]
        refine wpAnyH_take (i := 6) (oi := ?oi6) (v := ?v6) ?hi6 ?hs6 ?hf6 ?hr6 ?hQ6 (Or.inl ⟨?hg6, ?hy6⟩) hHeld ?rest6
        case hi6 => simp only [List.getElem?_toArray, List.getElem?_cons_succ, List.getElem?_cons_zero]; rfl
        case hs6 => kernel_rfl
        case hf6 => kernel_rfl
        case hr6 => kernel_rfl
        case hg6 => rfl
        case hy6 => (intro w hSw; first | (go_simp; done) | (go_simp; with_reducible rfl))
        case hQ6 => exact fun _ _ _ h => h
        try simp only [Act.put, List.setIfInBounds_toArray, List.set_cons_zero, List.set_cons_succ]
        refine wpAnyH_ready (rs := [5]) (by kernel_rfl) (by simp) ?_
        refine AllReadyH.cons (o := ?oi7) ?hi7 (fun K hK => ?_) AllReadyH.nil
        case hi7 => simp only [List.getElem?_toArray, List.getElem?_cons_succ, List.getElem?_cons_zero]; rfl
        go_simp; go_at_call 55; refine (base_any p _ (by omega)).mono ?_; rintro e w7 ⟨rfl, rfl⟩; go_wp2_with fail
        refine hK.out _ _ ((World.grownBy.refl _ _)) (fun hHeld2 => ?_)
        clear hK K hHeld
        have hHeld := hHeld2
        clear hHeld2
        try simp only [Act.put, List.setIfInBounds_toArray, List.set_cons_zero, List.set_cons_succ]
        refine wpAnyH_ready (rs := [7]) (by kernel_rfl) (by simp) ?_
        refine AllReadyH.cons (o := ?oi8) ?hi8 (fun K hK => ?_) AllReadyH.nil
        case hi8 => simp only [List.getElem?_toArray, List.getElem?_cons_succ, List.getElem?_cons_zero]; rfl
        refine step_mapUpdate rfl 66 (.tmp 49) (.tmp 51) (.tmp 52) rfl rfl rfl rfl hput ?_
        refine hK.out _ _ (hgd) (fun hHeld2 => ?_)
        clear hK K hHeld
        have hHeld := hHeld2
        clear hHeld2
        try simp only [Act.put, List.setIfInBounds_toArray, List.set_cons_zero, List.set_cons_succ]
        refine wpAnyH_done (by kernel_rfl) ?_ _
        clear hHeld hgd hput n11d
        go_wp2_with fail
        go_ret
        have W9 := Y6.out.set 3 (.int .i64 (x.links + 1))
        have hh9 : ∀ j, j ≠ k → (w6.setCell ⟨k, 3, none⟩ (.int .i64 (x.links + 1))).heap[j]? = w6.heap[j]? := fun j hj => Below.heap_setCell _ _ _ _ hj
        have T9 := T6.out.reset HK6.out { x with links := x.links + 1 } rfl rfl rfl W9 (BytesAt.only (T6.out.data k x HK6.out) hh9 Y6.out) (T6.out.room k x HK6.out) (fun j _ hj => hh9 j hj)
        rw [← relN_set HK6.out] at T9
        have O9 : Only (ownT t N) w _ := O6.out.trans ((Only.set (P := fun j => j = k) w6 ⟨k, 3, none⟩ (.int .i64 (x.links + 1)) rfl).mono (fun j _ hj => by subst hj; exact .inr (.inl ⟨x, HK.out⟩)))
        rw [K.out]
        exact ⟨rfl, act_rel HOO.out T9 R6.out.1 R6.out.2 O9⟩
      · have K := Lib.hid (show X = (fe, S) by rw [← HX3.out]; exact if_pos hfe0)
        have e1 : (fe != 0) = true := by simpa using hfe0
        clear hfe0 HX3
        go_wp2_with fail
        go_ret
        rw [K.out]
        exact ⟨rfl, act_same HS.out B5.out⟩
    · have K := Lib.hid (show X = (fileU x.kind, S) by rw [← HX2.out, if_pos hf])
      have q1 : (fileU x.kind != 0) = true := by simpa using hf
      clear hf HX2
      go_wp2_with fail
      go_ret
      rw [K.out]
      exact ⟨rfl, act_same HS.out B3.out⟩
  · have K := Lib.hid (show X = (le, S) by
      rw [← HX1.out]
      cases ro with
      | none => rfl
      | some i => exact if_pos h0)
    have e1 : (le != 0) = true := by simpa using h0
    clear h0 HX1
    go_wp2_with fail
    go_ret
    rw [K.out]
    exact ⟨rfl, act_same HS.out B3.out⟩
end Go.Proofs.YtlbbehfbjbbckaaDoor

/-! A name goes: the program's out, Remove. -/
set_option linter.unusedVariables false
set_option linter.unusedSimpArgs false
namespace Go.Proofs.YtlbbehfbjbbckaaDoor
open Go.RowKit

theorem wpList_delete_run {P : Program} {w w' : World} {ops : Array Oper} {rest : List Oper} {o : Oper} {a : Act} {Q : Exit → Act → World → Prop} (hgd : o.guard = none) (s x : Operand) (t u : TypeId)
    (ho : o.op = .call { callee := .builtin .delete, args := #[s, x], argTypes := #[t, u] }) {v sv xv : Value} (hs : a.eval s = sv) (hx : a.eval x = xv)
    (hr : (Builtin.delete_ #[t, u] o.type #[sv, xv]).run P w = .ok v w')
    (h : wpList P ops Q rest (a.put o.dst v) w') : wpList P ops Q (o :: rest) a w :=
  wpList_plain hgd fun _ hK => by
    unfold Oper.wp execOp
    simp only [ho, resolve, invoke, builtin, Sem.run_bind, Sem.run_pure, Result.andThen_ok, List.map_toArray, List.map_cons, List.map_nil, hs, hx, hr]
    exact hK _ _ h
theorem step_delete_run {P : Program} {w w' : World} {ops : Array Oper} {o : Oper} {a : Act} {K : Act → World → Prop} {Q : Exit → Act → World → Prop} {E : Prop} (hgd : o.guard = none) (s x : Operand) (t u : TypeId)
    (ho : o.op = .call { callee := .builtin .delete, args := #[s, x], argTypes := #[t, u] }) {v sv xv : Value} (hs : a.eval s = sv) (hx : a.eval x = xv)
    (hr : (Builtin.delete_ #[t, u] o.type #[sv, xv]).run P w = .ok v w')
    (h : K (a.put o.dst v) w') :
    if Region.wanted o (yielded ops a.tmps) = true then Oper.wp P o a w K Q else E := by
  have hw : Region.wanted o (yielded ops a.tmps) = true := by simp [Region.wanted, hgd]
  rw [if_pos hw]
  unfold Oper.wp execOp
  simp only [ho, resolve, invoke, builtin, Sem.run_bind, Sem.run_pure, Result.andThen_ok, List.map_toArray, List.map_cons, List.map_nil, hs, hx, hr]
  exact h
theorem kidN_setN {N : Nat → Option Nd} {d k : Nat} {s : List UInt8} {v : Option Nat} {x1 : Nd} (h : k ≠ d) : kidN (setN N k x1) d s v = setN (kidN N d s v) k x1 := by
  funext i
  unfold kidN setN
  by_cases hi : i = k
  · subst hi; simp [h]
  · by_cases hd : i = d
    · subst hd; simp [hi]
    · simp [hi, hd]
theorem delM_set {k : List UInt8 → Option Nat} {s : List UInt8} : (fun y => (kidsSet k s none y).map ptrN) = delM (fun y => (k y).map ptrN) s := funext fun y => by
  unfold kidsSet delM
  by_cases hy : y = s
  · rw [if_pos hy, if_pos hy]; rfl
  · rw [if_neg hy, if_neg hy]
theorem base_size (p : ByteArray) (hp : p.size ≤ 2097152) : (str (baseB p.data.toList)).size ≤ maxLen := by
  rw [size_toList]
  have := baseB_len p.data.toList
  have h2 : p.data.toList.length = p.size := Array.length_toList
  unfold maxLen; omega
set_option maxRecDepth 100000 in
set_option maxHeartbeats 4000000 in
theorem out_any (t top c d b : Nat) (next : Int) (N : Nat → Option Nd) (m : Nd) (p : ByteArray) (k : Nat) (x : Nd) (w : World) (h : TreeAt w t top next c N) (hd : N d = some m) (hkb : m.kb = some b) (hkid : m.kids (baseB p.data.toList) = some k) (hk : N k = some x) (hdk : k ≠ d) (hp : p.size ≤ 2097152)
    (hl0 : -1099511627776 ≤ x.links) (hl1 : x.links ≤ 1099511627776) :
    Calls Tryd.prog 62 #[ptrN d, .string p] w fun e w' => e = .returned (.tuple #[]) ∧ TreeAt w' t top next c (relN N d (baseB p.data.toList) none k (-1)) ∧ Only (fun j => j = k ∨ j = b) w w' := by
  have hx := h.node k x hk
  have hM := h.kids d m b hd hkb
  have hbs := base_size p hp
  have hst : (str (baseB p.data.toList)).data.toList = baseB p.data.toList := by simp [str]
  have hlk := hM.look Tryd.underlying66 (ptrZero _) (s := str (baseB p.data.toList)) hbs
  rw [hst, hkid] at hlk
  replace hlk : (Instr.lookup 66 (.map (some b)) (.string (str (baseB p.data.toList))) false).run Tryd.prog w = .ok (.pointer (some ⟨k, 0, none⟩)) w := hlk
  obtain ⟨_, _, _, x3, _⟩ := node_cells hx
  have f3 := hx.frozen 3
  obtain ⟨_, _, _, _, _, _, _, _, _, _, _, n11⟩ := node_cells (h.node d m hd)
  rw [hkb] at n11
  have hh9 : ∀ j, j ≠ k → (w.setCell ⟨k, 3, none⟩ (.int .i64 (x.links + -1))).heap[j]? = w.heap[j]? := fun j hj => Below.heap_setCell _ _ _ _ hj
  have T1 := h.reset hk { x with links := x.links + -1 } rfl rfl rfl (hx.set 3 (.int .i64 (x.links + -1))) (BytesAt.only (h.data k x hk) hh9 hx) (h.room k x hk) (fun j _ hj => hh9 j hj)
  have hd1 : setN N k { x with links := x.links + -1 } d = some m := by rw [setN_other _ (fun e => hdk e.symm)]; exact hd
  have hM1 := T1.kids d m b hd1 hkb
  obtain ⟨w2, hdrop, hm2, hg2⟩ := hM1.drop Tryd.underlying66 hbs 0
  rw [hst, ← delM_set] at hm2
  have T2 := Lib.hid (T1.kid hd1 hkb (Nat.le_refl c) hm2 hg2 (fun j hj => by cases hj))
  have HE := Lib.hid (show kidN (setN N k { x with links := x.links + -1 }) d (baseB p.data.toList) none = relN N d (baseB p.data.toList) none k (-1) by
    rw [kidN_setN hdk]
    exact (relN_set (show kidN N d (baseB p.data.toList) none k = some x by rw [kidN_old _ _ hdk]; exact hk)).symm)
  have O2 := Lib.hid ((Only.set (P := fun j => j = k ∨ j = b) w ⟨k, 3, none⟩ (.int .i64 (x.links + -1)) (.inl rfl)).trans (Only.grown hg2 (.inr rfl)))
  obtain ⟨_, _, _, _, _, _, _, _, _, _, _, n11'⟩ := node_cells (T1.node d m hd1)
  rw [hkb] at n11'
  have hov : IntKind.i64.wrap (x.links - 1) = x.links + -1 := by rw [IntKind.wrap_i64]; omega
  clear hx hM hM1 T1 h hd hkb hkid hk hd1 hm2 hg2 hh9
  unfold ptrN
  go_enter Tryd.func62, Tryd.ntmps62
  go_wp2_with fail
  refine (base_any p w (by omega)).mono ?_
  rintro e w1 ⟨rfl, rfl⟩
  go_wp2_with (first | (refine wpList_delete_run rfl (.tmp 28) (.tmp 29) 66 9 rfl rfl rfl hdrop ?_) | fail)
  go_end0
  exact ⟨rfl, by rw [← HE.out]; exact T2.out, O2.out⟩
end Go.Proofs.YtlbbehfbjbbckaaDoor

/-! A name goes: the program's Remove. -/
set_option linter.unusedVariables false
set_option linter.unusedSimpArgs false
namespace Go.Proofs.YtlbbehfbjbbckaaDoor
open Go.RowKit

theorem there_look {l : Option Nat × Option Nat × Int} {k : Nat} {d : Option Nat} (h : thereU l = (some k, d, 0)) : l = (some k, d, 0) := by
  unfold thereU at h
  split at h
  · have := congrArg (fun x : Option Nat × Option Nat × Int => x.2.2) h
    simp at this
  · exact h
theorem look_has {N : Nat → Option Nd} {top : Nat} {p : List UInt8} {k : Nat} {d : Option Nat} (h : lookN N top p = (some k, d, 0)) (hp : p ≠ []) : ∃ d', d = some d' := by
  unfold lookN at h
  by_cases h1 : rightB p = false
  · rw [if_pos h1] at h; simp at h
  rw [if_neg h1, if_neg hp] at h
  cases hd : atN N (some top) (splitB (parentB p)) with
  | none => rw [hd] at h; simp at h
  | some d' =>
    rw [hd] at h
    cases hm : N d' with
    | none => simp only [hm] at h; simp at h
    | some m =>
      simp only [hm] at h
      split at h
      · simp only [Prod.mk.injEq, and_true] at h
        exact ⟨d', h.2.symm⟩
      · simp at h
theorem Rep.mem {N : Nat → Option Nd} {top : Nat} {S : St} (h : Rep N top S) (ho : OkS S) {y : List UInt8 × Int} (hy : y ∈ S.ls) : ∃ j n, atN N (some top) (splitB y.1) = some j ∧ N j = some n ∧ n.ino = y.2 := by
  have h1 := h.rep y.1 (ho.right y hy)
  rw [(ho.at_iff y.1 y.2).2 hy] at h1
  cases hj : atN N (some top) (splitB y.1) with
  | none => rw [hj] at h1; exact absurd h1 (by simp [SameO])
  | some j =>
    rw [hj] at h1
    obtain ⟨n, h2, h3⟩ := h1
    exact ⟨j, n, rfl, h2, h3⟩
theorem parent_of {q p s : List UInt8} {Y : List (List UInt8)} (hq : rightB q = true) (h : splitB q = splitB p ++ [s]) : q ≠ [] ∧ parentB q = p ∧ baseB q = s := by
  have hne : q ≠ [] := fun e => by rw [e, splitB_nil] at h; simp at h
  have := split_parent hne hq
  rw [h] at this
  have h2 := List.append_inj' this rfl
  exact ⟨hne, (splitB_inj h2.1).symm, (List.singleton_inj.1 h2.2).symm⟩
theorem Rep.hasIn {N : Nat → Option Nd} {top k : Nat} {S : St} {p : List UInt8} {x : Nd} (h : Rep N top S) (ho : OkS S) (hp : atN N (some top) (splitB p) = some k) (hk : N k = some x) : S.hasIn p = true ↔ ∃ s j, x.kids s = some j := by
  unfold St.hasIn
  rw [List.any_eq_true]
  constructor
  · rintro ⟨y, hy, hc⟩
    simp only [Bool.and_eq_true, bne_iff_ne, ne_eq, beq_iff_eq] at hc
    obtain ⟨j, n, h1, _, _⟩ := h.mem ho hy
    have := Rep.parent hc.1 (ho.right y hy) (N := N) (top := top) (d := k) (n := x) (by rw [hc.2]; exact hp) hk
    exact ⟨baseB y.1, j, by rw [← this]; exact h1⟩
  · rintro ⟨s, j, hj⟩
    have h1 : atN N (some top) (splitB p ++ [s]) = some j := by rw [atN_append, hp, atN_one hk]; exact hj
    obtain ⟨q, hq, hs⟩ := h.only _ _ h1
    have h2 := h.rep q hq
    rw [hs, h1] at h2
    obtain ⟨n, h3, h4⟩ := h2.some
    obtain ⟨h5, h6, _⟩ := parent_of (Y := []) hq hs
    exact ⟨(q, n.ino), (ho.at_iff _ _).1 h4, by simp [h5, h6]⟩
theorem KidsN.zero {n : Nd} {k : Nat} (h : KidsN n k) : k = 0 ↔ ∀ s, n.kids s = none := by
  obtain ⟨ks, h1, h2, rfl⟩ := h
  constructor
  · intro h s
    have : ks = [] := List.eq_nil_of_length_eq_zero h
    subst this
    cases hs : n.kids s with
    | none => rfl
    | some j => have := (h2 s).2 (by rw [hs]; rfl); cases this
  · intro h
    cases ks with
    | nil => rfl
    | cons a l => have := (h2 a).1 (List.mem_cons_self ..); rw [h a] at this; cases this
theorem OkS.gone {S : St} (h : OkS S) {p : List UInt8} (hp : p ≠ []) (hn : S.hasIn p = false) : OkS { S with ls := S.ls.filter (fun y => y.1 != p) } := by
  have hsub : ∀ x, x ∈ S.ls.filter (fun y => y.1 != p) ↔ x ∈ S.ls ∧ x.1 ≠ p := fun x => by rw [List.mem_filter]; simp
  have hnd : (S.ls.filter (fun y => y.1 != p)).Pairwise (fun x y => x.1 ≠ y.1) := h.nodup.filter _
  have hat : ∀ q e, q ≠ p → S.at q = some e → ({ S with ls := S.ls.filter (fun y => y.1 != p) } : St).at q = some e := fun q e hq he =>
    mem_lookup hnd ((hsub (q, e)).2 ⟨(h.at_iff q e).1 he, hq⟩)
  refine ⟨hnd, fun x hx => h.right x ((hsub x).1 hx).1, hat _ _ (fun e => hp e.symm) h.top, fun x hx => h.lt x ((hsub x).1 hx).1, fun x hx y hy => h.one x ((hsub x).1 hx).1 y ((hsub y).1 hy).1, fun x hx => h.kind x ((hsub x).1 hx).1, h.kind1, h.tgt, fun x hx hne => ?_⟩
  obtain ⟨d, h1, h2⟩ := h.up x ((hsub x).1 hx).1 hne
  refine ⟨d, hat _ _ (fun e => ?_) h1, h2⟩
  have : S.hasIn p = true := by
    unfold St.hasIn
    rw [List.any_eq_true]
    exact ⟨x, ((hsub x).1 hx).1, by simp [hne, e]⟩
  rw [hn] at this; cases this
set_option maxRecDepth 100000 in
set_option maxHeartbeats 8000000 in
theorem RemoveS_any (t c : Nat) (S : St) (O : Nat → Prop) (p : ByteArray) (w : World) (h : TreeS w t c S O) (hp : p.size ≤ 2097152) (hls : S.ls.length ≤ 1099511627776) (hc : c ≤ 1099511627776) :
    Calls Tryd.prog 47 #[.pointer (some ⟨t, 0, none⟩), .string p] w fun e w' => e = .returned (.int .i64 (S.remove p.data.toList).1) ∧ ActPost w w' t c (S.remove p.data.toList).2 O := by
  have HS := Lib.hid h
  obtain ⟨top, N, hT, hR, ho, hO⟩ := h
  obtain ⟨X, hX⟩ : ∃ X, S.remove p.data.toList = X := ⟨_, rfl⟩
  have HX : Hid ((if rightB p.data.toList = false then ((9 : Int), S) else if p.data.toList = [] then (2, S) else removeR S p.data.toList (thereS (S.look p.data.toList))) = X) := Lib.hid hX
  rw [hX]
  have HR1 := Lib.hid (fun w => right_any p _ w rfl hp)
  have HF := Lib.hid (fun w (h : TreeAt w t top S.next c N) => there_any t top c S.next N p w h hp)
  have HTH := Lib.hid (hR.thereR ho p.data.toList)
  have HT := Lib.hid hT
  have HRP := Lib.hid hR
  have HOK := Lib.hid ho
  have HOO := Lib.hid hO
  clear hX hT hR ho hO
  obtain ⟨r, hr⟩ : ∃ r, thereS (S.look p.data.toList) = r := ⟨_, rfl⟩
  obtain ⟨l, hl⟩ : ∃ l, thereU (lookN N top p.data.toList) = l := ⟨_, rfl⟩
  have HLL := Lib.hid (fun k d (h : l = (some k, d, 0)) => there_look (hl.trans h))
  rw [hr] at HX HTH
  rw [hl] at HF HTH
  clear hr hl
  generalize hrb : rightB p.data.toList = r1 at *
  go_enter Tryd.func47, Tryd.ntmps47
  go_wp2_with fail
  refine (HR1.out w).mono ?_
  rintro e w1 ⟨rfl, hb1⟩
  have B1 := Lib.hid hb1
  have T1 := Lib.hid (HT.out.below hb1)
  clear hb1 HR1 HT
  cases r1 with
  | false =>
    have K := Lib.hid (show X = ((9 : Int), S) by rw [← HX.out]; exact if_pos rfl)
    go_wp2_with fail
    go_ret
    rw [K.out]
    exact ⟨rfl, act_same HS.out B1.out⟩
  | true =>
  have HX0 := Lib.hid (show (if p.data.toList = [] then ((2 : Int), S) else removeR S p.data.toList r) = X from HX.out)
  clear HX
  by_cases hz : p.size = 0
  · obtain rfl : p = ⟨#[]⟩ := ByteArray.ext (Array.size_eq_zero_iff.1 hz)
    have K := Lib.hid (show X = ((2 : Int), S) by rw [← HX0.out]; rfl)
    clear hz
    go_wp2_with fail
    go_ret
    rw [K.out]
    exact ⟨rfl, act_same HS.out B1.out⟩
  have hnil := nil_toList p hz
  have hne : p.data.toList ≠ [] := fun e => hz (by have : p.data.toList.length = 0 := by rw [e]; rfl
                                                   rwa [Array.length_toList] at this)
  have HNE := Lib.hid hne
  have HX1 := Lib.hid (show removeR S p.data.toList r = X by rw [← HX0.out, if_neg hne])
  clear HX0 hz hne
  go_wp2_with fail
  refine (HF.out w1 T1.out).mono ?_
  rintro e w3 ⟨rfl, hb3⟩
  have B3 := Lib.hid (B1.out.trans (hb3.mono B1.out.size))
  have T3 := Lib.hid (T1.out.below hb3)
  clear hb3 HF T1 B1
  obtain ⟨lo, ld, le⟩ := l
  obtain ⟨ro, re⟩ := r
  obtain rfl : le = re := HTH.out.err
  unfold tupL
  rcases Classical.em (le = 0) with h0 | h0
  · subst h0
    obtain ⟨k, x, e1, hk, e2⟩ := HTH.out.found rfl
    obtain rfl : lo = some k := e1
    obtain rfl : ro = some x.ino := e2
    have hlk := HLL.out k ld rfl
    obtain ⟨d, rfl⟩ := look_has hlk HNE.out
    obtain ⟨hr, _, hD, m, hd, hmk, hmb⟩ := lookN_fresh hlk
    have hatp : atN N (some top) (splitB p.data.toList) = some k := by rw [Rep.parent HNE.out hr hD hd, hmb]
    have hin := HRP.out.hasIn HOK.out hatp hk
    have HX2 := Lib.hid (show (if S.hasIn p.data.toList = true then ((14 : Int), S) else (0, { S with ls := S.ls.filter (fun y => y.1 != p.data.toList) })) = X by
      have h := HX1.out
      unfold removeR at h
      simp only [ne_eq, not_true_eq_false, if_false] at h
      exact h)
    obtain ⟨kk, hkk, hkc, hlen⟩ := T3.out.klen hk
    have hlen := hlen 3
    obtain ⟨_, _, _, _, _, _, _, _, _, _, _, n11⟩ := node_cells (T3.out.node k x hk)
    rw [show ptrO (some k) = .pointer (some ⟨k, 0, none⟩) from rfl, ptrO_some]
    rcases Nat.eq_zero_or_pos kk with hk0 | hk0
    · have hnk := (KidsN.zero hkk).1 hk0
      have hnin : S.hasIn p.data.toList = false := by
        cases hq : S.hasIn p.data.toList with
        | false => rfl
        | true => obtain ⟨s, j, hj⟩ := hin.1 hq; rw [hnk s] at hj; cases hj
      have K := Lib.hid (show X = ((0 : Int), { S with ls := S.ls.filter (fun y => y.1 != p.data.toList) }) by rw [← HX2.out, hnin]; rfl)
      have hdk : k ≠ d := fun e => by
        rw [e, hd, Option.some.injEq] at hk
        rw [hk, hnk] at hmb; cases hmb
      obtain ⟨b, hb⟩ : ∃ b, m.kb = some b := by
        cases hq : m.kb with
        | none => exact absurd hq (T3.out.dirs d m hd hmk)
        | some b => exact ⟨b, rfl⟩
      obtain ⟨hl0, hl1⟩ := links_bound HRP.out hk
      have hR6 := HRP.out.gone HOK.out hlk hk hnk
      have ho6 := HOK.out.gone HNE.out hnin
      have HOU := Lib.hid (out_any t top c d b S.next N m p k x w3 T3.out hd hb hmb hk hdk hp (by omega) (by omega))
      have R6 := Lib.hid (And.intro hR6 ho6)
      have HOW := Lib.hid (show ∀ j, (j = k ∨ j = b) → ownT t N j from fun j hj => hj.elim (fun e => .inr (.inl ⟨x, by rw [e]; exact hk⟩)) (fun e => .inr (.inr ⟨d, m, hd, by rw [e]; exact hb⟩)))
      subst hk0
      have q1 : ¬ (0 : Int) < ((0 : Nat) : Int) := by omega
      clear hR6 ho6 hnk hnin hdk hb hl0 hl1 hk hd hmk hmb hD hatp hin HX2 HX1 hlk hkk hkc HTH
      unfold ptrN
      go_wp2_with fail
      refine HOU.out.mono ?_
      rintro e w6 ⟨rfl, hT6, hO6⟩
      have T6 := Lib.hid hT6
      have O6 := Lib.hid (Only.trans (Only.of (P := ownT t N) B3.out) (hO6.mono (fun j _ hj => HOW.out j hj)))
      clear hT6 hO6 HOU
      go_wp2_with fail
      go_ret
      rw [K.out]
      exact ⟨rfl, act_rel HOO.out (T6.out.mono (Nat.le_succ c)) R6.out.1 R6.out.2 O6.out⟩
    · have hyes : S.hasIn p.data.toList = true := by
        refine hin.2 ?_
        apply Classical.byContradiction
        intro hno
        have : kk = 0 := (KidsN.zero hkk).2 (fun s => by
          cases hs : x.kids s with
          | none => rfl
          | some j => exact absurd ⟨s, j, hs⟩ hno)
        omega
      have K := Lib.hid (show X = ((14 : Int), S) by rw [← HX2.out, hyes]; rfl)
      have q1 : (0 : Int) < (kk : Int) := by omega
      have q2 : decide ((0 : Int) < (kk : Int)) = true := decide_eq_true q1
      have q3 : 0 < kk := hk0
      clear hyes hk hd hmk hmb hD hatp hin HX2 HX1 hlk hkk hkc HTH hk0
      go_wp2_with fail
      go_ret
      rw [K.out]
      exact ⟨rfl, act_same HS.out B3.out⟩
  · have K := Lib.hid (show X = (le, S) by
      rw [← HX1.out]
      cases ro with
      | none => rfl
      | some i => exact if_pos h0)
    have e1 : (le != 0) = true := by simpa using h0
    clear h0 HX1
    go_wp2_with fail
    go_ret
    rw [K.out]
    exact ⟨rfl, act_same HS.out B3.out⟩
end Go.Proofs.YtlbbehfbjbbckaaDoor

/-! The names of what stands in a directory, rising: the program's names. -/
set_option linter.unusedVariables false
set_option linter.unusedSimpArgs false
namespace Go.Proofs.YtlbbehfbjbbckaaDoor
open Go.RowKit
open Go.Maps (Keyed string_keyed)
open Go.Sort

/-- All names in a directory, each once, rising. -/
structure NamesL (n : Nd) (ks : List (List UInt8)) : Prop where
  nodup : ks.Nodup
  mem : ∀ x, x ∈ ks ↔ (n.kids x).isSome = true
  sorted : ks.Pairwise (fun a b => leB a b = true)
theorem NamesL.same {n : Nd} {a b : List (List UInt8)} (h : NamesL n a) (k : NamesL n b) : a = b := by
  refine List.Perm.eq_of_pairwise (le := fun a b => leB a b = true) (fun a b _ _ h1 h2 => ?_) h.sorted k.sorted ((List.perm_ext_iff_of_nodup h.nodup k.nodup).2 fun x => (h.mem x).trans (k.mem x).symm)
  simp only [leB, decide_eq_true_eq] at h1 h2
  exact List.le_antisymm h1 h2
theorem sorted_mergeSort (l : List (List UInt8)) : (l.mergeSort leB).Pairwise (fun a b => leB a b = true) :=
  List.pairwise_mergeSort (fun a b c h1 h2 => by simp only [leB, decide_eq_true_eq] at *; exact List.le_trans h1 h2) (fun a b => by simp only [leB, Bool.or_eq_true, decide_eq_true_eq]; exact List.le_total a b) l
theorem map_data {w : World} {b n : Nat} {f : List UInt8 → Option Value} (h : MapAt w b n f) : ∃ D : DataW Value, w.ownsMap Tryd.prog 9 heldR b n D ∧ (∀ x, x ∈ strKeys D ↔ (f x).isSome = true) ∧ Maps.size D ≤ n := by
  obtain ⟨D, hown, hm, h2⟩ := h
  obtain ⟨es, hD, hpw, _⟩ := hown.entries strLaw
  obtain ⟨es', hD', hko⟩ := hown.keysOf
  obtain rfl : es = es' := by rw [hD] at hD'; simpa using hD'
  have hk : ∀ p ∈ es, ∃ x, p.1 = .string x := fun p hp => by
    obtain ⟨v, hv⟩ := hko p hp
    obtain ⟨x, _, hx, _⟩ := Maps.keyOf_str Tryd.underlying9 hv
    exact ⟨x, hx⟩
  refine ⟨D, hown, fun x => ?_, hown.size_le⟩
  rw [← (h2 x).1]
  subst hD; exact strKeys_mem hk x
theorem strs_enc (l : List (List UInt8)) : l.map encStr = strs l := rfl
set_option maxRecDepth 100000 in
set_option maxHeartbeats 4000000 in
theorem names_any (t top c : Nat) (next : Int) (N : Nat → Option Nd) (i b : Nat) (n : Nd) (w : World) (h : TreeAt w t top next c N) (hi : N i = some n) (hkb : n.kb = some b) (hc : c ≤ 1099511627776) :
    Calls Tryd.prog 79 #[ptrN i] w fun e w' => (∃ A cap ks, e = .returned (.slice A ks.length cap) ∧ Sl 1 w' A ks.length (strs ks) ∧ NamesL n ks ∧ ∀ a, A = some a → w.heap.size ≤ a.block) ∧ Below w.heap.size w w' := by
  obtain ⟨i0, hi0, hz0, hz1, hz2⟩ := info_parts infoS
  have hM := h.kids i n b hi hkb
  obtain ⟨D0, hown, hmem, hsize⟩ := map_data hM
  have hbl := hM.lt
  have HN := Lib.hid (h.node i n hi)
  obtain ⟨_, _, _, _, _, _, _, _, _, _, _, n11⟩ := node_cells HN.out
  rw [hkb] at n11
  have HMEM := Lib.hid (show ∀ x, x ∈ strKeys D0 ↔ (n.kids x).isSome = true from fun x => (hmem x).trans (by simp))
  have HKB := Lib.hid hkb
  clear h hi hM hmem hkb
  unfold ptrN
  go_enter Tryd.func79, Tryd.ntmps79
  go_wp2_with (first
    | (at_len; refine wpList_len_own _ rfl _ 66 rfl 9 60 Tryd.underlying66 _ b c _ rfl hown ?_)
    | (at_make; refine wpList_make_own _ rfl _ _ 47 rfl w.heap.size 9 i0 (.string ⟨#[]⟩) 1 Tryd.underlying47 hi0 hz0 hz1 _ _ _ (Maps.size D0) rfl rfl rfl (by rw [hz2]; omega) (by unfold maxLen; omega) (Nat.le_refl _) ?_; intro w1 hrow1 hg1
       have n11' : w1.cell? ⟨i, 11, none⟩ = some (.map (some b)) := World.grownBy.cell hg1 n11 (by simp))
    | (at_range; refine wpList_range_own _ rfl _ 66 rfl 9 60 strLaw Tryd.underlying66 _ b c _ rfl (hown.kept hg1 (by simp)) ?_; intro w0 hrg0 hg0 hs0)
    | fail)
  go_frame
  go_loopw [3] (fun v wr => ∃ (left : Lit → Bool) (cnt : Nat) (ss : List (List UInt8)), wr.ranges Tryd.prog 9 heldR b w1.heap.size c D0 left cnt ∧ ss.length + cnt ≤ Maps.size D0 ∧
      wr.ownsRow w.heap.size 9 1 v ss.length (ss.map encStr) ∧ v ≠ .slice none 0 0 ∧ Collected D0 left ss ∧ Below w.heap.size w wr)
    (fun _ wr => wr.rangeLeft b w1.heap.size)
  case atStart =>
    exact ⟨_, _, [], hrg0, by simp, hrow1.kept hg0 (Or.inr (by simp [Value.ownBlock])), by simp, Collected.start D0,
      ((Below.refl _ _).grown hg1 (Nat.le_refl _) (fun j hj => by cases hj)).grown hg0 hg1.size (fun j hj => by cases hj)⟩
  case round =>
    obtain ⟨left, cnt, ss, hrg, hcs, hrow, hnn, hC, hnx⟩ := hrel
    go_wp2_with (first
      | (at_next; refine wpList_next_ranges _ rfl _ rfl 9 strLaw heldR encStr (fun v : Value => v) (fun key kl hk => by obtain ⟨x, hx, _⟩ := Maps.keyOf_str Tryd.underlying9 hk; exact ⟨x, hx⟩) (fun v y hv => ⟨v, rfl⟩) b w1.heap.size c _ _ _ rfl hrg ?_ ?_)
      | fail)
    · intro hc0 hl0
      rcases hrow.2 with ⟨hnil, _⟩ | ⟨g, cap, cur, rfl, hbase, hb, h1, h2, h3, h4⟩
      · exact absurd hnil hnn
      have hH : Holds encStr wr g 0 ss.toArray := holds_of_block hb (by simpa using h4)
      have hgl : g < wr.heap.size := (Array.getElem?_eq_some_iff.1 hb).1
      have hcc := Tryd.sort_Strings g 0 cap ss wr hH hgl (by omega)
      go_wp2_with fail
      refine hcc.mono ?_
      rintro e w' ⟨rfl, nn, os, rfl⟩
      go_wp2_with fail
      go_ret
      refine ⟨?_, hnx.grown (grownBy_sorted _) hnx.size (fun j hj => by cases hj; exact hbase)⟩
      have hperm := hC.perm hown strLaw Tryd.underlying9 hl0
      have hlen : (ss.mergeSort leB).length = ss.length := List.length_mergeSort ss
      have hown' := ownsRow_sorted (n := nn) (os := os) (ts := ss.mergeSort leB) (by simp) hbase hb h1 h2 h3
      obtain ⟨A, cc, hv, hle, hsl, _, _⟩ := own_sl hown'
      cases hv
      refine ⟨some ⟨g, 0, none⟩, cap, ss.mergeSort leB, by rw [hlen]; rfl, by rw [hlen]; exact hsl, ⟨((List.mergeSort_perm ss leB).nodup_iff).2 hC.1, fun x => ?_, sorted_mergeSort ss⟩, fun a ha => by cases ha; exact hbase⟩
      rw [← HMEM.out x, (List.mergeSort_perm ss leB).mem_iff, hperm.mem_iff]
    · intro x cc kl yd yp w2 cnt2 hkey hlk hv hat hrg2 hlt hg2 hs2 hen
      obtain ⟨x', ex, rfl, _⟩ := Maps.keyOf_str Tryd.underlying9 hkey
      obtain rfl : x = x' := encStr_inj ex
      have hrow2 := hrow.kept hg2 (Or.inr (row_ne_iter hrow hrg).symm)
      clear hs2
      go_wp2_with (first
        | (at_builtin; refine wpList_append_own _ rfl _ _ 47 rfl w.heap.size 9 i0 (.string ⟨#[]⟩) 1 16 Tryd.underlying47 hi0 hz0 hz1 hz2 rfl (by decide) _ _ _ rfl (hrow2.alloc _) ⟨w2.heap.size, 0, none⟩ 1 1 [encStr x] rfl rfl (cell_one_new _ _ _) (by simp [Value.oneCell', encStr]) (by unfold maxLen at *; omega) (by omega) (by have := hnx.size; have := hg2.size; simp; omega) ?_; intro v' w3 hown' hg3 hnil3; go_frame)
        | fail)
      have hrg3 := (hrg2.alloc _).kept hg3 (row_ne_low hrow2 hbl) (row_ne_iter hrow2 hrg2)
      go_roundw
      case rel =>
        refine ⟨_, cnt2, ss ++ [x], hrg3, by simp; omega, by simpa using hown', fun hv' => by have := (hnil3.1 hv').2; omega, hC.step hlk hat, ?_⟩
        exact ((hnx.grown hg2 hnx.size (fun j hj => by cases hj; exact hg1.size)).alloc (by have := hnx.size; have := hg2.size; omega) _).grown hg3 (by have := hnx.size; have := hg2.size; simp; omega) (fun j hj => (hrow2.lt j hj).1)
      case measure => rw [hrg3.left_eq, hrg.left_eq]; exact hlt
end Go.Proofs.YtlbbehfbjbbckaaDoor

/-! All things below a directory are gone through: the program's each. -/
set_option linter.unusedVariables false
set_option linter.unusedSimpArgs false
namespace Go.Proofs.YtlbbehfbjbbckaaDoor
open Go.RowKit

open Classical in
noncomputable def ksN (n : Nd) : List (List UInt8) := if h : ∃ ks, NamesL n ks then Classical.choose h else []
theorem ksN_eq {n : Nd} {ks : List (List UInt8)} (h : NamesL n ks) : ksN n = ks := by
  unfold ksN
  rw [dif_pos ⟨ks, h⟩]
  exact (Classical.choose_spec (⟨ks, h⟩ : ∃ ks, NamesL n ks)).same h
def kbN (N : Nat → Option Nd) (k : Nat) : Bool := match N k with | some n => n.kb.isSome | none => false
/-- What is told of below a thing, in order, so deep. -/
noncomputable def eachL (N : Nat → Option Nd) : Nat → List UInt8 → Nat → List (List UInt8 × Nat)
  | 0, _, _ => []
  | f + 1, p, i => match N i with
    | none => []
    | some n => (ksN n).flatMap fun x => match n.kids x with
      | none => []
      | some k => (p ++ x, k) :: (if kbN N k = true then eachL N f (p ++ x ++ [47]) k else [])
noncomputable def itemL (N : Nat → Option Nd) (f : Nat) (p : List UInt8) (n : Nd) (x : List UInt8) : List (List UInt8 × Nat) :=
  match n.kids x with
  | none => []
  | some k => (p ++ x, k) :: (if kbN N k = true then eachL N f (p ++ x ++ [47]) k else [])
theorem eachL_succ {N : Nat → Option Nd} {f i : Nat} {p : List UInt8} {n : Nd} {ks : List (List UInt8)} (hi : N i = some n) (hk : NamesL n ks) : eachL N (f + 1) p i = ks.flatMap (itemL N f p n) := by
  rw [eachL, hi]
  simp only
  rw [ksN_eq hk]
  rfl
/-- So deep, and no deeper, with short names. -/
def Deep (N : Nat → Option Nd) : Nat → Nat → Prop
  | 0, i => ∀ s, kidsOf N i s = none
  | f + 1, i => ∀ s k, kidsOf N i s = some k → s.length ≤ 200 ∧ Deep N f k
theorem str_cat (p x : List UInt8) : str p ++ str x = str (p ++ x) := by simp [str, ByteArray.ext_iff]
theorem str_slash (p : List UInt8) : str p ++ (⟨#[47]⟩ : ByteArray) = str (p ++ [47]) := by simp [str, ByteArray.ext_iff]
theorem Sl.far {w w' : World} {A : Option Addr} {n : Nat} {l : List (List UInt8)} {P : Nat → Prop} (h : Sl 1 w A n (strs l)) (hA : ∀ a, A = some a → ¬ P a.block) (hw : Only P w w') : Sl 1 w' A n (strs l) :=
  ⟨h.len, h.max, by
    rcases h.at_ with h0 | ⟨b, o, rfl, hc⟩
    · exact .inl h0
    · exact .inr ⟨b, o, rfl, fun j v hj => (World.cell?_of_block (a := ⟨b, o + j, none⟩) (hw.block b (World.block_lt_of_cell? w _ (hc j v hj)) (hA _ rfl))).trans (hc j v hj)⟩⟩
theorem mapNeN (w : World) : (binOp BinOp.neq 66 (.map none) (.map none)).run Tryd.prog w = .ok (.bool false) w := by kernel_rfl
theorem mapNeS (k : Nat) (w : World) : (binOp BinOp.neq 66 (.map (some k)) (.map none)).run Tryd.prog w = .ok (.bool true) w := by kernel_rfl
theorem callF_enter {P : Program} {f : FuncId} {fn : Func} {c : Code} (hf : P.funcs[f]? = some fn) (hname : (fn.name == "runtime.NumGoroutine") = false) (hb : fn.body = some c) (args : Array Value) (w : World) :
    (callFunc f args).run P w = .ok (.enter f args) w := by
  have h1 : fn.name ≠ "runtime.NumGoroutine" := by simpa using hname
  simp [callFunc, hf, h1, hb]
/-- What a thing that is told of does: what has been told, the world. -/
structure Teller (t top c : Nat) (next : Int) (N : Nat → Option Nd) (F : Nat) (cv : Value) (C : Nat → Prop) (I : List (List UInt8 × Nat) → World → Prop) : Prop where
  tree : ∀ acc w, I acc w → TreeAt w t top next c N
  below : ∀ acc w w', I acc w → Below w.heap.size w w' → I acc w'
  enter : ∀ args w, (callFunc F args).run Tryd.prog w = .ok (.enter F args) w
  tell : ∀ acc w q k, I acc w → q.length ≤ 1000000 → (∃ n, N k = some n) → Calls Tryd.prog F #[.string (str q), ptrN k, cv] w fun e w' => e = .returned (.tuple #[]) ∧ I (acc ++ [(q, k)]) w' ∧ Only C w w'
set_option maxRecDepth 100000 in
set_option maxHeartbeats 8000000 in
theorem each_core (t top c : Nat) (next : Int) (N : Nat → Option Nd) (F : Nat) (cv : Value) (C : Nat → Prop) (I : List (List UInt8 × Nat) → World → Prop) (hI : Teller t top c next N F cv C I) (hc : c ≤ 1099511627776)
    (f i : Nat) (n : Nd) (p : List UInt8) (acc : List (List UInt8 × Nat)) (w : World) (hIw : I acc w) (hCw : ∀ k, C k → k < w.heap.size) (hi : N i = some n) (hkb : n.kb ≠ none) (hpl : p.length ≤ 900000)
    (hrec : ∀ s k, n.kids s = some k → s.length ≤ 200 ∧ ∀ (n' : Nd) (acc' : List (List UInt8 × Nat)) (w' : World), I acc' w' → (∀ k, C k → k < w'.heap.size) → N k = some n' → n'.kb ≠ none →
      Calls Tryd.prog 73 #[ptrN k, .string (str (p ++ s ++ [47])), .func (.func F) #[] #[cv]] w' fun e w'' => e = .returned (.tuple #[]) ∧ I (acc' ++ eachL N f (p ++ s ++ [47]) k) w'' ∧ Only C w' w'') :
    Calls Tryd.prog 73 #[ptrN i, .string (str p), .func (.func F) #[] #[cv]] w fun e w' => e = .returned (.tuple #[]) ∧ I (acc ++ eachL N (f + 1) p i) w' ∧ Only C w w' := by
  obtain ⟨b, hb⟩ : ∃ b, n.kb = some b := by
    cases hq : n.kb with
    | none => exact absurd hq hkb
    | some b => exact ⟨b, rfl⟩
  have HT := Lib.hid (hI.tree acc w hIw)
  have HII := Lib.hid hIw
  have HN := Lib.hid (names_any t top c next N i b n w HT.out hi hb hc)
  have HCC := Lib.hid hCw
  have HI0 := Lib.hid hi
  have HB := Lib.hid hb
  have HREC := Lib.hid hrec
  clear hIw hCw hi hkb hb hrec
  unfold ptrN at *
  go_enter Tryd.func73, Tryd.ntmps73
  go_wp2_with fail
  refine HN.out.mono ?_
  rintro e w1 ⟨⟨A, cap, ks, rfl, hsl, hks, hAlow⟩, hb1⟩
  have HKS := Lib.hid hks
  have HB1 := Lib.hid hb1
  have HSL := Lib.hid hsl
  have hnm := hsl.max
  have HAC := Lib.hid (show ∀ a, A = some a → ¬ C a.block from fun a ha hC => by have h1 := hAlow a ha; have h2 := HCC.out _ hC; omega)
  have HL := Lib.hid (eachL_succ (f := f) (p := p) HI0.out hks)
  clear hks hb1 hsl HN hAlow
  go_wp2_with fail
  go_loopw [12] (fun v wr => ∃ (j : Nat), v = .int .i64 j ∧ j ≤ ks.length ∧ I (acc ++ (ks.take j).flatMap (itemL N f p n)) wr ∧ Sl 1 wr A ks.length (strs ks) ∧ Only C w wr) (fun v _ => ks.length - (intOf v).toNat)
  case atStart => exact ⟨0, rfl, Nat.zero_le _, by rw [List.take_zero, List.flatMap_nil, List.append_nil]; exact hI.below _ _ _ HII.out HB1.out, HSL.out, Only.of HB1.out⟩
  case round =>
    obtain ⟨j, rfl, hj, hI1, hs1, hO1⟩ := hrel
    have I1 := Lib.hid hI1
    have S1 := Lib.hid hs1
    have O1 := Lib.hid hO1
    clear hI1 hs1 hO1
    rcases Nat.lt_or_ge j ks.length with h | h
    · obtain ⟨ab, ao, x, hA, hx, hcell⟩ := S1.out.strRow h
      have hin : (j : Int) < (ks.length : Int) := by omega
      have hov : IntKind.i64.wrap ((j : Nat) + 1 : Int) = (j : Nat) + 1 := by rw [IntKind.wrap_i64]; omega
      have hmem := (HKS.out.mem x).1 (List.mem_of_getElem? hx)
      obtain ⟨k, hk⟩ := Option.isSome_iff_exists.1 hmem
      obtain ⟨hxl, hrc⟩ := HREC.out x k hk
      have T1 := Lib.hid (hI.tree _ _ I1.out)
      obtain ⟨n', hn'⟩ := T1.out.closed i n x k HI0.out hk
      have HTK := Lib.hid (show (ks.take (j + 1)).flatMap (itemL N f p n) = (ks.take j).flatMap (itemL N f p n) ++ ((p ++ x, k) :: (if kbN N k = true then eachL N f (p ++ x ++ [47]) k else [])) by
        rw [take_snocS hx, List.flatMap_append]
        congr 1
        simp only [List.flatMap_cons, List.flatMap_nil, List.append_nil, itemL, hk])
      have hxs : (str x).size ≤ maxLen := by rw [size_toList]; unfold maxLen; omega
      have hlk := (T1.out.kids i n b HI0.out HB.out).look Tryd.underlying66 (ptrZero _) (s := str x) hxs
      have hst : (str x).data.toList = x := by simp [str]
      rw [hst, hk] at hlk
      replace hlk : (Instr.lookup 66 (.map (some b)) (.string (str x)) false).run Tryd.prog wr = .ok (.pointer (some ⟨k, 0, none⟩)) wr := hlk
      obtain ⟨_, _, _, _, _, _, _, _, _, _, _, n11⟩ := node_cells (T1.out.node i n HI0.out)
      rw [HB.out] at n11
      have z1 : ¬ 9223372036854775807 < (str p).size + (str x).size := by rw [size_toList, size_toList]; omega
      obtain ⟨q, hq⟩ : ∃ q, p ++ x = q := ⟨_, rfl⟩
      obtain ⟨q2, hq2⟩ : ∃ q2, q ++ [47] = q2 := ⟨_, rfl⟩
      have hql : q.length ≤ 900200 := by rw [← hq, List.length_append]; omega
      have hcat := str_cat p x
      rw [hq] at hcat
      have z2 : ¬ 9223372036854775807 < (str q).size + 1 := by rw [size_toList]; omega
      have hcat2 := str_slash q
      rw [hq2] at hcat2
      rw [hq, hq2] at hrc
      replace HTK := Lib.hid HTK.out
      rw [hq, hq2] at HTK
      obtain ⟨a1, ha1⟩ : ∃ a1, acc ++ (ks.take j).flatMap (itemL N f p n) = a1 := ⟨_, rfl⟩
      rw [ha1] at I1
      have HTL := Lib.hid (hI.tell _ wr q k I1.out (by omega) ⟨n', hn'⟩)
      have HTK2 := Lib.hid (show acc ++ (ks.take (j + 1)).flatMap (itemL N f p n) = a1 ++ ((q, k) :: (if kbN N k = true then eachL N f q2 k else [])) by rw [HTK.out, ← ha1, List.append_assoc])
      have HK := Lib.hid hk
      have HN' := Lib.hid hn'
      have HRC := Lib.hid hrc
      subst hA
      have hcf := hI.enter
      clear hx hmem hk hst hxs hn' hrc
      go_wp2_with fail
      refine HTL.out.mono ?_
      rintro e w2 ⟨rfl, hI2, hO2⟩
      have I2 := Lib.hid hI2
      have O2 := Lib.hid hO2
      have T2 := Lib.hid (hI.tree _ _ hI2)
      have S2 := Lib.hid (S1.out.far HAC.out hO2)
      obtain ⟨_, _, _, _, _, _, _, _, _, _, _, k11⟩ := node_cells (T2.out.node k n' HN'.out)
      clear hI2 hO2 hlk hcell
      cases hkb : n'.kb with
      | none =>
        rw [hkb] at k11
        have HKB := Lib.hid (show kbN N k = false by unfold kbN; rw [HN'.out]; simp only; rw [hkb]; rfl)
        have hme := mapNeN
        go_wp2_with fail
        go_roundw
        case rel =>
          refine ⟨j + 1, by go_num, by omega, ?_, S2.out, O1.out.trans O2.out⟩
          rw [HTK2.out, HKB.out]
          exact I2.out
        case measure => simp [intOf]; omega
      | some kk =>
        rw [hkb] at k11
        have HKB := Lib.hid (show kbN N k = true by unfold kbN; rw [HN'.out]; simp only; rw [hkb]; rfl)
        have hme := mapNeS kk
        have HR2 := Lib.hid (HRC.out n' _ w2 I2.out (fun q hq => Nat.lt_of_lt_of_le (HCC.out q hq) (Nat.le_trans O1.out.size O2.out.size)) HN'.out (by rw [hkb]; simp))
        unfold ptrN at HR2
        go_wp2_with fail
        refine HR2.out.mono ?_
        rintro e w3 ⟨rfl, hI3, hO3⟩
        have I3 := Lib.hid hI3
        have O3 := Lib.hid hO3
        have S3 := Lib.hid (S2.out.far HAC.out hO3)
        clear hI3 hO3
        go_wp2_with fail
        go_roundw
        case rel =>
          refine ⟨j + 1, by go_num, by omega, ?_, S3.out, (O1.out.trans O2.out).trans O3.out⟩
          rw [HTK2.out, HKB.out]
          have := I3.out
          rw [List.append_assoc] at this
          exact this
        case measure => simp [intOf]; omega
    · obtain rfl : j = ks.length := by omega
      have hin : ¬ ((ks.length : Int) < (ks.length : Int)) := by omega
      have K := Lib.hid (show I (acc ++ eachL N (f + 1) p i) wr by
        have := I1.out
        rw [List.take_of_length_le (Nat.le_refl _), ← HL.out] at this
        exact this)
      clear hj h
      go_wp2_with fail
      go_end0
      exact ⟨rfl, K.out, O1.out⟩
theorem each_any (t top c : Nat) (next : Int) (N : Nat → Option Nd) (F : Nat) (cv : Value) (C : Nat → Prop) (I : List (List UInt8 × Nat) → World → Prop) (hI : Teller t top c next N F cv C I) (hc : c ≤ 1099511627776) :
    ∀ (f i : Nat) (n : Nd) (p : List UInt8) (acc : List (List UInt8 × Nat)) (w : World), I acc w → (∀ k, C k → k < w.heap.size) → N i = some n → n.kb ≠ none → Deep N f i → p.length + 300 * f ≤ 900000 →
    Calls Tryd.prog 73 #[ptrN i, .string (str p), .func (.func F) #[] #[cv]] w fun e w' => e = .returned (.tuple #[]) ∧ I (acc ++ eachL N (f + 1) p i) w' ∧ Only C w w'
  | 0, i, n, p, acc, w, h1, h2, h3, h4, h5, h6 => each_core t top c next N F cv C I hI hc 0 i n p acc w h1 h2 h3 h4 (by omega) (fun s k hk => by
      have := h5 s
      rw [kidsOf_some h3, hk] at this; cases this)
  | f + 1, i, n, p, acc, w, h1, h2, h3, h4, h5, h6 => each_core t top c next N F cv C I hI hc (f + 1) i n p acc w h1 h2 h3 h4 (by omega) (fun s k hk => by
      obtain ⟨g1, g2⟩ := h5 s k (by rw [kidsOf_some h3]; exact hk)
      refine ⟨g1, fun n' acc' w' a1 a2 a3 a4 => each_any t top c next N F cv C I hI hc f k n' _ acc' w' a1 a2 a3 a4 g2 ?_⟩
      simp only [List.length_append, List.length_singleton]
      omega)
end Go.Proofs.YtlbbehfbjbbckaaDoor

/-! Whether all names below a directory stay paths: the program's fits. -/
set_option linter.unusedVariables false
set_option linter.unusedSimpArgs false
namespace Go.Proofs.YtlbbehfbjbbckaaDoor
open Go.RowKit

def rightAll (l : List (List UInt8 × Nat)) : Bool := l.all (fun x => rightB x.1)
theorem rightAll_snoc (l : List (List UInt8 × Nat)) (q : List UInt8) (k : Nat) : rightAll (l ++ [(q, k)]) = (rightAll l && rightB q) := by simp [rightAll]
theorem str_list (q : List UInt8) : (str q).data.toList = q := by simp [str]
set_option maxRecDepth 100000 in
set_option maxHeartbeats 1000000 in
theorem fits1_any (q : List UInt8) (v : Value) (g : Nat) (b : Bool) (w : World) (h : Blk w g 4 [.bool b]) (hq : q.length ≤ 1000000) :
    Calls Tryd.prog 74 #[.string (str q), v, .pointer (some ⟨g, 0, none⟩)] w fun e w' => e = .returned (.tuple #[]) ∧ Blk w' g 4 [.bool (b && rightB q)] ∧ Only (fun k => k = g) w w' := by
  have HB := Lib.hid h
  have c0 : w.cell? ⟨g, 0, none⟩ = some (.bool b) := h.cell 0
  have f0 : w.frozen? ⟨g, 0, none⟩ = false := h.frozen 0
  have HR := Lib.hid (right_any (str q) _ w rfl (by rw [size_toList]; omega))
  rw [str_list] at HR
  clear h
  cases b with
  | false =>
    go_enter Tryd.func74, Tryd.ntmps74
    go_wp2_with fail
    go_end0
    exact ⟨rfl, HB.out.set 0 _, Only.set (P := fun k => k = g) w ⟨g, 0, none⟩ _ rfl⟩
  | true =>
    go_enter Tryd.func74, Tryd.ntmps74
    go_wp2_with fail
    refine HR.out.mono ?_
    rintro e w1 ⟨rfl, hb1⟩
    have B1 := Lib.hid hb1
    have c1 : w1.cell? ⟨g, 0, none⟩ = some (.bool true) := (HB.out.below hb1).cell 0
    have f1 : w1.frozen? ⟨g, 0, none⟩ = false := (HB.out.below hb1).frozen 0
    clear hb1
    go_wp2_with fail
    go_end0
    exact ⟨rfl, (HB.out.below B1.out).set 0 _, (Only.of B1.out).trans (Only.set (P := fun k => k = g) w1 ⟨g, 0, none⟩ _ rfl)⟩
set_option maxRecDepth 100000 in
set_option maxHeartbeats 4000000 in
theorem fits_any (t top c : Nat) (next : Int) (N : Nat → Option Nd) (f i : Nat) (n : Nd) (p : ByteArray) (w : World) (h : TreeAt w t top next c N) (hi : N i = some n) (hkb : n.kb ≠ none) (hD : Deep N f i) (hf : f ≤ 100) (hp : p.size ≤ 100000) (hc : c ≤ 1099511627776) :
    Calls Tryd.prog 64 #[ptrN i, .string p] w fun e w' => e = .returned (.bool (rightAll (eachL N (f + 1) (p.data.toList ++ [47]) i))) ∧ Below w.heap.size w w' := by
  obtain ⟨pl, rfl⟩ : ∃ pl, p = str pl := ⟨p.data.toList, ByteArray.ext (by simp [str])⟩
  rw [str_list]
  rw [size_toList] at hp
  obtain ⟨q, hq⟩ : ∃ q, pl ++ [47] = q := ⟨_, rfl⟩
  have hql : q.length ≤ 100001 := by rw [← hq, List.length_append, List.length_singleton]; omega
  have hcat := str_slash pl
  have z2 : ¬ 9223372036854775807 < (str pl).size + 1 := by rw [size_toList]; omega
  rw [hq] at hcat ⊢
  have B0 := Lib.hid ((Below.refl w.heap.size w).alloc (Nat.le_refl _) (.cells #[.bool true] 4))
  have K0 := Lib.hid (Blk.new w 4 [.bool true])
  have hfe : ∀ args w, (callFunc 74 args).run Tryd.prog w = .ok (.enter 74 args) w := fun args w => callF_enter Tryd.func74 rfl rfl args w
  have HW := Lib.hid (each_any t top c next N 74 (.pointer (some ⟨w.heap.size, 0, none⟩)) (fun k => k = w.heap.size) (fun acc wr => Below w.heap.size w wr ∧ Blk wr w.heap.size 4 [.bool (rightAll acc)])
    ⟨fun acc wr g => h.below g.1, fun acc wr w' g hb => ⟨g.1.trans (hb.mono (Nat.le_of_lt g.2.lt)), g.2.below hb⟩, hfe, fun acc wr q k g hq hk => by
      refine (fits1_any q (ptrN k) w.heap.size (rightAll acc) wr g.2 hq).mono ?_
      rintro e w' ⟨rfl, hb, ho⟩
      rw [← rightAll_snoc _ _ k] at hb
      exact ⟨rfl, ⟨g.1.trans (ho.below (Nat.le_of_lt g.2.lt) (fun k e => Nat.le_of_eq e.symm)), hb⟩, ho⟩⟩ hc f i n q [] (w.alloc (.cells #[.bool true] 4)) ⟨B0.out, K0.out⟩ (fun k e => by subst e; exact K0.out.lt) hi hkb hD (by omega))
  have c0 : ∀ b, ((w.alloc (.cells #[.bool b] 4)).cell? ⟨w.heap.size, 0, none⟩) = some (.bool b) := fun b => (Blk.new w 4 [.bool b]).cell 0
  clear h hi hkb hD hq
  unfold ptrN at *
  go_enter Tryd.func64, Tryd.ntmps64
  go_wp2_with fail
  refine HW.out.mono ?_
  rintro e w1 ⟨rfl, ⟨hb1, hk1⟩, ho1⟩
  rw [List.nil_append] at hk1
  have c1 : w1.cell? ⟨w.heap.size, 0, none⟩ = some (.bool (rightAll (eachL N (f + 1) q i))) := hk1.cell 0
  have B1 := Lib.hid hb1
  clear hb1 hk1 ho1
  go_wp2_with fail
  go_ret
  exact ⟨rfl, B1.out⟩
end Go.Proofs.YtlbbehfbjbbckaaDoor

/-! What is told of below a thing, plainly. -/
set_option linter.unusedVariables false
set_option linter.unusedSimpArgs false
namespace Go.Proofs.YtlbbehfbjbbckaaDoor
open Go.RowKit

theorem glue_append : ∀ (A Z : List (List UInt8)), A ≠ [] → Z ≠ [] → glueB (A ++ Z) = glueB A ++ 47 :: glueB Z
  | [], _, h, _ => absurd rfl h
  | [a], z :: r, _, _ => rfl
  | [a], [], _, h => absurd rfl h
  | a :: b :: r, Z, _, h => by
    have := glue_append (b :: r) Z (by simp) h
    simp only [List.cons_append, glueB] at this ⊢
    rw [this]; simp
/-- Each directory's names can be told. -/
def Named (N : Nat → Option Nd) : Prop := ∀ i n, N i = some n → ∃ ks, NamesL n ks
theorem KidsN.names {n : Nd} {k : Nat} (h : KidsN n k) : ∃ ks, NamesL n ks := by
  obtain ⟨ks, h1, h2, _⟩ := h
  have hp := List.mergeSort_perm ks leB
  exact ⟨ks.mergeSort leB, hp.nodup_iff.2 h1, fun x => (hp.mem_iff).trans (h2 x), sorted_mergeSort ks⟩
theorem TreeAt.named {w : World} {t top c : Nat} {next : Int} {N : Nat → Option Nd} (h : TreeAt w t top next c N) : Named N := fun i n hi => by
  obtain ⟨k, hk, _⟩ := h.klen hi
  exact hk.names
theorem eachL_succ' {N : Nat → Option Nd} (hN : Named N) {f i : Nat} {p : List UInt8} {n : Nd} (hi : N i = some n) : ∃ ks, NamesL n ks ∧ eachL N (f + 1) p i = ks.flatMap (itemL N f p n) := by
  obtain ⟨ks, hk⟩ := hN i n hi
  exact ⟨ks, hk, eachL_succ hi hk⟩
theorem eachL_none {N : Nat → Option Nd} {f i : Nat} {p : List UInt8} (h : N i = none) : eachL N f p i = [] := by
  cases f with
  | zero => rfl
  | succ f => rw [eachL, h]
theorem eachL_from {N : Nat → Option Nd} (hN : Named N) : ∀ (f : Nat) (p : List UInt8) (i : Nat) (q : List UInt8) (k : Nat), (q, k) ∈ eachL N f p i → ∃ Y, Y ≠ [] ∧ Y.length ≤ f ∧ atN N (some i) Y = some k ∧ q = p ++ glueB Y
  | 0, p, i, q, k, h => by cases h
  | f + 1, p, i, q, k, h => by
    cases hi : N i with
    | none => rw [eachL_none hi] at h; cases h
    | some n =>
      obtain ⟨ks, hk, he⟩ := eachL_succ' hN (f := f) (p := p) hi
      rw [he, List.mem_flatMap] at h
      obtain ⟨x, hx, hm⟩ := h
      unfold itemL at hm
      cases hkx : n.kids x with
      | none => rw [hkx] at hm; cases hm
      | some k1 =>
        rw [hkx] at hm
        rcases List.mem_cons.1 hm with hm | hm
        · cases hm
          exact ⟨[x], by simp, by simp, by rw [atN_one hi]; exact hkx, rfl⟩
        · split at hm
          · obtain ⟨Y, h1, h2, h3, h4⟩ := eachL_from hN f _ k1 q k hm
            refine ⟨x :: Y, by simp, by simpa using h2, by rw [atN_step hi, hkx]; exact h3, ?_⟩
            rw [h4, show x :: Y = [x] ++ Y from rfl, glue_append [x] Y (by simp) h1]
            simp [glueB]
          · cases hm
theorem eachL_has {N : Nat → Option Nd} (hN : Named N) (hb : ∀ i n, N i = some n → n.kb = none → ∀ s, n.kids s = none) (hc : ∀ i n s j, N i = some n → n.kids s = some j → ∃ m, N j = some m) :
    ∀ (f : Nat) (p : List UInt8) (i : Nat) (Y : List (List UInt8)) (k : Nat), Y ≠ [] → Y.length ≤ f → atN N (some i) Y = some k → (p ++ glueB Y, k) ∈ eachL N f p i
  | f, p, i, [], k, h, _, _ => absurd rfl h
  | 0, p, i, x :: Y, k, _, h, _ => by simp at h
  | f + 1, p, i, x :: Y, k, _, hf, h => by
    cases hi : N i with
    | none => rw [atN_cons, show kidsOf N i x = none by unfold kidsOf; rw [hi]; rfl, atN_none] at h; cases h
    | some n =>
      obtain ⟨ks, hk, he⟩ := eachL_succ' hN (f := f) (p := p) hi
      rw [atN_step hi] at h
      cases hkx : n.kids x with
      | none => rw [hkx, atN_none] at h; cases h
      | some k1 =>
        rw [hkx] at h
        rw [he, List.mem_flatMap]
        refine ⟨x, (hk.mem x).2 (by rw [hkx]; rfl), ?_⟩
        unfold itemL
        rw [hkx]
        cases Y with
        | nil =>
          rw [atN_nil, Option.some.injEq] at h
          subst h
          exact List.mem_cons_self ..
        | cons y Y =>
          refine List.mem_cons_of_mem _ ?_
          obtain ⟨n1, hn1⟩ := hc i n x k1 hi hkx
          have hkb : kbN N k1 = true := by
            unfold kbN
            rw [hn1]
            simp only
            cases hq : n1.kb with
            | none =>
              rw [atN_step hn1, hb k1 n1 hn1 hq y, atN_none] at h; cases h
            | some b => rfl
          rw [if_pos hkb]
          have := eachL_has hN hb hc f (p ++ x ++ [47]) k1 (y :: Y) k (by simp) (by simpa using hf) h
          rw [show p ++ glueB (x :: y :: Y) = p ++ x ++ [47] ++ glueB (y :: Y) by simp [glueB]]
          exact this
/-- Whether all names below stay paths. -/
theorem rightAll_iff {N : Nat → Option Nd} (hN : Named N) (hb : ∀ i n, N i = some n → n.kb = none → ∀ s, n.kids s = none) (hc : ∀ i n s j, N i = some n → n.kids s = some j → ∃ m, N j = some m) (f : Nat) (p : List UInt8) (hp : p ≠ []) (i : Nat) (hd : ∀ Y k, atN N (some i) Y = some k → Y.length ≤ f) :
    rightAll (eachL N f (p ++ [47]) i) = true ↔ ∀ Y k, Y ≠ [] → atN N (some i) Y = some k → rightB (glueB (splitB p ++ Y)) = true := by
  have hg : ∀ Y, Y ≠ [] → glueB (splitB p ++ Y) = p ++ [47] ++ glueB Y := fun Y hY => by
    rw [glue_append _ _ (fun e => hp (splitB_nil_iff.1 e)) hY, glue_split]
    simp
  unfold rightAll
  rw [List.all_eq_true]
  constructor
  · intro h Y k hY hk
    have := h _ (eachL_has hN hb hc f (p ++ [47]) i Y k hY (hd Y k hk) hk)
    rw [hg Y hY]; exact this
  · rintro h ⟨q, k⟩ hm
    obtain ⟨Y, h1, h2, h3, h4⟩ := eachL_from hN f _ i q k hm
    have := h Y k h1 h3
    rw [hg Y h1, ← h4] at this
    exact this
/-- So deep is a tree below each thing. -/
theorem deep_of {N : Nat → Option Nd} : ∀ (f i : Nat), (∀ Y k, atN N (some i) Y = some k → Y.length ≤ f ∧ ∀ x ∈ Y, x.length ≤ 200) → Deep N f i
  | 0, i, h => fun s => by
    cases hs : kidsOf N i s with
    | none => rfl
    | some k =>
      have := (h [s] k (by rw [atN_cons, hs, atN_nil])).1
      simp at this
  | f + 1, i, h => fun s k hs => by
    refine ⟨(h [s] k (by rw [atN_cons, hs, atN_nil])).2 s (List.mem_singleton.2 rfl), deep_of f k fun Y j hj => ?_⟩
    obtain ⟨h1, h2⟩ := h (s :: Y) j (by rw [atN_cons, hs]; exact hj)
    exact ⟨by simpa using h1, fun x hx => h2 x (List.mem_cons_of_mem _ hx)⟩
theorem part_len {x : List UInt8} (h : partOk x = true) : x.length ≤ 48 := by
  unfold partOk at h
  simp only [Bool.and_eq_true, decide_eq_true_eq] at h
  exact h.2.1
theorem Rep.depth {N : Nat → Option Nd} {top : Nat} {S : St} (h : Rep N top S) {X : List (List UInt8)} {i : Nat} (hX : atN N (some top) X = some i) (Y : List (List UInt8)) (k : Nat) (hY : atN N (some i) Y = some k) : Y.length ≤ 12 ∧ ∀ x ∈ Y, x.length ≤ 200 := by
  obtain ⟨p, hp, hs⟩ := h.only (X ++ Y) k (by rw [atN_append, hX]; exact hY)
  have h12 := rightB_len12 hp
  rw [hs, List.length_append] at h12
  refine ⟨by omega, fun x hx => ?_⟩
  have := part_len (right_part hp (x := x) (by rw [hs]; exact List.mem_append_right _ hx))
  omega
end Go.Proofs.YtlbbehfbjbbckaaDoor

/-! A name moves, with all below it, plainly. -/
set_option linter.unusedVariables false
set_option linter.unusedSimpArgs false
namespace Go.Proofs.YtlbbehfbjbbckaaDoor
open Go.RowKit

theorem pfx_ex {X Y : List (List UInt8)} : pfxB X Y = true ↔ ∃ Z, X = Y ++ Z := by
  unfold pfxB
  rw [decide_eq_true_eq]
  constructor
  · intro h
    exact ⟨X.drop Y.length, by conv => lhs; rw [← List.take_append_drop Y.length X, h]⟩
  · rintro ⟨Z, rfl⟩
    simp
theorem pfx_no {X Y : List (List UInt8)} (h : pfxB X Y = false) (Z : List (List UInt8)) : X ≠ Y ++ Z := fun e => by
  rw [pfx_ex.2 ⟨Z, e⟩] at h; cases h
def moveP (old p q : List UInt8) : List UInt8 := if pfxB (splitB q) (splitB old) = true then glueB (splitB p ++ (splitB q).drop (splitB old).length) else q
theorem moveP_on {old p q : List UInt8} {Z : List (List UInt8)} (h : splitB q = splitB old ++ Z) : moveP old p q = glueB (splitB p ++ Z) := by
  unfold moveP
  rw [if_pos (pfx_ex.2 ⟨Z, h⟩), h, List.drop_left]
theorem moveP_off {old p q : List UInt8} (h : pfxB (splitB q) (splitB old) = false) : moveP old p q = q := by
  unfold moveP
  rw [h]; rfl
theorem moveP_split {old p q : List UInt8} {Z : List (List UInt8)} (hp : rightB p = true) (hq : rightB q = true) (h : splitB q = splitB old ++ Z) : splitB (moveP old p q) = splitB p ++ Z := by
  rw [moveP_on h]
  have hz : ∀ x ∈ Z, x ∈ splitB q := fun x hx => by rw [h]; exact List.mem_append_right _ hx
  exact split_below hp (fun x hx => splitB_noslash q x (hz x hx)) (fun x hx => part_ne (right_part hq (hz x hx)))
def St.moved (S : St) (old p : List UInt8) : St := { S with ls := S.ls.map (fun y => (moveP old p y.1, y.2)) }
def moveR (S : St) (old p : List UInt8) (i : Int) : Option Int → Int × St
  | some j => if (S.th i).kind = 2 then (11, S) else if (S.th j).kind = 2 then (13, S) else if j = i then (0, S) else (0, St.moved { S with ls := S.ls.filter (fun y => y.1 != p) } old p)
  | none => if (S.th i).kind = 2 ∧ (S.ls.all fun y => rightB (moveP old p y.1)) = false then (7, S) else (0, S.moved old p)
def renameR (S : St) (old p : List UInt8) : Option Int × Int → Option Int × Int → Int × St
  | (some i, e), (was, e2) => if e ≠ 0 then (e, S) else if (S.th i).kind = 2 ∧ p ≠ old ∧ pfxB (splitB p) (splitB old) = true then (2, S) else if e2 ≠ 0 then (e2, S) else moveR S old p i was
  | (none, e), _ => (e, S)
def St.rename (S : St) (old p : List UInt8) : Int × St :=
  if rightB old = false ∨ rightB p = false then (9, S) else if old = [] ∨ p = [] then (2, S) else renameR S old p (thereS (S.look old)) (S.look p)
/-- What stands above a name. -/
theorem OkS.above {S : St} (h : OkS S) {p : List UInt8} : ∀ (n : Nat) (Z : List (List UInt8)) (q : List UInt8) (i : Int), n = Z.length → (q, i) ∈ S.ls → splitB q = splitB p ++ Z → ∃ j, S.at p = some j ∧ (Z ≠ [] → (S.th j).kind = 2)
  | 0, Z, q, i, hn, hq, hs => by
    obtain rfl : Z = [] := List.eq_nil_of_length_eq_zero hn.symm
    rw [List.append_nil] at hs
    obtain rfl := splitB_inj hs
    exact ⟨i, (h.at_iff _ _).2 hq, fun e => absurd rfl e⟩
  | n + 1, Z, q, i, hn, hq, hs => by
    have hZ : Z ≠ [] := fun e => by rw [e] at hn; cases hn
    have hqr : rightB q = true := h.right _ hq
    have hq0 : q ≠ [] := fun e => by rw [e, splitB_nil] at hs; exact hZ (List.append_eq_nil_iff.1 hs.symm).2
    have h2 := split_parent hq0 hqr
    rw [hs, ← List.dropLast_concat_getLast hZ, ← List.append_assoc] at h2
    have h3 := (List.append_inj' h2 rfl).1.symm
    obtain ⟨d, h4, h5⟩ := h.up _ hq hq0
    have h4' := (h.at_iff _ _).1 h4
    obtain ⟨j, h6, h7⟩ := h.above n Z.dropLast (parentB q) d (by rw [List.length_dropLast]; omega) h4' h3
    refine ⟨j, h6, fun _ => ?_⟩
    by_cases hd : Z.dropLast = []
    · rw [hd, List.append_nil] at h3
      have h8 := splitB_inj h3
      have h4'' : S.at (parentB q) = some d := h4
      rw [h8, h6, Option.some.injEq] at h4''
      rw [h4'']; exact h5
    · exact h7 hd
theorem pfx_parent {p old : List UInt8} (hp : p ≠ []) (hr : rightB p = true) (h : pfxB (splitB p) (splitB old) = false) : pfxB (splitB (parentB p)) (splitB old) = false := by
  cases hq : pfxB (splitB (parentB p)) (splitB old) with
  | false => rfl
  | true =>
    obtain ⟨Z, hZ⟩ := pfx_ex.1 hq
    exact absurd (show splitB p = splitB old ++ (Z ++ [baseB p]) by rw [split_parent hp hr, hZ, List.append_assoc]) (pfx_no h _)
/-- What a move needs. -/
structure MoveOk (S : St) (old p : List UInt8) (i d : Int) : Prop where
  ro : rightB old = true
  rp : rightB p = true
  o0 : old ≠ []
  p0 : p ≠ []
  at_ : S.at old = some i
  free : S.at p = none
  up : S.at (parentB p) = some d
  dir : (S.th d).kind = 2
  out : pfxB (splitB p) (splitB old) = false
  right : ∀ y ∈ S.ls, rightB (moveP old p y.1) = true
theorem St.moved_mem {S : St} {old p : List UInt8} {q : List UInt8} {i : Int} : (q, i) ∈ (S.moved old p).ls ↔ ∃ y, (y, i) ∈ S.ls ∧ moveP old p y = q := by
  unfold St.moved
  rw [List.mem_map]
  constructor
  · rintro ⟨⟨y, j⟩, hy, e⟩
    cases e
    exact ⟨y, hy, rfl⟩
  · rintro ⟨y, hy, rfl⟩
    exact ⟨(y, i), hy, rfl⟩
theorem OkS.move {S : St} (h : OkS S) {old p : List UInt8} {i d : Int} (m : MoveOk S old p i d) : OkS (S.moved old p) := by
  have hinj : ∀ x ∈ S.ls, ∀ y ∈ S.ls, x.1 ≠ y.1 → moveP old p x.1 ≠ moveP old p y.1 := by
    have hone : ∀ x ∈ S.ls, ∀ y ∈ S.ls, ∀ Z, splitB x.1 = splitB old ++ Z → pfxB (splitB y.1) (splitB old) = false → moveP old p x.1 ≠ moveP old p y.1 := fun x hx y hy Z hZ hy2 e => by
      rw [moveP_off hy2] at e
      have h1 := moveP_split m.rp (h.right x hx) hZ
      rw [e] at h1
      obtain ⟨j, h2, _⟩ := h.above Z.length Z y.1 y.2 rfl hy h1
      rw [m.free] at h2; cases h2
    intro x hx y hy hne
    cases hx2 : pfxB (splitB x.1) (splitB old) with
    | false =>
      cases hy2 : pfxB (splitB y.1) (splitB old) with
      | false => rw [moveP_off hx2, moveP_off hy2]; exact hne
      | true =>
        obtain ⟨Z, hZ⟩ := pfx_ex.1 hy2
        exact fun e => hone y hy x hx Z hZ hx2 e.symm
    | true =>
      obtain ⟨Z, hZ⟩ := pfx_ex.1 hx2
      cases hy2 : pfxB (splitB y.1) (splitB old) with
      | false => exact hone x hx y hy Z hZ hy2
      | true =>
        obtain ⟨Z', hZ'⟩ := pfx_ex.1 hy2
        intro e
        have h1 := moveP_split m.rp (h.right x hx) hZ
        rw [e, moveP_split m.rp (h.right y hy) hZ'] at h1
        have h2 := List.append_cancel_left h1
        exact hne (splitB_inj (by rw [hZ, hZ', h2]))
  have hnd : (S.moved old p).ls.Pairwise (fun x y => x.1 ≠ y.1) := by
    unfold St.moved
    rw [List.pairwise_map]
    exact List.Pairwise.imp_of_mem (fun {x y} hx hy hxy => hinj x hx y hy hxy) h.nodup
  have hat : ∀ y j, S.at y = some j → (S.moved old p).at (moveP old p y) = some j := fun y j hy => mem_lookup hnd (St.moved_mem.2 ⟨y, (h.at_iff y j).1 hy, rfl⟩)
  refine ⟨hnd, ?_, ?_, ?_, ?_, ?_, h.kind1, h.tgt, ?_⟩
  · rintro ⟨q, j⟩ hx
    obtain ⟨y, hy, rfl⟩ := St.moved_mem.1 hx
    exact m.right _ hy
  · have := hat [] 1 h.top
    rwa [moveP_off (by
      cases hq : pfxB (splitB []) (splitB old) with
      | false => rfl
      | true =>
        obtain ⟨Z, hZ⟩ := pfx_ex.1 hq
        rw [splitB_nil] at hZ
        exact absurd (splitB_nil_iff.1 (List.append_eq_nil_iff.1 hZ.symm).1) m.o0)] at this
  · rintro ⟨q, j⟩ hx
    obtain ⟨y, hy, rfl⟩ := St.moved_mem.1 hx
    exact h.lt (y, j) hy
  · rintro ⟨q, j⟩ hx ⟨q', j'⟩ hx' he hne
    obtain ⟨y, hy, rfl⟩ := St.moved_mem.1 hx
    obtain ⟨y', hy', rfl⟩ := St.moved_mem.1 hx'
    have := h.one _ hy _ hy' he hne
    have e : y = y' := this
    rw [e]
  · rintro ⟨q, j⟩ hx
    obtain ⟨y, hy, rfl⟩ := St.moved_mem.1 hx
    exact h.kind (y, j) hy
  · rintro ⟨q, j⟩ hx hne
    obtain ⟨y, hy, rfl⟩ := St.moved_mem.1 hx
    have hyr : rightB y = true := h.right _ hy
    cases hy2 : pfxB (splitB y) (splitB old) with
    | false =>
      rw [moveP_off hy2] at hne ⊢
      obtain ⟨e, h1, h2⟩ := h.up _ hy hne
      refine ⟨e, ?_, h2⟩
      have := hat _ _ h1
      rwa [moveP_off (pfx_parent hne hyr hy2)] at this
    | true =>
      obtain ⟨Z, hZ⟩ := pfx_ex.1 hy2
      by_cases hZ0 : Z = []
      · subst hZ0
        rw [List.append_nil] at hZ
        obtain rfl := splitB_inj hZ
        have e : moveP y p y = p := by rw [moveP_on (Z := []) (by rw [List.append_nil]), List.append_nil, glue_split]
        rw [e]
        refine ⟨d, ?_, m.dir⟩
        have := hat _ _ m.up
        rwa [moveP_off (pfx_parent m.p0 m.rp m.out)] at this
      · have hy0 : y ≠ [] := fun e => by rw [e, splitB_nil] at hZ; exact hZ0 (List.append_eq_nil_iff.1 hZ.symm).2
        obtain ⟨e, h1, h2⟩ := h.up _ hy hy0
        have hsp := split_parent hy0 hyr
        rw [hZ, ← List.dropLast_concat_getLast hZ0, ← List.append_assoc] at hsp
        have h3 := (List.append_inj' hsp rfl).1.symm
        refine ⟨e, ?_, h2⟩
        have h4 := hat _ _ h1
        have h5 : parentB (moveP old p y) = moveP old p (parentB y) := by
          have h6 := moveP_split m.rp (h.right _ ((h.at_iff _ _).1 h1)) h3
          have h7 := moveP_split m.rp hyr hZ
          rw [← List.dropLast_concat_getLast hZ0, ← List.append_assoc, ← h6] at h7
          exact (parent_of (Y := []) (m.right _ hy) h7).2.1
        show (S.moved old p).at (parentB (moveP old p y)) = some e
        rw [h5]; exact h4
end Go.Proofs.YtlbbehfbjbbckaaDoor

/-! A name moves, with all below it: a tree in memory is the plain one still. -/
set_option linter.unusedVariables false
set_option linter.unusedSimpArgs false
namespace Go.Proofs.YtlbbehfbjbbckaaDoor
open Go.RowKit

theorem kidsOf_kid {N : Nat → Option Nd} {d : Nat} {s : List UInt8} {v : Option Nat} {m : Nd} (hd : N d = some m) : (∀ i, i ≠ d → kidsOf (kidN N d s v) i = kidsOf N i) ∧ kidsOf (kidN N d s v) d = kidsSet (kidsOf N d) s v :=
  ⟨fun i hi => by unfold kidsOf; rw [kidN_old s v hi], by rw [kidsOf_some (kidN_dir s v hd), kidsOf_some hd]⟩
def moveN (N : Nat → Option Nd) (f t : Nat) (bo bp : List UInt8) (k : Nat) : Nat → Option Nd := kidN (kidN N f bo none) t bp (some k)
theorem moveN_some {N : Nat → Option Nd} {f t k i : Nat} {bo bp : List UInt8} {m' : Nd} (h : moveN N f t bo bp k i = some m') :
    ∃ m, N i = some m ∧ m'.kind = m.kind ∧ m'.ino = m.ino ∧ m'.links = m.links ∧ thN m' = thN m ∧ (i ≠ f → i ≠ t → m'.kids = m.kids) ∧ (∀ s j, m'.kids s = some j → j = k ∨ m.kids s = some j) := by
  obtain ⟨m1, h1, _, _, _, _, _, _, a1, a2, a3, a4, a5⟩ := kidN_some h
  obtain ⟨m, h2, _, _, _, _, _, _, b1, b2, b3, b4, b5⟩ := kidN_some h1
  refine ⟨m, h2, a1.trans b1, a2.trans b2, a3.trans b3, a4.trans b4, fun hf ht => ?_, fun s j hs => ?_⟩
  · rcases a5 with ⟨e, _⟩ | ⟨_, e⟩
    · exact absurd e ht
    · rcases b5 with ⟨e', _⟩ | ⟨_, e'⟩
      · exact absurd e' hf
      · rw [e, e']
  · have h3 : ∀ s j, m1.kids s = some j → m.kids s = some j := fun s j hs => by
      rcases b5 with ⟨_, e⟩ | ⟨_, e⟩
      · rw [e] at hs
        unfold kidsSet at hs
        split at hs
        · cases hs
        · exact hs
      · rw [e] at hs; exact hs
    rcases a5 with ⟨_, e⟩ | ⟨_, e⟩
    · rw [e] at hs
      unfold kidsSet at hs
      split at hs
      · cases hs; exact .inl rfl
      · exact .inr (h3 s j hs)
    · rw [e] at hs; exact .inr (h3 s j hs)
theorem moveN_is {N : Nat → Option Nd} {f t k i : Nat} {bo bp : List UInt8} {m : Nd} (h : N i = some m) : ∃ m', moveN N f t bo bp k i = some m' ∧ m'.ino = m.ino := by
  obtain ⟨m1, h1, _, h2⟩ := kidN_is (d := f) bo none h
  obtain ⟨m2, h3, _, h4⟩ := kidN_is (d := t) bp (some k) h1
  exact ⟨m2, h3, h4.trans h2⟩
theorem Rep.move {N : Nat → Option Nd} {top k f t : Nat} {S : St} {old p : List UInt8} {i d : Int} {x mf mt : Nd} (h : Rep N top S) (ho : OkS S) (m : MoveOk S old p i d)
    (hk : atN N (some top) (splitB old) = some k) (hx : N k = some x) (hf : atN N (some top) (splitB (parentB old)) = some f) (hmf : N f = some mf) (ht : atN N (some top) (splitB (parentB p)) = some t) (hmt : N t = some mt) (hfk : mf.kind = 2) (htk : mt.kind = 2) :
    Rep (moveN N f t (baseB old) (baseB p) k) top (S.moved old p) := by
  have hso := split_parent m.o0 m.ro
  have hsp := split_parent m.p0 m.rp
  have hpp := pfx_parent m.p0 m.rp m.out
  obtain ⟨k1, k2⟩ := kidsOf_kid (s := baseB old) (v := none) hmf
  have hN1t : ∃ mt1, kidN N f (baseB old) none t = some mt1 := by
    obtain ⟨q, hq, _⟩ := kidN_is (d := f) (baseB old) none hmt
    exact ⟨q, hq⟩
  obtain ⟨mt1, hmt1⟩ := hN1t
  obtain ⟨g1, g2⟩ := kidsOf_kid (s := baseB p) (v := some k) hmt1
  rw [kidsOf_some hmf] at k2
  obtain ⟨hon1, hoff1⟩ := h.atCh ho hmf hfk hf k1 k2
  have hone : ∀ Z, atN (kidN N f (baseB old) none) (some top) (splitB old ++ Z) = none := fun Z => by
    rw [hso, List.append_assoc]
    exact (hon1 Z).trans (atN_none _ _)
  have hoff : ∀ X, (∀ Z, X ≠ splitB old ++ Z) → atN (kidN N f (baseB old) none) (some top) X = atN N (some top) X := fun X hX => hoff1 X (fun Z e => hX Z (by rw [e, hso, List.append_assoc]; rfl))
  have hbelow : ∀ Z, atN N (some top) (splitB old ++ Z) = atN N (some k) Z := fun Z => by rw [atN_append, hk]
  have hin1 : ∀ Z, atN (kidN N f (baseB old) none) (some k) Z = atN N (some k) Z := fun Z => atN_keep (b := baseB old) (d := f) k1 (fun y hy => by rw [k2, kidsOf_some hmf]; exact if_neg hy) Z _ (fun Y Z' e hY => by
    have h1 := (hbelow Y).trans hY
    have h2 := h.uniq ho hmf (by rw [hfk]; decide) h1 hf
    have h3 := congrArg List.length h2
    rw [hso] at h3
    simp at h3)
  have hu : ∀ X, atN (kidN N f (baseB old) none) (some top) X = some t → X = splitB (parentB p) := fun X hX => by
    by_cases hz : ∃ Z, X = splitB old ++ Z
    · obtain ⟨Z, rfl⟩ := hz
      rw [hone] at hX; cases hX
    · rw [hoff X (fun Z e => hz ⟨Z, e⟩)] at hX
      exact h.uniq ho hmt (by rw [htk]; decide) hX ht
  have hd1 : atN (kidN N f (baseB old) none) (some top) (splitB (parentB p)) = some t := by
    rw [hoff _ (pfx_no hpp)]; exact ht
  have g3 : ∀ y, y ≠ baseB p → kidsOf (moveN N f t (baseB old) (baseB p) k) t y = kidsOf (kidN N f (baseB old) none) t y := fun y hy => by
    unfold moveN; rw [g2]; exact if_neg hy
  have hin2 : ∀ Z, atN (moveN N f t (baseB old) (baseB p) k) (some k) Z = atN N (some k) Z := fun Z => by
    rw [← hin1 Z]
    refine atN_keep (b := baseB p) (d := t) g1 g3 Z _ (fun Y Z' e hY => ?_)
    rw [hin1 Y] at hY
    have h1 := (hbelow Y).trans hY
    have h2 := h.uniq ho hmt (by rw [htk]; decide) h1 ht
    exact pfx_no hpp Y h2.symm
  have c1 : ∀ Z, atN (moveN N f t (baseB old) (baseB p) k) (some top) (splitB p ++ Z) = atN N (some top) (splitB old ++ Z) := fun Z => by
    rw [hbelow, ← hin2 Z, hsp, List.append_assoc]
    show atN (moveN N f t (baseB old) (baseB p) k) (some top) (splitB (parentB p) ++ baseB p :: Z) = _
    rw [atN_on (N := kidN N f (baseB old) none) (N' := moveN N f t (baseB old) (baseB p) k) g1 g3 hu hd1]
    congr 1
    show kidsOf (moveN N f t (baseB old) (baseB p) k) t (baseB p) = some k
    unfold moveN; rw [g2]; exact if_pos rfl
  have c2 : ∀ X, (∀ Z, X ≠ splitB p ++ Z) → atN (moveN N f t (baseB old) (baseB p) k) (some top) X = atN (kidN N f (baseB old) none) (some top) X := fun X hX =>
    atN_off (N := kidN N f (baseB old) none) (N' := moveN N f t (baseB old) (baseB p) k) g1 g3 hu X (fun Z e => hX Z (by rw [e, hsp, List.append_assoc]; rfl))
  have hA : ∀ y j, (y, j) ∈ S.ls → atN (moveN N f t (baseB old) (baseB p) k) (some top) (splitB (moveP old p y)) = atN N (some top) (splitB y) := fun y j hy => by
    cases hy2 : pfxB (splitB y) (splitB old) with
    | true =>
      obtain ⟨Z, hZ⟩ := pfx_ex.1 hy2
      rw [moveP_split m.rp (h := hZ) (ho.right _ hy), c1, hZ]
    | false =>
      rw [moveP_off hy2, c2 _ (fun Z e => by
        obtain ⟨j', h1, _⟩ := ho.above Z.length Z y j rfl hy e
        rw [m.free] at h1; cases h1), hoff _ (pfx_no hy2)]
  have hB : ∀ X j, atN (moveN N f t (baseB old) (baseB p) k) (some top) X = some j → ∃ y n, (y, n.ino) ∈ S.ls ∧ N j = some n ∧ X = splitB (moveP old p y) := fun X j hX => by
    have hfin : ∀ Y, atN N (some top) Y = some j → ∃ y n, (y, n.ino) ∈ S.ls ∧ N j = some n ∧ splitB y = Y ∧ rightB y = true := fun Y hY => by
      obtain ⟨y, hy, rfl⟩ := h.only Y j hY
      have h1 := h.rep y hy
      rw [hY] at h1
      obtain ⟨n, h2, h3⟩ := h1.some
      exact ⟨y, n, (ho.at_iff _ _).1 h3, h2, rfl, hy⟩
    by_cases hz : ∃ Z, X = splitB p ++ Z
    · obtain ⟨Z, rfl⟩ := hz
      rw [c1] at hX
      obtain ⟨y, n, h1, h2, h3, h4⟩ := hfin _ hX
      exact ⟨y, n, h1, h2, (moveP_split m.rp h4 h3).symm⟩
    · rw [c2 X (fun Z e => hz ⟨Z, e⟩)] at hX
      by_cases hw : ∃ Z, X = splitB old ++ Z
      · obtain ⟨Z, rfl⟩ := hw
        rw [hone] at hX; cases hX
      · rw [hoff X (fun Z e => hw ⟨Z, e⟩)] at hX
        obtain ⟨y, n, h1, h2, h3, h4⟩ := hfin _ hX
        refine ⟨y, n, h1, h2, ?_⟩
        rw [moveP_off (by
          cases hq : pfxB (splitB y) (splitB old) with
          | false => rfl
          | true =>
            obtain ⟨Z, hZ⟩ := pfx_ex.1 hq
            exact absurd ⟨Z, by rw [← h3, hZ]⟩ hw), h3]
  have hoS := ho.move m
  refine ⟨fun q hq => ?_, fun X j hX => ?_, fun a b n n' ha hb he => ?_, fun j n hj => ?_, fun j n hj => ?_, fun j n hj => ?_, fun j n hj hkd s => ?_, fun a n s j ha hs => ?_, ?_⟩
  · cases hX : atN (moveN N f t (baseB old) (baseB p) k) (some top) (splitB q) with
    | some j =>
      obtain ⟨y, n, h1, h2, h3⟩ := hB _ j hX
      have h4 : (S.moved old p).at q = some n.ino := (hoS.at_iff _ _).2 (St.moved_mem.2 ⟨y, h1, (splitB_inj h3).symm⟩)
      obtain ⟨n', h5, h6⟩ := moveN_is (f := f) (t := t) (k := k) (bo := baseB old) (bp := baseB p) h2
      rw [h4]; exact ⟨n', h5, h6⟩
    | none =>
      cases hq2 : (S.moved old p).at q with
      | none => trivial
      | some e =>
        obtain ⟨y, h1, rfl⟩ := St.moved_mem.1 ((hoS.at_iff _ _).1 hq2)
        rw [hA y e h1] at hX
        obtain ⟨j, n, h2, _⟩ := h.mem ho h1
        rw [hX] at h2; cases h2
  · obtain ⟨y, n, h1, _, h3⟩ := hB X j hX
    exact ⟨_, m.right _ h1, h3.symm⟩
  · obtain ⟨a0, h1, _, h2, _⟩ := moveN_some ha
    obtain ⟨b0, h3, _, h4, _⟩ := moveN_some hb
    exact h.inj a b a0 b0 h1 h3 (by rw [← h2, ← h4]; exact he)
  · obtain ⟨a0, h1, _, h2, _, h3, _⟩ := moveN_some hj
    show S.th n.ino = thN n
    rw [h2, h3]; exact h.info j a0 h1
  · obtain ⟨a0, h1, _, h2, _⟩ := moveN_some hj
    rw [h2]; exact h.lt j a0 h1
  · obtain ⟨a0, h1, _, h2, h3, _⟩ := moveN_some hj
    rw [h3, h2, h.links j a0 h1]
    unfold St.moved
    rw [List.countP_map]
    rfl
  · obtain ⟨a0, h1, h2, _, _, _, h3, _⟩ := moveN_some hj
    have ha : j ≠ f := fun e => by
      rw [e, hmf, Option.some.injEq] at h1
      rw [h2, ← h1] at hkd; exact hkd hfk
    have hb : j ≠ t := fun e => by
      rw [e, hmt, Option.some.injEq] at h1
      rw [h2, ← h1] at hkd; exact hkd htk
    rw [h3 ha hb]
    exact h.leaf j a0 h1 (by rw [← h2]; exact hkd) s
  · obtain ⟨a0, h1, _, _, _, _, _, h3⟩ := moveN_some ha
    have hex : ∃ q, N j = some q := by
      rcases h3 s j hs with rfl | h4
      · exact ⟨x, hx⟩
      · exact h.closed a a0 s j h1 h4
    obtain ⟨q, hq⟩ := hex
    obtain ⟨q', hq', _⟩ := moveN_is (f := f) (t := t) (k := k) (bo := baseB old) (bp := baseB p) hq
    exact ⟨q', hq'⟩
  · obtain ⟨r, hr⟩ := h.root
    obtain ⟨q', hq', _⟩ := moveN_is (f := f) (t := t) (k := k) (bo := baseB old) (bp := baseB p) hr
    exact ⟨q', hq'⟩
end Go.Proofs.YtlbbehfbjbbckaaDoor
