import Derived.Test.YtlndiddplfoceaaDoorRp
import Derived.Test.YtlndiddplfoceaaDoorRegH
/-! The document's Sum. -/
set_option linter.unusedVariables false
set_option linter.unusedSimpArgs false
namespace Go.Proofs.YtlndiddplfoceaaDoor
open Go.RowKit

theorem digB_snoc (l : List Int) (x : Int) : digB (l ++ [x]) = digB l ++ (List.range 4).map (wbB x) := by simp [digB]
theorem take8_snoc (s : S8) {i : Nat} (h : i < 8) : s.l.take (i + 1) = s.l.take i ++ [s.l[i]?.getD 0] := by
  rw [List.take_add_one, List.getElem?_eq_getElem (by simp [S8.l]; omega)]; rfl
theorem cell_below {w0 w : World} {a : Addr} {v : Value} (h : w0.cell? a = some v) (hb : Below w0.heap.size w0 w) : w.cell? a = some v := by
  rw [← h]
  unfold World.cell?
  rw [hb.block a.block (World.block_lt_of_cell? w0 a h)]
theorem wb_cells (x : Int) : #[Value.int .u8 (IntKind.u8.wrap (x / 16777216)), .int .u8 (IntKind.u8.wrap (x / 65536)), .int .u8 (IntKind.u8.wrap (x / 256)), .int .u8 (IntKind.u8.wrap x)] = (bys ((List.range 4).map (wbB x))).toArray := by
  have h0 := wb_raw x 0 (by omega)
  have h1 := wb_raw x 1 (by omega)
  have h2 := wb_raw x 2 (by omega)
  have h3 := wb_raw x 3 (by omega)
  rw [show (2 : Int) ^ (24 - 8 * 0) = 16777216 by decide] at h0
  rw [show (2 : Int) ^ (24 - 8 * 1) = 65536 by decide] at h1
  rw [show (2 : Int) ^ (24 - 8 * 2) = 256 by decide] at h2
  rw [show (2 : Int) ^ (24 - 8 * 3) = 1 by decide, Int.ediv_one] at h3
  simp only [IntKind.wrap_u8]
  rw [h0, h1, h2, h3]; rfl
set_option maxRecDepth 100000 in
set_option maxHeartbeats 4000000 in
theorem rsum_any (B : Option Addr) (n c : Nat) (b : List UInt8) (w : World) (hs : Sl 1 w B n (bys b)) (hn : n ≤ 1099511627776) (hT : TabK w) (h0 : 0 < w.heap.size) :
    Calls Tryd.prog 12 #[.slice B n c] w fun e w' => e = .returned (.string (str (shaB b))) ∧ Below w.heap.size w w' := by
  obtain ⟨j0, ji, jz0, jz1, jz2⟩ := info_parts infoB
  have HBL := Lib.hid (show b.length = n by have := hs.len; simpa [bys] using this)
  have hmod : (n + (endB n).length) % 64 = 0 := by simp [endB, padZ]; omega
  have hend : (endB n).length ≤ 80 := endB_len n
  have HT := Lib.hid hT
  have HS := Lib.hid hs
  clear hT hs
  go_enter Tryd.func12, Tryd.ntmps12
  go_wp2_with fail
  refine (filled_any B n c b _ HS.out hn).mono ?_
  rintro e w1 ⟨⟨A, m, k, rfl, hm, hmk, hsl⟩, hb1⟩
  have HSL := Lib.hid hsl
  have HB1 := Lib.hid hb1
  have HM := Lib.hid hm
  have hm64 : m % 64 = 0 := by rw [hm]; exact hmod
  have hmx : m ≤ 1099511627776 + 80 := by omega
  have hl0 : 0 < w1.heap.size := Nat.lt_of_lt_of_le h0 hb1.size
  have HT1 := Lib.hid (HT.out.below hb1 h0)
  clear hb1 hsl hmod hend hm
  have HFL := Lib.hid (show (b ++ endB n).length = m by have := HSL.out.len; simpa [bys] using this)
  generalize hF : b ++ endB n = F at *
  have HF := Lib.hid hF
  clear hF
  go_wp2_with fail
  have hbs : Below w1.heap.size w1 (w1.alloc (.cells (u32s h0S.l).toArray 38)) := (Below.refl _ _).alloc (Nat.le_refl _) _
  have hss : Sl 1 (w1.alloc (.cells (u32s h0S.l).toArray 38)) (some ⟨w1.heap.size, 0, none⟩) 8 (u32s h0S.l) := (Blk.new w1 38 (u32s h0S.l)).sl (o := 0) rfl rfl (by omega)
  have HSS := Lib.hid hss
  have HBS := Lib.hid hbs
  clear hss hbs
  go_loopw [4, 5] (fun v u wr => ∃ (j : Nat) (S : Option Addr) (q : Nat), v = .slice S 8 q ∧ u = .int .i64 (64 * (j : Int)) ∧ 64 * j ≤ m ∧ Sl 1 wr S 8 (u32s (foldB h0S j F).l) ∧ Below w1.heap.size w1 wr) (fun _ u _ => m - (intOf u).toNat)
  case atStart => exact ⟨0, _, _, rfl, rfl, by omega, HSS.out, HBS.out⟩
  case round =>
    obtain ⟨j, S, q, rfl, rfl, hj, hss, hb⟩ := hrel
    have HSS := Lib.hid hss
    have HB := Lib.hid hb
    have HTr := Lib.hid (HT1.out.below hb hl0)
    have HLr := Lib.hid (HSL.out.below hb)
    clear hss hb
    rcases Nat.lt_or_ge (64 * j) m with h | h
    · obtain ⟨p, hp⟩ : ∃ p, p = 64 * j := ⟨_, rfl⟩
      have hp64 : p + 64 ≤ m := by omega
      have HP := Lib.hid hp
      have hpi : (64 : Int) * (j : Int) = p := by omega
      rw [← hp] at h hj
      rw [hpi]
      clear hpi
      have hsl : ∀ w : World, (Instr.slice 26 (.slice A m k) (some (.int .i64 p)) (some (.int .i64 ((p : Int) + 64))) none).run Tryd.prog w = .ok (.slice (subAt A p k 1) (p + 64 - p) (k - p)) w := fun w => run_slice_sub underB elemB ji jz1 A m k p (p + 64) (by omega) (by omega) .i64 .i64 _ _ rfl (by omega)
      have hss := HLr.out.sub p (p + 64) k (by omega) hp64 hmk
      rw [Nat.add_sub_cancel_left] at hsl hss
      have HLS := Lib.hid hss
      clear hss hp ji jz0 jz1 jz2
      go_wp2_with fail
      refine (rwords_any (subAt A p k 1) (k - p) ((F.drop p).take 64) (by rw [List.length_take, List.length_drop, HFL.out]; omega) _ HLS.out (by omega)).mono ?_
      rintro e w2 ⟨g, rfl, hg, hgs, hb2⟩
      have HB2 := Lib.hid (HB.out.trans (hb2.mono HB.out.size))
      have HSS2 := Lib.hid (HSS.out.below hb2)
      have HT2 := Lib.hid (HTr.out.below hb2 (Nat.lt_of_lt_of_le hl0 HB.out.size))
      have HG := Lib.hid hg
      clear hb2 hg hsl hgs
      go_wp2_with fail
      refine (rblock_any S q g (foldB h0S j F) ((F.drop p).take 64) _ HSS2.out HG.out HT2.out).mono ?_
      rintro e w3 ⟨⟨g3, rfl, hs3⟩, hb3⟩
      have HB3 := Lib.hid (HB2.out.trans (hb3.mono HB2.out.size))
      have HS3 := Lib.hid hs3
      clear hb3 hs3
      go_wp2_with fail
      go_roundw
      case rel => exact ⟨j + 1, _, _, rfl, by have := HP.out; (try go_num); (try omega), by have := HP.out; omega, by rw [foldB_snoc, ← HP.out]; exact HS3.out, HB3.out⟩
      case measure => simp [intOf]; omega
    · have hjm : 64 * j = m := by omega
      have hfin : digB (foldB h0S j F).l = shaB b := by
        rw [shaB_fold, HBL.out, HF.out, ← HM.out, ← hjm, Nat.mul_div_cancel_left _ (by omega)]
      have HFIN := Lib.hid hfin
      clear hfin hjm HLr
      generalize foldB h0S j F = V at *
      have hmk := run_make (P := Tryd.prog) (w := wr) 26 5 j0 (.int .u8 0) Tryd.underlying26 ji jz0 .i64 .i64 0 32 (by omega) (by omega) (by rw [jz2]; omega) (by omega)
      rw [show (0 : Int).toNat = 0 from rfl, show (32 : Int).toNat = 32 from rfl, jz1] at hmk
      have hown0 := World.ownsRow_made (base := w1.heap.size) (e := 5) (size := 1) wr (madeCells (Value.int .u8 0).cells (32 * 1)) 32 HB.out.size (by unfold maxLen; omega) (size_madeCells _ _)
      have hb0 : Below wr.heap.size wr (wr.alloc (.cells (madeCells (Value.int .u8 0).cells (32 * 1)) 5)) := (Below.refl _ _).alloc (Nat.le_refl _) _
      have hbw := HB.out.trans (hb0.mono HB.out.size)
      have hssw := HSS.out.below hb0
      have hltw : ∀ a, S = some a → a.block < wr.heap.size := fun a ha => by
        rcases HSS.out.at_ with h | ⟨sb, so, rfl, hc⟩
        · have : (u32s V.l).length = 0 := by rw [h]; rfl
          rw [u32s_len] at this; simp [S8.l] at this
        · cases ha; exact World.block_lt_of_cell? wr _ (hc 0 _ rfl)
      have hown0b : ∀ g, (Value.slice (some ⟨wr.heap.size, 0, none⟩) 0 32).ownBlock = some g → ∀ a, S = some a → a.block ≠ g := fun g hg a ha e => by
        simp only [Value.ownBlock, Option.some.injEq] at hg
        have := hltw a ha; omega
      generalize hwm : wr.alloc (.cells (madeCells (Value.int .u8 0).cells (32 * 1)) 5) = wm at *
      have HO := Lib.hid hown0
      have HBW := Lib.hid hbw
      have HSW := Lib.hid hssw
      have HNE := Lib.hid hown0b
      clear hown0 hbw hssw hown0b hb0 hwm hltw
      go_wp2_with fail
      clear hmk
      go_loopw [6, 7] (fun v u wq => ∃ i : Nat, u = .int .i64 i ∧ i ≤ 8 ∧ wq.ownsRow w1.heap.size 5 1 v (4 * i) (bys (digB (V.l.take i))) ∧ Sl 1 wq S 8 (u32s V.l) ∧ (∀ g, v.ownBlock = some g → ∀ a, S = some a → a.block ≠ g) ∧ (∀ a, S = some a → a.block < wq.heap.size) ∧ Below w1.heap.size w1 wq) (fun _ u _ => 8 - (intOf u).toNat)
      case atStart => exact ⟨0, rfl, by omega, HO.out, HSW.out, HNE.out, fun a ha => by
        rcases HSW.out.at_ with h | ⟨sb, so, rfl, hc⟩
        · have : (u32s V.l).length = 0 := by rw [h]; rfl
          rw [u32s_len] at this; simp [S8.l] at this
        · cases ha; exact World.block_lt_of_cell? wm _ (hc 0 _ rfl), HBW.out⟩
      case round =>
        obtain ⟨i, rfl, hi, hown, hss, hne, hlt, hb⟩ := hrel
        rcases Nat.lt_or_ge i 8 with h8 | h8
        · obtain ⟨sb, so, hS, hc⟩ : ∃ sb so, S = some ⟨sb, so, none⟩ ∧ ∀ j v, (u32s V.l)[j]? = some v → wr.cell? ⟨sb, so + j, none⟩ = some v := by
            rcases hss.at_ with h | h
            · have : (u32s V.l).length = 0 := by rw [h]; rfl
              rw [u32s_len] at this; simp [S8.l] at this
            · exact h
          have cx : wr.cell? ⟨sb, so + i, none⟩ = some (.int .u32 (V.l[i]?.getD 0)) := hc i _ (u32s_at (by simp [S8.l]; omega))
          have t8 : (i : Int) < 8 := by omega
          have htk : bys (digB (V.l.take i)) ++ bys ((List.range 4).map (wbB (V.l[i]?.getD 0))) = bys (digB (V.l.take (i + 1))) := by
            rw [take8_snoc V h8, digB_snoc, bys_append]
          have HTK := Lib.hid htk
          have HCX := Lib.hid (show ∀ w3 : World, Sl 1 w3 (some ⟨sb, so, none⟩) 8 (u32s V.l) → w3.cell? ⟨sb, so + i, none⟩ = some (.int .u32 (V.l[i]?.getD 0)) from fun w3 h => by
            rcases h.at_ with h | ⟨sb', so', he, hc⟩
            · have : (u32s V.l).length = 0 := by rw [h]; rfl
              rw [u32s_len] at this; simp [S8.l] at this
            · cases he; exact hc i _ (u32s_at (by simp [S8.l]; omega)))
          generalize V.l[i]?.getD 0 = x at *
          have hwb := wb_cells x
          have hownA := (hown.drew).alloc (.cells (bys ((List.range 4).map (wbB x))).toArray 5)
          have hslN : Sl 1 (wr.drew.alloc (.cells (bys ((List.range 4).map (wbB x))).toArray 5)) (some ⟨wr.heap.size, 0, none⟩) 4 (bys ((List.range 4).map (wbB x))) :=
            (Blk.new wr.drew 5 (bys ((List.range 4).map (wbB x)))).sl (o := 0) rfl rfl (by omega)
          obtain ⟨v3, w3, hap, hown3, hg3, hob3⟩ := run_append_at (P := Tryd.prog) w1.heap.size 26 26 5 j0 _ 1 1 Tryd.underlying26 ji jz0 jz1 jz2 rfl (by decide) hownA (c := 4) hslN (by omega) (bys_one _) (by omega) (by omega) (Nat.le_trans hb.size (by rw [World.size_alloc]; exact Nat.le_succ _))
          rw [htk] at hown3
          rw [← hwb] at hap
          have hbA := (hb.drew).alloc hb.size (.cells (bys ((List.range 4).map (wbB x))).toArray 5)
          have hbel3 := hbA.grown hg3 (Nat.le_trans hb.size (by rw [World.size_alloc]; exact Nat.le_succ _)) (fun k hk => (hownA.lt k hk).1)
          have hss3 := ((hss.drew).below ((Below.refl _ _).alloc (Nat.le_refl _) (.cells (bys ((List.range 4).map (wbB x))).toArray 5))).grown hg3 (fun a k ha hk e => hne k hk a ha e)
          have hne3 : ∀ g, v3.ownBlock = some g → ∀ a, S = some a → a.block ≠ g := fun g hg a ha e => by
            rcases hob3 with h | h
            · exact hne g (h ▸ hg) a ha e
            · rw [h] at hg
              have := hlt a ha
              simp only [Option.some.injEq, World.size_alloc] at hg
              have h2 : wr.drew.heap.size = wr.heap.size := rfl
              omega
          have hlt3 : ∀ a, S = some a → a.block < w3.heap.size := fun a ha => by
            have h1 := hlt a ha
            have h2 := hg3.size
            rw [World.size_alloc] at h2
            have h3 : wr.drew.heap.size = wr.heap.size := rfl
            omega
          have R3 := Lib.hid (And.intro hown3 (And.intro hss3 (And.intro hne3 (And.intro hlt3 hbel3))))
          have HS0 := Lib.hid hS
          have CX3 := Lib.hid (show w3.cell? ⟨sb, so + i, none⟩ = some (.int .u32 x) from HCX.out w3 (by rw [← HS0.out]; exact R3.out.2.1))
          subst hS
          clear HS0 HCX
          clear hown hss hne hlt hb hc htk hwb hownA hslN hown3 hg3 hob3 hbA hbel3 hss3 hne3 hlt3 HTr HSS HNE HSW ji jz0 jz1 jz2
          go_wp2_with fail
          have cx3 : w3.cell? ⟨sb, so + i, none⟩ = some (.int .u32 x) := CX3.out
          have hap2 : (Builtin.append_ #[26, 26] 26 #[u6, .slice (some ⟨wr.heap.size, 0, none⟩) 4 4]).run Tryd.prog (wr.alloc (.cells #[.int .u8 (IntKind.u8.wrap (x / 16777216)), .int .u8 (IntKind.u8.wrap (x / 65536)), .int .u8 (IntKind.u8.wrap (x / 256)), .int .u8 (IntKind.u8.wrap x)] 5)).drew = .ok v3 w3 := hap
          clear hap
          refine wp_region_held_drew (S := fun w' => w'.cell? ⟨sb, so + i, none⟩ = some (.int .u32 x)) (by kernel_rfl) (cx) (fun hHeld => ?_)
          refine wpAnyH_take (i := 0) (oi := ?oi1) (v := ?v1) ?hi1 ?hs1 ?hf1 ?hr1 ?hQ1 (Or.inl ⟨?hg1, ?hy1⟩) hHeld ?rest1
          case hi1 => simp only [List.getElem?_toArray, List.getElem?_cons_succ, List.getElem?_cons_zero]; rfl
          case hs1 => kernel_rfl
          case hf1 => kernel_rfl
          case hr1 => kernel_rfl
          case hg1 => rfl
          case hy1 => (intro w hSw; first | (go_simp; done) | (go_simp; with_reducible rfl))
          case hQ1 => exact fun _ _ _ h => h
          try simp only [Act.put, List.setIfInBounds_toArray, List.set_cons_zero, List.set_cons_succ]
          refine wpAnyH_take (i := 1) (oi := ?oi2) (v := ?v2) ?hi2 ?hs2 ?hf2 ?hr2 ?hQ2 (Or.inl ⟨?hg2, ?hy2⟩) hHeld ?rest2
          case hi2 => simp only [List.getElem?_toArray, List.getElem?_cons_succ, List.getElem?_cons_zero]; rfl
          case hs2 => kernel_rfl
          case hf2 => kernel_rfl
          case hr2 => kernel_rfl
          case hg2 => rfl
          case hy2 => (intro w hSw; first | (go_simp; done) | (go_simp; with_reducible rfl))
          case hQ2 => exact fun _ _ _ h => h
          try simp only [Act.put, List.setIfInBounds_toArray, List.set_cons_zero, List.set_cons_succ]
          refine wpAnyH_take (i := 2) (oi := ?oi3) (v := ?v3) ?hi3 ?hs3 ?hf3 ?hr3 ?hQ3 (Or.inl ⟨?hg3, ?hy3⟩) hHeld ?rest3
          case hi3 => simp only [List.getElem?_toArray, List.getElem?_cons_succ, List.getElem?_cons_zero]; rfl
          case hs3 => kernel_rfl
          case hf3 => kernel_rfl
          case hr3 => kernel_rfl
          case hg3 => rfl
          case hy3 => (intro w hSw; first | (go_simp; done) | (go_simp; with_reducible rfl))
          case hQ3 => exact fun _ _ _ h => h
          try simp only [Act.put, List.setIfInBounds_toArray, List.set_cons_zero, List.set_cons_succ]
          refine wpAnyH_take (i := 3) (oi := ?oi4) (v := ?v4) ?hi4 ?hs4 ?hf4 ?hr4 ?hQ4 (Or.inl ⟨?hg4, ?hy4⟩) hHeld ?rest4
          case hi4 => simp only [List.getElem?_toArray, List.getElem?_cons_succ, List.getElem?_cons_zero]; rfl
          case hs4 => kernel_rfl
          case hf4 => kernel_rfl
          case hr4 => kernel_rfl
          case hg4 => rfl
          case hy4 => (intro w hSw; first | (go_simp; done) | (go_simp; with_reducible rfl))
          case hQ4 => exact fun _ _ _ h => h
          try simp only [Act.put, List.setIfInBounds_toArray, List.set_cons_zero, List.set_cons_succ]
          refine wpAnyH_take (i := 4) (oi := ?oi5) (v := ?v5) ?hi5 ?hs5 ?hf5 ?hr5 ?hQ5 (Or.inl ⟨?hg5, ?hy5⟩) hHeld ?rest5
          case hi5 => simp only [List.getElem?_toArray, List.getElem?_cons_succ, List.getElem?_cons_zero]; rfl
          case hs5 => kernel_rfl
          case hf5 => kernel_rfl
          case hr5 => kernel_rfl
          case hg5 => rfl
          case hy5 => (intro w hSw; have x0 : w.cell? ⟨sb, so + i, none⟩ = some (.int .u32 x) := hSw; first | (go_simp; done) | (go_simp; with_reducible rfl))
          case hQ5 => exact fun _ _ _ h => h
          try simp only [Act.put, List.setIfInBounds_toArray, List.set_cons_zero, List.set_cons_succ]
          refine wpAnyH_take (i := 5) (oi := ?oi6) (v := ?v6) ?hi6 ?hs6 ?hf6 ?hr6 ?hQ6 (Or.inl ⟨?hg6, ?hy6⟩) hHeld ?rest6
          case hi6 => simp only [List.getElem?_toArray, List.getElem?_cons_succ, List.getElem?_cons_zero]; rfl
          case hs6 => kernel_rfl
          case hf6 => kernel_rfl
          case hr6 => kernel_rfl
          case hg6 => rfl
          case hy6 => (intro w hSw; first | (go_simp; done) | (go_simp; with_reducible rfl))
          case hQ6 => exact fun _ _ _ h => h
          try simp only [Act.put, List.setIfInBounds_toArray, List.set_cons_zero, List.set_cons_succ]
          refine wpAnyH_take (i := 6) (oi := ?oi7) (v := ?v7) ?hi7 ?hs7 ?hf7 ?hr7 ?hQ7 (Or.inl ⟨?hg7, ?hy7⟩) hHeld ?rest7
          case hi7 => simp only [List.getElem?_toArray, List.getElem?_cons_succ, List.getElem?_cons_zero]; rfl
          case hs7 => kernel_rfl
          case hf7 => kernel_rfl
          case hr7 => kernel_rfl
          case hg7 => rfl
          case hy7 => (intro w hSw; first | (go_simp; done) | (go_simp; with_reducible rfl))
          case hQ7 => exact fun _ _ _ h => h
          try simp only [Act.put, List.setIfInBounds_toArray, List.set_cons_zero, List.set_cons_succ]
          refine wpAnyH_take (i := 7) (oi := ?oi8) (v := ?v8) ?hi8 ?hs8 ?hf8 ?hr8 ?hQ8 (Or.inl ⟨?hg8, ?hy8⟩) hHeld ?rest8
          case hi8 => simp only [List.getElem?_toArray, List.getElem?_cons_succ, List.getElem?_cons_zero]; rfl
          case hs8 => kernel_rfl
          case hf8 => kernel_rfl
          case hr8 => kernel_rfl
          case hg8 => rfl
          case hy8 => (intro w hSw; first | (go_simp; done) | (go_simp; with_reducible rfl))
          case hQ8 => exact fun _ _ _ h => h
          try simp only [Act.put, List.setIfInBounds_toArray, List.set_cons_zero, List.set_cons_succ]
          refine wpAnyH_take (i := 8) (oi := ?oi9) (v := ?v9) ?hi9 ?hs9 ?hf9 ?hr9 ?hQ9 (Or.inl ⟨?hg9, ?hy9⟩) hHeld ?rest9
          case hi9 => simp only [List.getElem?_toArray, List.getElem?_cons_succ, List.getElem?_cons_zero]; rfl
          case hs9 => kernel_rfl
          case hf9 => kernel_rfl
          case hr9 => kernel_rfl
          case hg9 => rfl
          case hy9 => (intro w hSw; first | (go_simp; done) | (go_simp; with_reducible rfl))
          case hQ9 => exact fun _ _ _ h => h
          try simp only [Act.put, List.setIfInBounds_toArray, List.set_cons_zero, List.set_cons_succ]
          refine wpAnyH_take (i := 9) (oi := ?oi10) (v := ?v10) ?hi10 ?hs10 ?hf10 ?hr10 ?hQ10 (Or.inl ⟨?hg10, ?hy10⟩) hHeld ?rest10
          case hi10 => simp only [List.getElem?_toArray, List.getElem?_cons_succ, List.getElem?_cons_zero]; rfl
          case hs10 => kernel_rfl
          case hf10 => kernel_rfl
          case hr10 => kernel_rfl
          case hg10 => rfl
          case hy10 => (intro w hSw; first | (go_simp; done) | (go_simp; with_reducible rfl))
          case hQ10 => exact fun _ _ _ h => h
          try simp only [Act.put, List.setIfInBounds_toArray, List.set_cons_zero, List.set_cons_succ]
          refine wpAnyH_take (i := 10) (oi := ?oi11) (v := ?v11) ?hi11 ?hs11 ?hf11 ?hr11 ?hQ11 (Or.inl ⟨?hg11, ?hy11⟩) hHeld ?rest11
          case hi11 => simp only [List.getElem?_toArray, List.getElem?_cons_succ, List.getElem?_cons_zero]; rfl
          case hs11 => kernel_rfl
          case hf11 => kernel_rfl
          case hr11 => kernel_rfl
          case hg11 => rfl
          case hy11 => (intro w hSw; have x0 : w.cell? ⟨sb, so + i, none⟩ = some (.int .u32 x) := hSw; first | (go_simp; done) | (go_simp; with_reducible rfl))
          case hQ11 => exact fun _ _ _ h => h
          try simp only [Act.put, List.setIfInBounds_toArray, List.set_cons_zero, List.set_cons_succ]
          refine wpAnyH_take (i := 11) (oi := ?oi12) (v := ?v12) ?hi12 ?hs12 ?hf12 ?hr12 ?hQ12 (Or.inl ⟨?hg12, ?hy12⟩) hHeld ?rest12
          case hi12 => simp only [List.getElem?_toArray, List.getElem?_cons_succ, List.getElem?_cons_zero]; rfl
          case hs12 => kernel_rfl
          case hf12 => kernel_rfl
          case hr12 => kernel_rfl
          case hg12 => rfl
          case hy12 => (intro w hSw; first | (go_simp; done) | (go_simp; with_reducible rfl))
          case hQ12 => exact fun _ _ _ h => h
          try simp only [Act.put, List.setIfInBounds_toArray, List.set_cons_zero, List.set_cons_succ]
          refine wpAnyH_take (i := 12) (oi := ?oi13) (v := ?v13) ?hi13 ?hs13 ?hf13 ?hr13 ?hQ13 (Or.inl ⟨?hg13, ?hy13⟩) hHeld ?rest13
          case hi13 => simp only [List.getElem?_toArray, List.getElem?_cons_succ, List.getElem?_cons_zero]; rfl
          case hs13 => kernel_rfl
          case hf13 => kernel_rfl
          case hr13 => kernel_rfl
          case hg13 => rfl
          case hy13 => (intro w hSw; first | (go_simp; done) | (go_simp; with_reducible rfl))
          case hQ13 => exact fun _ _ _ h => h
          try simp only [Act.put, List.setIfInBounds_toArray, List.set_cons_zero, List.set_cons_succ]
          refine wpAnyH_take (i := 13) (oi := ?oi14) (v := ?v14) ?hi14 ?hs14 ?hf14 ?hr14 ?hQ14 (Or.inl ⟨?hg14, ?hy14⟩) hHeld ?rest14
          case hi14 => simp only [List.getElem?_toArray, List.getElem?_cons_succ, List.getElem?_cons_zero]; rfl
          case hs14 => kernel_rfl
          case hf14 => kernel_rfl
          case hr14 => kernel_rfl
          case hg14 => rfl
          case hy14 => (intro w hSw; first | (go_simp; done) | (go_simp; with_reducible rfl))
          case hQ14 => exact fun _ _ _ h => h
          try simp only [Act.put, List.setIfInBounds_toArray, List.set_cons_zero, List.set_cons_succ]
          refine wpAnyH_take (i := 14) (oi := ?oi15) (v := ?v15) ?hi15 ?hs15 ?hf15 ?hr15 ?hQ15 (Or.inl ⟨?hg15, ?hy15⟩) hHeld ?rest15
          case hi15 => simp only [List.getElem?_toArray, List.getElem?_cons_succ, List.getElem?_cons_zero]; rfl
          case hs15 => kernel_rfl
          case hf15 => kernel_rfl
          case hr15 => kernel_rfl
          case hg15 => rfl
          case hy15 => (intro w hSw; first | (go_simp; done) | (go_simp; with_reducible rfl))
          case hQ15 => exact fun _ _ _ h => h
          try simp only [Act.put, List.setIfInBounds_toArray, List.set_cons_zero, List.set_cons_succ]
          refine wpAnyH_take (i := 15) (oi := ?oi16) (v := ?v16) ?hi16 ?hs16 ?hf16 ?hr16 ?hQ16 (Or.inl ⟨?hg16, ?hy16⟩) hHeld ?rest16
          case hi16 => simp only [List.getElem?_toArray, List.getElem?_cons_succ, List.getElem?_cons_zero]; rfl
          case hs16 => kernel_rfl
          case hf16 => kernel_rfl
          case hr16 => kernel_rfl
          case hg16 => rfl
          case hy16 => (intro w hSw; first | (go_simp; done) | (go_simp; with_reducible rfl))
          case hQ16 => exact fun _ _ _ h => h
          try simp only [Act.put, List.setIfInBounds_toArray, List.set_cons_zero, List.set_cons_succ]
          refine wpAnyH_take (i := 16) (oi := ?oi17) (v := ?v17) ?hi17 ?hs17 ?hf17 ?hr17 ?hQ17 (Or.inl ⟨?hg17, ?hy17⟩) hHeld ?rest17
          case hi17 => simp only [List.getElem?_toArray, List.getElem?_cons_succ, List.getElem?_cons_zero]; rfl
          case hs17 => kernel_rfl
          case hf17 => kernel_rfl
          case hr17 => kernel_rfl
          case hg17 => rfl
          case hy17 => (intro w hSw; have x0 : w.cell? ⟨sb, so + i, none⟩ = some (.int .u32 x) := hSw; first | (go_simp; done) | (go_simp; with_reducible rfl))
          case hQ17 => exact fun _ _ _ h => h
          try simp only [Act.put, List.setIfInBounds_toArray, List.set_cons_zero, List.set_cons_succ]
          refine wpAnyH_take (i := 17) (oi := ?oi18) (v := ?v18) ?hi18 ?hs18 ?hf18 ?hr18 ?hQ18 (Or.inl ⟨?hg18, ?hy18⟩) hHeld ?rest18
          case hi18 => simp only [List.getElem?_toArray, List.getElem?_cons_succ, List.getElem?_cons_zero]; rfl
          case hs18 => kernel_rfl
          case hf18 => kernel_rfl
          case hr18 => kernel_rfl
          case hg18 => rfl
          case hy18 => (intro w hSw; first | (go_simp; done) | (go_simp; with_reducible rfl))
          case hQ18 => exact fun _ _ _ h => h
          try simp only [Act.put, List.setIfInBounds_toArray, List.set_cons_zero, List.set_cons_succ]
          refine wpAnyH_take (i := 18) (oi := ?oi19) (v := ?v19) ?hi19 ?hs19 ?hf19 ?hr19 ?hQ19 (Or.inl ⟨?hg19, ?hy19⟩) hHeld ?rest19
          case hi19 => simp only [List.getElem?_toArray, List.getElem?_cons_succ, List.getElem?_cons_zero]; rfl
          case hs19 => kernel_rfl
          case hf19 => kernel_rfl
          case hr19 => kernel_rfl
          case hg19 => rfl
          case hy19 => (intro w hSw; first | (go_simp; done) | (go_simp; with_reducible rfl))
          case hQ19 => exact fun _ _ _ h => h
          try simp only [Act.put, List.setIfInBounds_toArray, List.set_cons_zero, List.set_cons_succ]
          refine wpAnyH_take (i := 19) (oi := ?oi20) (v := ?v20) ?hi20 ?hs20 ?hf20 ?hr20 ?hQ20 (Or.inl ⟨?hg20, ?hy20⟩) hHeld ?rest20
          case hi20 => simp only [List.getElem?_toArray, List.getElem?_cons_succ, List.getElem?_cons_zero]; rfl
          case hs20 => kernel_rfl
          case hf20 => kernel_rfl
          case hr20 => kernel_rfl
          case hg20 => rfl
          case hy20 => (intro w hSw; first | (go_simp; done) | (go_simp; with_reducible rfl))
          case hQ20 => exact fun _ _ _ h => h
          try simp only [Act.put, List.setIfInBounds_toArray, List.set_cons_zero, List.set_cons_succ]
          refine wpAnyH_take (i := 20) (oi := ?oi21) (v := ?v21) ?hi21 ?hs21 ?hf21 ?hr21 ?hQ21 (Or.inl ⟨?hg21, ?hy21⟩) hHeld ?rest21
          case hi21 => simp only [List.getElem?_toArray, List.getElem?_cons_succ, List.getElem?_cons_zero]; rfl
          case hs21 => kernel_rfl
          case hf21 => kernel_rfl
          case hr21 => kernel_rfl
          case hg21 => rfl
          case hy21 => (intro w hSw; first | (go_simp; done) | (go_simp; with_reducible rfl))
          case hQ21 => exact fun _ _ _ h => h
          try simp only [Act.put, List.setIfInBounds_toArray, List.set_cons_zero, List.set_cons_succ]
          refine wpAnyH_take (i := 21) (oi := ?oi22) (v := ?v22) ?hi22 ?hs22 ?hf22 ?hr22 ?hQ22 (Or.inl ⟨?hg22, ?hy22⟩) hHeld ?rest22
          case hi22 => simp only [List.getElem?_toArray, List.getElem?_cons_succ, List.getElem?_cons_zero]; rfl
          case hs22 => kernel_rfl
          case hf22 => kernel_rfl
          case hr22 => kernel_rfl
          case hg22 => rfl
          case hy22 => (intro w hSw; first | (go_simp; done) | (go_simp; with_reducible rfl))
          case hQ22 => exact fun _ _ _ h => h
          try simp only [Act.put, List.setIfInBounds_toArray, List.set_cons_zero, List.set_cons_succ]
          refine wpAnyH_take (i := 22) (oi := ?oi23) (v := ?v23) ?hi23 ?hs23 ?hf23 ?hr23 ?hQ23 (Or.inl ⟨?hg23, ?hy23⟩) hHeld ?rest23
          case hi23 => simp only [List.getElem?_toArray, List.getElem?_cons_succ, List.getElem?_cons_zero]; rfl
          case hs23 => kernel_rfl
          case hf23 => kernel_rfl
          case hr23 => kernel_rfl
          case hg23 => rfl
          case hy23 => (intro w hSw; have x0 : w.cell? ⟨sb, so + i, none⟩ = some (.int .u32 x) := hSw; first | (go_simp; done) | (go_simp; with_reducible rfl))
          case hQ23 => exact fun _ _ _ h => h
          try simp only [Act.put, List.setIfInBounds_toArray, List.set_cons_zero, List.set_cons_succ]
          refine wpAnyH_take (i := 23) (oi := ?oi24) (v := ?v24) ?hi24 ?hs24 ?hf24 ?hr24 ?hQ24 (Or.inl ⟨?hg24, ?hy24⟩) hHeld ?rest24
          case hi24 => simp only [List.getElem?_toArray, List.getElem?_cons_succ, List.getElem?_cons_zero]; rfl
          case hs24 => kernel_rfl
          case hf24 => kernel_rfl
          case hr24 => kernel_rfl
          case hg24 => rfl
          case hy24 => (intro w hSw; first | (go_simp; done) | (go_simp; with_reducible rfl))
          case hQ24 => exact fun _ _ _ h => h
          try simp only [Act.put, List.setIfInBounds_toArray, List.set_cons_zero, List.set_cons_succ]
          refine wpAnyH_ready (rs := [24]) (by kernel_rfl) (by simp) ?_
          refine AllReadyH.cons (o := ?oi25) ?hi25 (fun K hK => ?_) AllReadyH.nil
          case hi25 => simp only [List.getElem?_toArray, List.getElem?_cons_succ, List.getElem?_cons_zero]; rfl
          go_simp
          refine hK.out _ _ ((cell_below (w0 := wr) cx ((Below.refl _ _).alloc (Nat.le_refl _) _).drew)) (fun hHeld2 => ?_)
          clear hK K hHeld
          have hHeld := hHeld2
          clear hHeld2
          try simp only [Act.put, List.setIfInBounds_toArray, List.set_cons_zero, List.set_cons_succ]
          refine wpAnyH_ready (rs := [25]) (by kernel_rfl) (by simp) ?_
          refine AllReadyH.cons (o := ?oi26) ?hi26 (fun K hK => ?_) AllReadyH.nil
          case hi26 => simp only [List.getElem?_toArray, List.getElem?_cons_succ, List.getElem?_cons_zero]; rfl
          refine step_append_run rfl (.tmp 30) (.tmp 54) 26 26 rfl rfl rfl hap2 ?_
          refine hK.out _ _ (cx3) (fun hHeld2 => ?_)
          clear hK K hHeld
          have hHeld := hHeld2
          clear hHeld2
          try simp only [Act.put, List.setIfInBounds_toArray, List.set_cons_zero, List.set_cons_succ]
          refine wpAnyH_take (i := 26) (oi := ?oi27) (v := ?v27) ?hi27 ?hs27 ?hf27 ?hr27 ?hQ27 (Or.inl ⟨?hg27, ?hy27⟩) hHeld ?rest27
          case hi27 => simp only [List.getElem?_toArray, List.getElem?_cons_succ, List.getElem?_cons_zero]; rfl
          case hs27 => kernel_rfl
          case hf27 => kernel_rfl
          case hr27 => kernel_rfl
          case hg27 => rfl
          case hy27 => (intro w hSw; first | (go_simp; done) | (go_simp; with_reducible rfl))
          case hQ27 => exact fun _ _ _ h => h
          try simp only [Act.put, List.setIfInBounds_toArray, List.set_cons_zero, List.set_cons_succ]
          refine wpAnyH_done (by kernel_rfl) ?_ _
          clear hHeld cx3 cx hap2
          go_wp2_with fail
          go_roundw
          case rel => exact ⟨i + 1, by go_num, by omega, by have := R3.out.1; rwa [show 4 * i + 4 = 4 * (i + 1) by omega] at this, R3.out.2.1, R3.out.2.2.1, R3.out.2.2.2.1, R3.out.2.2.2.2⟩
          case measure => simp [intOf]; omega
        · obtain rfl : i = 8 := by omega
          have hl : V.l.take 8 = V.l := rfl
          rw [hl, HFIN.out] at hown
          obtain ⟨Af, cf, rfl, hcf, hslf, _, _⟩ := own_sl hown
          have hcv2 := run_conv_str (P := Tryd.prog) (src := 26) Tryd.underlying26 Tryd.underlying5 (dst := 9) Tryd.underlying9 (c := cf) hslf
          have BE := Lib.hid (HB1.out.trans (hb.mono HB1.out.size))
          clear hown hss hne hlt hb hslf hl ji jz0 jz1 jz2
          go_wp2_with fail
          go_ret
          exact ⟨rfl, BE.out⟩
end Go.Proofs.YtlndiddplfoceaaDoor
