import Derived.Test.YtlbbehfbjbbckaaGreatDoorQf
import Derived.Test.YtlbbehfbjbbckaaGreatDoorQe
import Derived.Test.YtlbbehfbjbbckaaGreatDoorQd
import Derived.Test.YtlbbehfbjbbckaaGreatDoorQc
import Derived.Test.YtlbbehfbjbbckaaGreatDoorCards
import Derived.Test.YtlbbehfbjbbckaaGreatDoorTie
import Derived.WalkKit
import Derived.ProofKit
import Derived.OpenShut
import Derived.ChangeMaps5
import Derived.Deep.DeepHandedRow
import Derived.Lib.LaidTab
import Derived.Lib.SmallJoins
/-! One who follows a path takes a part off what is left: the program's step. -/
set_option linter.unusedVariables false
set_option linter.unusedSimpArgs false
namespace Go.Proofs.YtlbbehfbjbbckaaGreatDoor
open Go.RowKit
attribute [local go_sem] str_toList

theorem stat_dir {N : Nat → Option Nd} {top : Nat} {p : List UInt8} {s : Stt} (h : statN N (thereU (lookN N top p)) s) : dirK (kindP N top) p = ((thereU (lookN N top p)).2.2 == 0 && s.kind == 2) := by
  unfold dirK
  rcases kind_stat h with ⟨h1, h2⟩ | ⟨h1, h2⟩
  · rw [h2, h1]; rfl
  · rw [h2]
    have : ((thereU (lookN N top p)).2.2 == 0) = false := by simpa using h1
    rw [this]; rfl
set_option maxRecDepth 100000 in
set_option maxHeartbeats 8000000 in
theorem step_any (g t top c : Nat) (next : Int) (N : Nat → Option Nd) (s : Wk) (w : World) (h : WkAt w g t s) (hT : TreeAt w t top next c N) (hok : OkW (kindP N top) s) (htg : ∀ i n, N i = some n → n.target.size ≤ 200) (hr : s.row ≠ []) :
    Calls Tryz.prog 42 #[.pointer (some ⟨g, 0, none⟩)] w fun e w' => e = .returned (.int .i64 (stepW (kindP N top) s).2) ∧ WkAt w' g t (stepW (kindP N top) s).1 ∧ Only (fun k => k = g) w w' := by
  obtain ⟨A, n, cc, hnc, h1, h2, h3⟩ := h
  obtain ⟨at0, row0, hops0⟩ := s
  obtain ⟨x, r, rfl⟩ : ∃ x r, row0 = x :: r := by
    cases row0 with
    | nil => exact absurd rfl hr
    | cons x r => exact ⟨x, r, rfl⟩
  simp only at h1 h2
  obtain ⟨X, hX⟩ : ∃ X, stepW (kindP N top) ⟨at0, x :: r, hops0⟩ = X := ⟨_, rfl⟩
  have HX : Hid ((if dirK (kindP N top) at0 = false then ((⟨at0, r, hops0⟩ : Wk), (12 : Int)) else if x = [] ∨ x = [46] then (⟨at0, r, hops0⟩, 0) else if x = [46, 46] then upW ⟨at0, r, hops0⟩ else enterW (kindP N top) ⟨at0, r, hops0⟩ x) = X) := Lib.hid hX
  rw [hX]
  have hl : (x :: r).length = n := h2.strsLen
  have hn0 : 0 < n := by rw [← hl]; simp
  obtain ⟨b, o, x', hA, hx', hcell⟩ := h2.strRow hn0
  obtain rfl : x = x' := by simpa using hx'
  rw [Nat.add_zero] at hcell
  obtain ⟨hs2, ha2⟩ := h2.tailS hnc
  have h32 : ∀ a, subAt A 1 cc 1 = some a → a.block ≠ g := fun a ha => by obtain ⟨a0, e1, e2⟩ := ha2 a ha; rw [e2]; exact h3 a0 e1
  obtain ⟨i0, hi0, hz0, hz1, hz2⟩ := info_parts infoS
  have hsl : ∀ w : World, (Instr.slice 35 (.slice A n cc) (some (.int .i64 1)) none none).run Tryz.prog w = .ok (.slice (subAt A 1 cc 1) (n - 1) (cc - 1)) w := fun w => run_slice_from undSt elemSt hi0 hz1 A n cc 1 (by omega) .i64 1 rfl
  have hxl : x.length ≤ 200 := hok.row x (List.mem_cons_self ..)
  have hok2 : OkW (kindP N top) ⟨at0, r, hops0⟩ := ⟨hok.hops, hok.at_, fun y hy => hok.row y (List.mem_cons_of_mem _ hy), by have h9 : (x :: r).length + 201 * (16 - hops0) ≤ 201 * 17 := hok.len; rw [List.length_cons] at h9; show r.length + 201 * (16 - hops0) ≤ 201 * 17; omega⟩
  have hrl : r.length ≤ 4000 := by have h9 : r.length + 201 * (16 - hops0) ≤ 201 * 17 := hok2.len; omega
  have hal : at0.length ≤ 200 := hok.at_
  generalize hA2 : subAt A 1 cc 1 = A2 at *
  obtain ⟨x0, x1, x2, x3, xf⟩ := walker_cells h1
  have f2 := xf 2
  have hwset := h1.set 2 (.slice A2 (n - 1) (cc - 1))
  have hh : ∀ k, k < w.heap.size → k ≠ g → (w.setCell ⟨g, 2, none⟩ (.slice A2 (n - 1) (cc - 1))).heap[k]? = w.heap[k]? := fun k _ hk => Below.heap_setCell _ _ _ _ hk
  have hs3 := hs2.strsOnly h1 h32 hh
  have hT3 := hT.other h1 (by decide) (by decide) (by decide) hh
  have HW := Lib.hid hwset
  have HS := Lib.hid hs3
  have HT := Lib.hid hT3
  have HA := Lib.hid h32
  have HO := Lib.hid (Only.set (P := fun k => k = g) w ⟨g, 2, none⟩ (.slice A2 (n - 1) (cc - 1)) rfl)
  have HOK := Lib.hid hok2
  have HTG := Lib.hid htg
  have hnc2 : n - 1 ≤ cc - 1 := by omega
  subst hA
  clear hX h1 h2 h3 hT hok htg hx' hs2 ha2 h32 hi0 hz0 hz1 hz2 hok2 xf hwset hs3 hT3 hr hl hA2 hh
  go_enter Tryz.func42, Tryz.ntmps42
  go_wp2_with fail
  clear hcell hsl x0 x1 x2 x3 f2
  generalize w.setCell ⟨g, 2, none⟩ (.slice A2 (n - 1) (cc - 1)) = wa at *
  have hga : g < wa.heap.size := HW.out.lt
  have g0 := HW.out.cell 0
  have g1 := HW.out.cell 1
  simp only [List.getElem?_cons_zero, List.getElem?_cons_succ, List.set_cons_zero, List.set_cons_succ] at g0 g1
  have g0' : wa.drew.cell? ⟨g, 0, none⟩ = some (.pointer (some ⟨t, 0, none⟩)) := g0
  have g1' : wa.drew.cell? ⟨g, 1, none⟩ = some (.string (str at0)) := g1
  have hqs : (str at0).size ≤ 2097152 := by rw [size_toList]; omega
  have TD : TreeAt wa.drew t top next c N := HT.out.below ((Below.refl wa.heap.size wa).drew)
  have HST := Lib.hid (fun (w' : World) (h : TreeAt w' t top next c N) => Stat_any t top c next N (str at0) w' h hqs)
  have hsq : (str at0).data.toList = at0 := by simp [str]
  rw [hsq] at HST
  have HDK := Lib.hid (fun sr => stat_dir (N := N) (top := top) (p := at0) (s := sr))
  have HTD := Lib.hid TD
  obtain ⟨er, hEr⟩ : ∃ er, (thereU (lookN N top at0)).2.2 = er := ⟨_, rfl⟩
  rw [hEr] at HST HDK
  clear g0 g1 TD hsq hEr
  refine wp_region_held_drew (S := fun w' => Below (wa.drew).heap.size (wa.drew) w') (by kernel_rfl) (Below.refl _ _) (fun hHeld => ?_)
  refine wpAnyH_take (i := 0) (oi := ?oi1) (v := ?v1) ?hi1 ?hs1 ?hf1 ?hr1 ?hQ1 (Or.inl ⟨?hg1, ?hy1⟩) hHeld ?rest1
  case hi1 => simp only [List.getElem?_toArray, List.getElem?_cons_succ, List.getElem?_cons_zero]; rfl
  case hs1 => kernel_rfl
  case hf1 => kernel_rfl
  case hr1 => kernel_rfl
  case hg1 => rfl
  case hy1 => (intro w hSw; first | (go_simp; done) | (go_simp; with_reducible rfl))
  case hQ1 => exact fun _ _ _ h => h
  try simp only [Act.put, List.setIfInBounds_toArray, List.set_cons_zero, List.set_cons_succ]
  refine wpAnyH_take (i := 1) (oi := ?oi2) (v := ?v2) ?hi2 ?hs2 ?hf2 ?hr2 ?hQ2 (Or.inl ⟨?hg2, ?hy2⟩) hHeld ?rest2
  case hi2 => simp only [List.getElem?_toArray, List.getElem?_cons_succ, List.getElem?_cons_zero]; rfl
  case hs2 => kernel_rfl
  case hf2 => kernel_rfl
  case hr2 => kernel_rfl
  case hg2 => rfl
  case hy2 => (intro w hSw; first | (go_simp; done) | (go_simp; with_reducible rfl))
  case hQ2 => exact fun _ _ _ h => h
  try simp only [Act.put, List.setIfInBounds_toArray, List.set_cons_zero, List.set_cons_succ]
  refine wpAnyH_take (i := 2) (oi := ?oi3) (v := ?v3) ?hi3 ?hs3 ?hf3 ?hr3 ?hQ3 (Or.inl ⟨?hg3, ?hy3⟩) hHeld ?rest3
  case hi3 => simp only [List.getElem?_toArray, List.getElem?_cons_succ, List.getElem?_cons_zero]; rfl
  case hs3 => kernel_rfl
  case hf3 => kernel_rfl
  case hr3 => kernel_rfl
  case hg3 => rfl
  case hy3 => (intro w hSw; first | (go_simp; done) | (go_simp; with_reducible rfl))
  case hQ3 => exact fun _ _ _ h => h
  try simp only [Act.put, List.setIfInBounds_toArray, List.set_cons_zero, List.set_cons_succ]
  refine wpAnyH_take (i := 3) (oi := ?oi4) (v := ?v4) ?hi4 ?hs4 ?hf4 ?hr4 ?hQ4 (Or.inl ⟨?hg4, ?hy4⟩) hHeld ?rest4
  case hi4 => simp only [List.getElem?_toArray, List.getElem?_cons_succ, List.getElem?_cons_zero]; rfl
  case hs4 => kernel_rfl
  case hf4 => kernel_rfl
  case hr4 => kernel_rfl
  case hg4 => rfl
  case hy4 => (intro w hSw; have x0 := cell_below g0' hSw; first | (go_simp; done) | (go_simp; with_reducible rfl))
  case hQ4 => exact fun _ _ _ h => h
  try simp only [Act.put, List.setIfInBounds_toArray, List.set_cons_zero, List.set_cons_succ]
  refine wpAnyH_take (i := 4) (oi := ?oi5) (v := ?v5) ?hi5 ?hs5 ?hf5 ?hr5 ?hQ5 (Or.inl ⟨?hg5, ?hy5⟩) hHeld ?rest5
  case hi5 => simp only [List.getElem?_toArray, List.getElem?_cons_succ, List.getElem?_cons_zero]; rfl
  case hs5 => kernel_rfl
  case hf5 => kernel_rfl
  case hr5 => kernel_rfl
  case hg5 => rfl
  case hy5 => (intro w hSw; first | (go_simp; done) | (go_simp; with_reducible rfl))
  case hQ5 => exact fun _ _ _ h => h
  try simp only [Act.put, List.setIfInBounds_toArray, List.set_cons_zero, List.set_cons_succ]
  refine wpAnyH_take (i := 5) (oi := ?oi6) (v := ?v6) ?hi6 ?hs6 ?hf6 ?hr6 ?hQ6 (Or.inl ⟨?hg6, ?hy6⟩) hHeld ?rest6
  case hi6 => simp only [List.getElem?_toArray, List.getElem?_cons_succ, List.getElem?_cons_zero]; rfl
  case hs6 => kernel_rfl
  case hf6 => kernel_rfl
  case hr6 => kernel_rfl
  case hg6 => rfl
  case hy6 => (intro w hSw; first | (go_simp; done) | (go_simp; with_reducible rfl))
  case hQ6 => exact fun _ _ _ h => h
  try simp only [Act.put, List.setIfInBounds_toArray, List.set_cons_zero, List.set_cons_succ]
  refine wpAnyH_take (i := 6) (oi := ?oi7) (v := ?v7) ?hi7 ?hs7 ?hf7 ?hr7 ?hQ7 (Or.inl ⟨?hg7, ?hy7⟩) hHeld ?rest7
  case hi7 => simp only [List.getElem?_toArray, List.getElem?_cons_succ, List.getElem?_cons_zero]; rfl
  case hs7 => kernel_rfl
  case hf7 => kernel_rfl
  case hr7 => kernel_rfl
  case hg7 => rfl
  case hy7 => (intro w hSw; first | (go_simp; done) | (go_simp; with_reducible rfl))
  case hQ7 => exact fun _ _ _ h => h
  try simp only [Act.put, List.setIfInBounds_toArray, List.set_cons_zero, List.set_cons_succ]
  refine wpAnyH_take (i := 7) (oi := ?oi8) (v := ?v8) ?hi8 ?hs8 ?hf8 ?hr8 ?hQ8 (Or.inl ⟨?hg8, ?hy8⟩) hHeld ?rest8
  case hi8 => simp only [List.getElem?_toArray, List.getElem?_cons_succ, List.getElem?_cons_zero]; rfl
  case hs8 => kernel_rfl
  case hf8 => kernel_rfl
  case hr8 => kernel_rfl
  case hg8 => rfl
  case hy8 => (intro w hSw; have x0 := cell_below g1' hSw; first | (go_simp; done) | (go_simp; with_reducible rfl))
  case hQ8 => exact fun _ _ _ h => h
  try simp only [Act.put, List.setIfInBounds_toArray, List.set_cons_zero, List.set_cons_succ]
  refine wpAnyH_ready (rs := [8, 12]) (by kernel_rfl) (by simp) ?_
  refine AllReadyH.cons (o := ?oa9) ?ha9 (fun K hK => ?eA) (AllReadyH.cons (o := ?ob9) ?hb9 (fun K hK => ?eB) AllReadyH.nil)
  case ha9 => simp only [List.getElem?_toArray, List.getElem?_cons_succ, List.getElem?_cons_zero]; rfl
  case hb9 => simp only [List.getElem?_toArray, List.getElem?_cons_succ, List.getElem?_cons_zero]; rfl
  case eA =>
    go_simp; go_at_call 26; refine (HST.out _ HTD.out).mono ?_; rintro e w5 ⟨⟨sr, hst, rfl⟩, hb5⟩; unfold aggT encT; go_wp2_with fail
    refine hK.out _ _ (hb5) (fun hHeld2 => ?_)
    clear hK K hHeld
    have hHeld := hHeld2
    clear hHeld2
    try simp only [Act.put, List.setIfInBounds_toArray, List.set_cons_zero, List.set_cons_succ]
    refine wpAnyH_take (i := 9) (oi := ?oi10) (v := ?v10) ?hi10 ?hs10 ?hf10 ?hr10 ?hQ10 (Or.inl ⟨?hg10, ?hy10⟩) hHeld ?rest10
    case hi10 => simp only [List.getElem?_toArray, List.getElem?_cons_succ, List.getElem?_cons_zero]; rfl
    case hs10 => kernel_rfl
    case hf10 => kernel_rfl
    case hr10 => kernel_rfl
    case hg10 => rfl
    case hy10 => (intro w hSw; first | (go_simp; done) | (go_simp; with_reducible rfl))
    case hQ10 => exact fun _ _ _ h => h
    try simp only [Act.put, List.setIfInBounds_toArray, List.set_cons_zero, List.set_cons_succ]
    refine wpAnyH_take (i := 10) (oi := ?oi11) (v := ?v11) ?hi11 ?hs11 ?hf11 ?hr11 ?hQ11 (Or.inl ⟨?hg11, ?hy11⟩) hHeld ?rest11
    case hi11 => simp only [List.getElem?_toArray, List.getElem?_cons_succ, List.getElem?_cons_zero]; rfl
    case hs11 => kernel_rfl
    case hf11 => kernel_rfl
    case hr11 => kernel_rfl
    case hg11 => rfl
    case hy11 => (intro w hSw; first | (go_simp; done) | (go_simp; with_reducible rfl))
    case hQ11 => exact fun _ _ _ h => h
    try simp only [Act.put, List.setIfInBounds_toArray, List.set_cons_zero, List.set_cons_succ]
    refine wpAnyH_take (i := 11) (oi := ?oi12) (v := ?v12) ?hi12 ?hs12 ?hf12 ?hr12 ?hQ12 (Or.inl ⟨?hg12, ?hy12⟩) hHeld ?rest12
    case hi12 => simp only [List.getElem?_toArray, List.getElem?_cons_succ, List.getElem?_cons_zero]; rfl
    case hs12 => kernel_rfl
    case hf12 => kernel_rfl
    case hr12 => kernel_rfl
    case hg12 => rfl
    case hy12 => (intro w hSw; first | (go_simp; done) | (go_simp; with_reducible rfl))
    case hQ12 => exact fun _ _ _ h => h
    try simp only [Act.put, List.setIfInBounds_toArray, List.set_cons_zero, List.set_cons_succ]
    refine wpAnyH_ready (rs := [12]) (by kernel_rfl) (by simp) ?_
    refine AllReadyH.cons (o := ?oi13) ?hi13 (fun K hK => ?_) AllReadyH.nil
    case hi13 => simp only [List.getElem?_toArray, List.getElem?_cons_succ, List.getElem?_cons_zero]; rfl
    go_wp2_with fail
    have hz0 : Below wa.drew.heap.size wa.drew (w5.alloc (.cells #[.int .i64 0, .int .i64 0, .int .i64 0, .int .i64 0, .int .i64 0, .int .i64 0, .int .i64 0, .int .i64 0, .int .i64 0, .string ⟨#[]⟩] 55)) := hb5.alloc hb5.size _
    have NZ := Lib.hid (Blk.newA w5 55 #[.int .i64 0, .int .i64 0, .int .i64 0, .int .i64 0, .int .i64 0, .int .i64 0, .int .i64 0, .int .i64 0, .int .i64 0, .string ⟨#[]⟩])
    generalize hwz : w5.alloc (.cells #[.int .i64 0, .int .i64 0, .int .i64 0, .int .i64 0, .int .i64 0, .int .i64 0, .int .i64 0, .int .i64 0, .int .i64 0, .string ⟨#[]⟩] 55) = wz at *
    refine hK.out _ _ (hz0) (fun hHeld2 => ?_)
    clear hK K hHeld
    have hHeld := hHeld2
    clear hHeld2
    try simp only [Act.put, List.setIfInBounds_toArray, List.set_cons_zero, List.set_cons_succ]
    refine wpAnyH_ready (rs := [13]) (by kernel_rfl) (by simp) ?_
    refine AllReadyH.cons (o := ?oi14) ?hi14 (fun K hK => ?_) AllReadyH.nil
    case hi14 => simp only [List.getElem?_toArray, List.getElem?_cons_succ, List.getElem?_cons_zero]; rfl
    refine step_store_row rfl 55 (.tmp 4) (.tmp 31) rfl w5.heap.size _ _ _ rfl rfl NZ.out (by kernel_rfl) rfl (by simp [Value.oneCell']) ?_
    have hz1 : Below wa.drew.heap.size wa.drew (wz.setRow w5.heap.size #[.int .i64 sr.kind, .int .i64 sr.ino, .int .i64 sr.size, .int .i64 sr.links, .int .i64 sr.mt.m0, .int .i64 sr.mt.m1, .int .i64 sr.mt.m2, .int .i64 sr.mt.m3, .int .i64 sr.mt.m4, .string sr.target]) := belowRow hz0 hb5.size _
    have N6 := Lib.hid (show Blk (wz.setRow w5.heap.size #[.int .i64 sr.kind, .int .i64 sr.ino, .int .i64 sr.size, .int .i64 sr.links, .int .i64 sr.mt.m0, .int .i64 sr.mt.m1, .int .i64 sr.mt.m2, .int .i64 sr.mt.m3, .int .i64 sr.mt.m4, .string sr.target]) w5.heap.size 55 (encT sr) from NZ.out.setRow (encT sr))
    generalize hw6 : wz.setRow w5.heap.size #[.int .i64 sr.kind, .int .i64 sr.ino, .int .i64 sr.size, .int .i64 sr.links, .int .i64 sr.mt.m0, .int .i64 sr.mt.m1, .int .i64 sr.mt.m2, .int .i64 sr.mt.m3, .int .i64 sr.mt.m4, .string sr.target] = w6 at *
    refine hK.out _ _ (hz1) (fun hHeld2 => ?_)
    clear hK K hHeld
    have hHeld := hHeld2
    clear hHeld2
    try simp only [Act.put, List.setIfInBounds_toArray, List.set_cons_zero, List.set_cons_succ]
    refine wpAnyH_take (i := 14) (oi := ?oi15) (v := ?v15) ?hi15 ?hs15 ?hf15 ?hr15 ?hQ15 (Or.inl ⟨?hg15, ?hy15⟩) hHeld ?rest15
    case hi15 => simp only [List.getElem?_toArray, List.getElem?_cons_succ, List.getElem?_cons_zero]; rfl
    case hs15 => kernel_rfl
    case hf15 => kernel_rfl
    case hr15 => kernel_rfl
    case hg15 => rfl
    case hy15 => (intro w hSw; first | (go_simp; done) | (go_simp; with_reducible rfl))
    case hQ15 => exact fun _ _ _ h => h
    try simp only [Act.put, List.setIfInBounds_toArray, List.set_cons_zero, List.set_cons_succ]
    refine wpAnyH_done (by kernel_rfl) ?_ _
    clear hz0 hwz hw6 NZ hb5
    clear hHeld
    have HB6 := Lib.hid (((Below.refl wa.heap.size wa).drew).trans (show Below wa.heap.size wa.drew w6 from hz1))
    have DK := Lib.hid (HDK.out sr hst)
    clear hst hz1 HST HDK g0' g1'
    have W6 := Lib.hid (HW.out.below HB6.out)
    have S6 := Lib.hid (HS.out.below HB6.out)
    have T6 := Lib.hid (HT.out.below HB6.out)
    have O6 := Lib.hid (HO.out.trans (Only.of HB6.out))
    obtain ⟨⟨u0, _⟩, _⟩ := stat_facts N6.out
    generalize hbs : w5.heap.size = bs at *
    rcases Classical.em (er = 0) with he | he
    · rcases Classical.em (sr.kind = 2) with hk | hk
      · have e1 : (er != 0) = false := by simpa using he
        have e2 : (sr.kind != 2) = false := by simpa using hk
        have HX1 := Lib.hid (show (if x = [] ∨ x = [46] then ((⟨at0, r, hops0⟩ : Wk), (0 : Int)) else if x = [46, 46] then upW ⟨at0, r, hops0⟩ else enterW (kindP N top) ⟨at0, r, hops0⟩ x) = X by
          rw [← HX.out, DK.out, he, hk]; rfl)
        clear he hk HX DK
        have hmf : ∀ (fn : Fn) (first cap : Array Value) (w : World), (Instr.makeFunc fn first cap).run Tryz.prog w = .ok (.func fn first cap) w := fun _ _ _ _ => rfl
        by_cases hx0 : x = []
        · subst hx0
          have K := Lib.hid (show X = ((⟨at0, r, hops0⟩ : Wk), (0 : Int)) from HX1.out.symm)
          go_wp2_with fail
          go_ret
          rw [K.out]
          exact ⟨rfl, ⟨A2, _, _, hnc2, W6.out, S6.out, HA.out⟩, O6.out⟩
        by_cases hx1 : x = [46]
        · subst hx1
          have K := Lib.hid (show X = ((⟨at0, r, hops0⟩ : Wk), (0 : Int)) from HX1.out.symm)
          go_wp2_with fail
          go_ret
          rw [K.out]
          exact ⟨rfl, ⟨A2, _, _, hnc2, W6.out, S6.out, HA.out⟩, O6.out⟩
        by_cases hx2 : x = [46, 46]
        · subst hx2
          have K := Lib.hid (show X = upW ⟨at0, r, hops0⟩ from HX1.out.symm)
          go_wp2_with fail
          refine (up_any g t ⟨at0, r, hops0⟩ _ w6 ⟨A2, _, _, hnc2, W6.out, S6.out, HA.out⟩ hal).mono ?_
          rintro e w7 ⟨rfl, hw7, ho7⟩
          have R7 := Lib.hid (And.intro hw7 ho7)
          clear hw7 ho7
          rw [← K.out] at R7 ⊢
          go_wp2_with fail
          go_ret
          exact ⟨rfl, R7.out.1, O6.out.trans R7.out.2⟩
        · have K := Lib.hid (show X = enterW (kindP N top) ⟨at0, r, hops0⟩ x by rw [← HX1.out, if_neg (fun h => h.elim hx0 hx1), if_neg hx2])
          have q0 : x.isEmpty = false := by cases x with | nil => exact absurd rfl hx0 | cons a l => rfl
          have q00 : (x == []) = false := by simpa using hx0
          have q1 : (x == [46]) = false := by simpa using hx1
          have q2 : (x == [46, 46]) = false := by simpa using hx2
          clear hx0 hx1 hx2
          go_wp2_with fail
          refine (enter_any g t top c next N ⟨at0, r, hops0⟩ x w6 ⟨A2, _, _, hnc2, W6.out, S6.out, HA.out⟩ T6.out HOK.out hxl HTG.out hrl).mono ?_
          rintro e w7 ⟨rfl, hw7, ho7⟩
          have R7 := Lib.hid (And.intro hw7 ho7)
          clear hw7 ho7
          rw [← K.out] at R7 ⊢
          go_wp2_with fail
          go_ret
          exact ⟨rfl, R7.out.1, O6.out.trans R7.out.2⟩
      · have e1 : (er != 0) = false := by simpa using he
        have e2 : (sr.kind != 2) = true := by simpa using hk
        have K := Lib.hid (show X = ((⟨at0, r, hops0⟩ : Wk), (12 : Int)) by
          rw [← HX.out, DK.out, he]
          have : (sr.kind == 2) = false := by simpa using hk
          rw [this]; rfl)
        clear he hk
        go_wp2_with fail
        go_ret
        rw [K.out]
        exact ⟨rfl, ⟨A2, _, _, hnc2, W6.out, S6.out, HA.out⟩, O6.out⟩
    · have e1 : (er != 0) = true := by simpa using he
      have K := Lib.hid (show X = ((⟨at0, r, hops0⟩ : Wk), (12 : Int)) by
        rw [← HX.out, DK.out]
        have : (er == 0) = false := by simpa using he
        rw [this]; rfl)
      clear he
      go_wp2_with fail
      go_ret
      rw [K.out]
      exact ⟨rfl, ⟨A2, _, _, hnc2, W6.out, S6.out, HA.out⟩, O6.out⟩
  case eB =>
    go_wp2_with fail
    have hz0 : Below wa.drew.heap.size wa.drew (wa.alloc (.cells #[.int .i64 0, .int .i64 0, .int .i64 0, .int .i64 0, .int .i64 0, .int .i64 0, .int .i64 0, .int .i64 0, .int .i64 0, .string ⟨#[]⟩] 55)).drew := ((Below.refl wa.heap.size wa.drew).alloc (Nat.le_refl _) _)
    have NZ := Lib.hid (show Blk (wa.alloc (.cells #[.int .i64 0, .int .i64 0, .int .i64 0, .int .i64 0, .int .i64 0, .int .i64 0, .int .i64 0, .int .i64 0, .int .i64 0, .string ⟨#[]⟩] 55)).drew wa.heap.size 55 (encT noT) from Blk.newA wa 55 #[.int .i64 0, .int .i64 0, .int .i64 0, .int .i64 0, .int .i64 0, .int .i64 0, .int .i64 0, .int .i64 0, .int .i64 0, .string ⟨#[]⟩])
    generalize hwz : (wa.alloc (.cells #[.int .i64 0, .int .i64 0, .int .i64 0, .int .i64 0, .int .i64 0, .int .i64 0, .int .i64 0, .int .i64 0, .int .i64 0, .string ⟨#[]⟩] 55)).drew = wz at *
    refine hK.out _ _ (hz0) (fun hHeld2 => ?_)
    clear hK K hHeld
    have hHeld := hHeld2
    clear hHeld2
    try simp only [Act.put, List.setIfInBounds_toArray, List.set_cons_zero, List.set_cons_succ]
    refine wpAnyH_ready (rs := [8]) (by kernel_rfl) (by simp) ?_
    refine AllReadyH.cons (o := ?oi16) ?hi16 (fun K hK => ?_) AllReadyH.nil
    case hi16 => simp only [List.getElem?_toArray, List.getElem?_cons_succ, List.getElem?_cons_zero]; rfl
    go_simp; go_at_call 26; refine (HST.out _ (HTD.out.below hz0)).mono ?_; rintro e w5 ⟨⟨sr, hst, rfl⟩, hb5⟩; unfold aggT encT; go_wp2_with fail
    have hz2 := hz0.trans (hb5.mono hz0.size)
    have N5 := Lib.hid (NZ.out.below hb5)
    refine hK.out _ _ (hz2) (fun hHeld2 => ?_)
    clear hK K hHeld
    have hHeld := hHeld2
    clear hHeld2
    try simp only [Act.put, List.setIfInBounds_toArray, List.set_cons_zero, List.set_cons_succ]
    refine wpAnyH_take (i := 9) (oi := ?oi17) (v := ?v17) ?hi17 ?hs17 ?hf17 ?hr17 ?hQ17 (Or.inl ⟨?hg17, ?hy17⟩) hHeld ?rest17
    case hi17 => simp only [List.getElem?_toArray, List.getElem?_cons_succ, List.getElem?_cons_zero]; rfl
    case hs17 => kernel_rfl
    case hf17 => kernel_rfl
    case hr17 => kernel_rfl
    case hg17 => rfl
    case hy17 => (intro w hSw; first | (go_simp; done) | (go_simp; with_reducible rfl))
    case hQ17 => exact fun _ _ _ h => h
    try simp only [Act.put, List.setIfInBounds_toArray, List.set_cons_zero, List.set_cons_succ]
    refine wpAnyH_take (i := 10) (oi := ?oi18) (v := ?v18) ?hi18 ?hs18 ?hf18 ?hr18 ?hQ18 (Or.inl ⟨?hg18, ?hy18⟩) hHeld ?rest18
    case hi18 => simp only [List.getElem?_toArray, List.getElem?_cons_succ, List.getElem?_cons_zero]; rfl
    case hs18 => kernel_rfl
    case hf18 => kernel_rfl
    case hr18 => kernel_rfl
    case hg18 => rfl
    case hy18 => (intro w hSw; first | (go_simp; done) | (go_simp; with_reducible rfl))
    case hQ18 => exact fun _ _ _ h => h
    try simp only [Act.put, List.setIfInBounds_toArray, List.set_cons_zero, List.set_cons_succ]
    refine wpAnyH_take (i := 11) (oi := ?oi19) (v := ?v19) ?hi19 ?hs19 ?hf19 ?hr19 ?hQ19 (Or.inl ⟨?hg19, ?hy19⟩) hHeld ?rest19
    case hi19 => simp only [List.getElem?_toArray, List.getElem?_cons_succ, List.getElem?_cons_zero]; rfl
    case hs19 => kernel_rfl
    case hf19 => kernel_rfl
    case hr19 => kernel_rfl
    case hg19 => rfl
    case hy19 => (intro w hSw; first | (go_simp; done) | (go_simp; with_reducible rfl))
    case hQ19 => exact fun _ _ _ h => h
    try simp only [Act.put, List.setIfInBounds_toArray, List.set_cons_zero, List.set_cons_succ]
    refine wpAnyH_ready (rs := [13]) (by kernel_rfl) (by simp) ?_
    refine AllReadyH.cons (o := ?oi20) ?hi20 (fun K hK => ?_) AllReadyH.nil
    case hi20 => simp only [List.getElem?_toArray, List.getElem?_cons_succ, List.getElem?_cons_zero]; rfl
    refine step_store_row rfl 55 (.tmp 4) (.tmp 31) rfl wa.heap.size _ _ _ rfl rfl N5.out (by kernel_rfl) rfl (by simp [Value.oneCell']) ?_
    have hz1 : Below wa.drew.heap.size wa.drew (w5.setRow wa.heap.size #[.int .i64 sr.kind, .int .i64 sr.ino, .int .i64 sr.size, .int .i64 sr.links, .int .i64 sr.mt.m0, .int .i64 sr.mt.m1, .int .i64 sr.mt.m2, .int .i64 sr.mt.m3, .int .i64 sr.mt.m4, .string sr.target]) := belowRow hz2 (Nat.le_refl _) _
    have N6 := Lib.hid (show Blk (w5.setRow wa.heap.size #[.int .i64 sr.kind, .int .i64 sr.ino, .int .i64 sr.size, .int .i64 sr.links, .int .i64 sr.mt.m0, .int .i64 sr.mt.m1, .int .i64 sr.mt.m2, .int .i64 sr.mt.m3, .int .i64 sr.mt.m4, .string sr.target]) wa.heap.size 55 (encT sr) from N5.out.setRow (encT sr))
    generalize hw6 : w5.setRow wa.heap.size #[.int .i64 sr.kind, .int .i64 sr.ino, .int .i64 sr.size, .int .i64 sr.links, .int .i64 sr.mt.m0, .int .i64 sr.mt.m1, .int .i64 sr.mt.m2, .int .i64 sr.mt.m3, .int .i64 sr.mt.m4, .string sr.target] = w6 at *
    refine hK.out _ _ (hz1) (fun hHeld2 => ?_)
    clear hK K hHeld
    have hHeld := hHeld2
    clear hHeld2
    try simp only [Act.put, List.setIfInBounds_toArray, List.set_cons_zero, List.set_cons_succ]
    refine wpAnyH_take (i := 14) (oi := ?oi21) (v := ?v21) ?hi21 ?hs21 ?hf21 ?hr21 ?hQ21 (Or.inl ⟨?hg21, ?hy21⟩) hHeld ?rest21
    case hi21 => simp only [List.getElem?_toArray, List.getElem?_cons_succ, List.getElem?_cons_zero]; rfl
    case hs21 => kernel_rfl
    case hf21 => kernel_rfl
    case hr21 => kernel_rfl
    case hg21 => rfl
    case hy21 => (intro w hSw; first | (go_simp; done) | (go_simp; with_reducible rfl))
    case hQ21 => exact fun _ _ _ h => h
    try simp only [Act.put, List.setIfInBounds_toArray, List.set_cons_zero, List.set_cons_succ]
    refine wpAnyH_done (by kernel_rfl) ?_ _
    clear hz0 hwz hw6 NZ hb5 N5 hz2
    clear hHeld
    have HB6 := Lib.hid (((Below.refl wa.heap.size wa).drew).trans (show Below wa.heap.size wa.drew w6 from hz1))
    have DK := Lib.hid (HDK.out sr hst)
    clear hst hz1 HST HDK g0' g1'
    have W6 := Lib.hid (HW.out.below HB6.out)
    have S6 := Lib.hid (HS.out.below HB6.out)
    have T6 := Lib.hid (HT.out.below HB6.out)
    have O6 := Lib.hid (HO.out.trans (Only.of HB6.out))
    obtain ⟨⟨u0, _⟩, _⟩ := stat_facts N6.out
    generalize hbs : wa.heap.size = bs at *
    rcases Classical.em (er = 0) with he | he
    · rcases Classical.em (sr.kind = 2) with hk | hk
      · have e1 : (er != 0) = false := by simpa using he
        have e2 : (sr.kind != 2) = false := by simpa using hk
        have HX1 := Lib.hid (show (if x = [] ∨ x = [46] then ((⟨at0, r, hops0⟩ : Wk), (0 : Int)) else if x = [46, 46] then upW ⟨at0, r, hops0⟩ else enterW (kindP N top) ⟨at0, r, hops0⟩ x) = X by
          rw [← HX.out, DK.out, he, hk]; rfl)
        clear he hk HX DK
        have hmf : ∀ (fn : Fn) (first cap : Array Value) (w : World), (Instr.makeFunc fn first cap).run Tryz.prog w = .ok (.func fn first cap) w := fun _ _ _ _ => rfl
        by_cases hx0 : x = []
        · subst hx0
          have K := Lib.hid (show X = ((⟨at0, r, hops0⟩ : Wk), (0 : Int)) from HX1.out.symm)
          go_wp2_with fail
          go_ret
          rw [K.out]
          exact ⟨rfl, ⟨A2, _, _, hnc2, W6.out, S6.out, HA.out⟩, O6.out⟩
        by_cases hx1 : x = [46]
        · subst hx1
          have K := Lib.hid (show X = ((⟨at0, r, hops0⟩ : Wk), (0 : Int)) from HX1.out.symm)
          go_wp2_with fail
          go_ret
          rw [K.out]
          exact ⟨rfl, ⟨A2, _, _, hnc2, W6.out, S6.out, HA.out⟩, O6.out⟩
        by_cases hx2 : x = [46, 46]
        · subst hx2
          have K := Lib.hid (show X = upW ⟨at0, r, hops0⟩ from HX1.out.symm)
          go_wp2_with fail
          refine (up_any g t ⟨at0, r, hops0⟩ _ w6 ⟨A2, _, _, hnc2, W6.out, S6.out, HA.out⟩ hal).mono ?_
          rintro e w7 ⟨rfl, hw7, ho7⟩
          have R7 := Lib.hid (And.intro hw7 ho7)
          clear hw7 ho7
          rw [← K.out] at R7 ⊢
          go_wp2_with fail
          go_ret
          exact ⟨rfl, R7.out.1, O6.out.trans R7.out.2⟩
        · have K := Lib.hid (show X = enterW (kindP N top) ⟨at0, r, hops0⟩ x by rw [← HX1.out, if_neg (fun h => h.elim hx0 hx1), if_neg hx2])
          have q0 : x.isEmpty = false := by cases x with | nil => exact absurd rfl hx0 | cons a l => rfl
          have q00 : (x == []) = false := by simpa using hx0
          have q1 : (x == [46]) = false := by simpa using hx1
          have q2 : (x == [46, 46]) = false := by simpa using hx2
          clear hx0 hx1 hx2
          go_wp2_with fail
          refine (enter_any g t top c next N ⟨at0, r, hops0⟩ x w6 ⟨A2, _, _, hnc2, W6.out, S6.out, HA.out⟩ T6.out HOK.out hxl HTG.out hrl).mono ?_
          rintro e w7 ⟨rfl, hw7, ho7⟩
          have R7 := Lib.hid (And.intro hw7 ho7)
          clear hw7 ho7
          rw [← K.out] at R7 ⊢
          go_wp2_with fail
          go_ret
          exact ⟨rfl, R7.out.1, O6.out.trans R7.out.2⟩
      · have e1 : (er != 0) = false := by simpa using he
        have e2 : (sr.kind != 2) = true := by simpa using hk
        have K := Lib.hid (show X = ((⟨at0, r, hops0⟩ : Wk), (12 : Int)) by
          rw [← HX.out, DK.out, he]
          have : (sr.kind == 2) = false := by simpa using hk
          rw [this]; rfl)
        clear he hk
        go_wp2_with fail
        go_ret
        rw [K.out]
        exact ⟨rfl, ⟨A2, _, _, hnc2, W6.out, S6.out, HA.out⟩, O6.out⟩
    · have e1 : (er != 0) = true := by simpa using he
      have K := Lib.hid (show X = ((⟨at0, r, hops0⟩ : Wk), (12 : Int)) by
        rw [← HX.out, DK.out]
        have : (er == 0) = false := by simpa using he
        rw [this]; rfl)
      clear he
      go_wp2_with fail
      go_ret
      rw [K.out]
      exact ⟨rfl, ⟨A2, _, _, hnc2, W6.out, S6.out, HA.out⟩, O6.out⟩
end Go.Proofs.YtlbbehfbjbbckaaGreatDoor

/-! A path, followed: the program's Resolve. -/
set_option linter.unusedVariables false
set_option linter.unusedSimpArgs false
namespace Go.Proofs.YtlbbehfbjbbckaaGreatDoor
open Go.RowKit

def leftAt (wr : World) (g : Nat) : Nat := match wr.cell? ⟨g, 2, none⟩, wr.cell? ⟨g, 3, none⟩ with | some (.slice _ n _), some (.int _ h) => n + 202 * (16 - h.toNat) | _, _ => 0
theorem WkAt.left {w : World} {g t : Nat} {s : Wk} (h : WkAt w g t s) : leftAt w g = leftW s := by
  obtain ⟨A, n, c, h0, h1, h2, h3⟩ := h
  have e2 := h1.cell 2
  have e3 := h1.cell 3
  simp only [List.getElem?_cons_zero, List.getElem?_cons_succ] at e2 e3
  unfold leftAt leftW
  rw [e2, e3, ← h2.strsLen]
  simp
set_option maxRecDepth 100000 in
set_option maxHeartbeats 4000000 in
theorem resolve_any (t top c : Nat) (next : Int) (N : Nat → Option Nd) (p : ByteArray) (w : World) (hT : TreeAt w t top next c N) (htg : ∀ i n, N i = some n → n.target.size ≤ 200) (hp : p.size ≤ 2097152) :
    Calls Tryz.prog 10 #[.pointer (some ⟨t, 0, none⟩), .string p] w fun e w' => e = .returned (.tuple #[.string (str (resolveU (kindP N top) p.data.toList).1), .int .i64 (resolveU (kindP N top) p.data.toList).2]) ∧ Below w.heap.size w w' := by
  obtain ⟨X, hX⟩ : ∃ X, resolveU (kindP N top) p.data.toList = X := ⟨_, rfl⟩
  have HX : Hid ((if rightB p.data.toList = false then ([], (9 : Int)) else runW (kindP N top) (leftW ⟨[], splitB p.data.toList, 0⟩) ⟨[], splitB p.data.toList, 0⟩) = X) := Lib.hid hX
  rw [hX]
  have HR := Lib.hid (fun w => right_any p _ w rfl hp)
  have HSP := Lib.hid (fun w => pathSplit_own p w hp)
  have HOW := Lib.hid (fun h => OkW.start (kindP N top) (p := p.data.toList) h)
  have HK := Lib.hid (okK top htg)
  have HT := Lib.hid hT
  have HTG := Lib.hid htg
  clear hX hT htg
  obtain ⟨rb, hrb⟩ : ∃ rb, rightB p.data.toList = rb := ⟨_, rfl⟩
  rw [hrb] at HX HR HOW
  clear hrb
  generalize splitB p.data.toList = Y at *
  go_enter Tryz.func10, Tryz.ntmps10
  go_wp2_with fail
  refine (HR.out w).mono ?_
  rintro e w1 ⟨rfl, hb1⟩
  have HB1 := Lib.hid hb1
  have T1 := Lib.hid (HT.out.below hb1)
  clear hb1 HR HT
  cases rb with
  | false =>
    have K := Lib.hid (show X = ([], (9 : Int)) from HX.out.symm)
    go_wp2_with fail
    go_ret2
    rw [K.out]
    exact ⟨rfl, HB1.out⟩
  | true =>
  have HX1 := Lib.hid (show runW (kindP N top) (leftW ⟨[], Y, 0⟩) ⟨[], Y, 0⟩ = X from HX.out)
  have HO1 := Lib.hid (HOW.out rfl)
  clear HX HOW
  go_wp2_with fail
  refine (HSP.out w1).mono ?_
  rintro e w2 ⟨⟨v2, rfl, hown⟩, hb2⟩
  obtain ⟨A, cc, rfl, hnc, hsl, hlow, _⟩ := own_sl hown
  have HB2 := Lib.hid (HB1.out.trans (hb2.mono HB1.out.size))
  have T2 := Lib.hid (T1.out.below hb2)
  have S2 := Lib.hid hsl
  have HA := Lib.hid (show ∀ a, A = some a → a.block ≠ w2.heap.size from fun a ha => by have := (hown.lt a.block (hlow a ha).2).2; omega)
  have hal := (Below.refl w2.heap.size w2).alloc (Nat.le_refl _) (.cells #[.pointer (some ⟨t, 0, none⟩), .string ⟨#[]⟩, .slice A Y.length cc, .int .i64 0] 78)
  have T3 := Lib.hid (T2.out.below hal)
  have W3 := Lib.hid (show WkAt (w2.alloc (.cells #[.pointer (some ⟨t, 0, none⟩), .string ⟨#[]⟩, .slice A Y.length cc, .int .i64 0] 78)) w2.heap.size t ⟨[], Y, 0⟩ from ⟨A, _, cc, hnc, Blk.newA w2 78 #[.pointer (some ⟨t, 0, none⟩), .string ⟨#[]⟩, .slice A Y.length cc, .int .i64 0], S2.out.below hal, HA.out⟩)
  have B3 := Lib.hid (HB2.out.trans (hal.mono HB2.out.size))
  have hgz : w.heap.size ≤ w2.heap.size := HB2.out.size
  clear hb2 HSP HB1 T1 hsl hown hlow hal HB2 S2 HA T2
  go_wp2_with fail
  go_loopw [7] (fun u wr => ∃ s, WkAt wr w2.heap.size t s ∧ OkW (kindP N top) s ∧ runW (kindP N top) (leftW s) s = X ∧ TreeAt wr t top next c N ∧ Below w.heap.size w wr) (fun _ wr => leftAt wr w2.heap.size)
  case atStart => exact ⟨⟨[], Y, 0⟩, W3.out, HO1.out, HX1.out, T3.out, B3.out⟩
  case round =>
    obtain ⟨s, hw, hok, hx, ht, hb⟩ := hrel
    have HW := Lib.hid hw
    have HO := Lib.hid hok
    have HXr := Lib.hid hx
    have HTr := Lib.hid ht
    have HB := Lib.hid hb
    obtain ⟨A1, n1, c1, g0, g1, g2, g3⟩ := hw
    have hl := g2.strsLen
    have HG1 := Lib.hid g1
    obtain ⟨y0, y1, y2, y3, _⟩ := walker_cells g1
    clear hok hx ht hb g0 g1 g2 g3 W3 HO1 HX1 T3 B3
    by_cases hr : s.row = []
    · have hn1 : n1 = 0 := by rw [← hl, hr]; rfl
      subst hn1
      have K := Lib.hid (show X = (s.at_, 0) by rw [← HXr.out]; exact runW_end _ hr)
      clear hl hr
      go_wp2_with fail
      go_ret2
      rw [K.out]
      exact ⟨rfl, HB.out⟩
    · have hn1 : 0 < n1 := by
        rw [← hl]
        exact List.length_pos_iff.2 hr
      have e1 : decide ((0 : Int) < (n1 : Int)) = true := decide_eq_true (by omega)
      have e2 : (0 : Int) < (n1 : Int) := by omega
      have HST := Lib.hid (step_any w2.heap.size t top c next N s wr HW.out HTr.out HO.out HTG.out hr)
      have HRS := Lib.hid (runW_step HK.out HO.out hr)
      have HLT := Lib.hid (leftW_step HK.out HO.out hr)
      have HOS := Lib.hid (HO.out.step HK.out)
      have HLW := Lib.hid HW.out.left
      clear hl hr
      generalize stepW (kindP N top) s = sp at *
      obtain ⟨s', e'⟩ := sp
      go_wp2_with fail
      refine HST.out.mono ?_
      rintro e w4 ⟨rfl, hw4, ho4⟩
      have W4 := Lib.hid hw4
      have T4 := Lib.hid (HTr.out.other (T := 78) HG1.out (by decide) (by decide) (by decide) (fun k hk hne => ho4.block k hk hne))
      have B4 := Lib.hid (HB.out.trans (ho4.below HB.out.size (fun k hk => by rw [hk]; exact hgz)))
      clear hw4 ho4 HST
      by_cases he : e' = 0
      · subst he
        have HR4 := Lib.hid (show runW (kindP N top) (leftW s') s' = X by rw [← HXr.out, HRS.out]; exact (if_pos rfl).symm)
        go_wp2_with fail
        go_roundw
        case rel => exact ⟨s', W4.out, HOS.out, HR4.out, T4.out, B4.out⟩
        case measure => rw [W4.out.left, HLW.out]; exact HLT.out
      · have q1 : (e' != 0) = true := by simpa using he
        have K := Lib.hid (show X = ([], e') by rw [← HXr.out, HRS.out]; exact if_neg he)
        clear he
        go_wp2_with fail
        go_ret2
        rw [K.out]
        exact ⟨rfl, B4.out⟩
end Go.Proofs.YtlbbehfbjbbckaaGreatDoor

/-! A tree in memory that is a plain one: New, Mkdir, Symlink, Write, Resolve over it. -/
set_option linter.unusedVariables false
set_option linter.unusedSimpArgs false
namespace Go.Proofs.YtlbbehfbjbbckaaGreatDoor
open Go.RowKit

/-- At t lies a tree that is S; it owns the blocks O. -/
def TreeS (w : World) (t c : Nat) (S : St) (O : Nat → Prop) : Prop :=
  ∃ top N, TreeAt w t top S.next c N ∧ Rep N top S ∧ OkS S ∧ ∀ k, k = t ∨ heldT N k → O k
theorem TreeS.ok {w : World} {t c : Nat} {S : St} {O : Nat → Prop} (h : TreeS w t c S O) : OkS S := by obtain ⟨_, _, _, _, h, _⟩ := h; exact h
theorem heldT_lt {w : World} {t top c : Nat} {next : Int} {N : Nat → Option Nd} (h : TreeAt w t top next c N) : ∀ k, k = t ∨ heldT N k → k < w.heap.size := by
  rintro k (rfl | ⟨n, hi⟩ | ⟨i, n, a, hi, ha, rfl⟩ | ⟨i, n, hi, hk⟩)
  · exact h.tree.lt
  · exact (h.node k n hi).lt
  · obtain ⟨cs, hc⟩ := (h.data i n hi).2 a ha
    exact (Array.getElem?_eq_some_iff.1 hc).1
  · exact (h.kids i n k hi hk).lt
theorem TreeS.keep {w w' : World} {t c : Nat} {S : St} {O P : Nat → Prop} (h : TreeS w t c S O) (hw : Only P w w') (hd : ∀ k, O k → ¬ P k) : TreeS w' t c S O := by
  obtain ⟨top, N, h1, h2, h3, h4⟩ := h
  have hh : ∀ k, k = t ∨ heldT N k → w'.heap[k]? = w.heap[k]? := fun k hk => hw.block k (heldT_lt h1 k hk) (hd k (h4 k hk))
  exact ⟨top, N, h1.heap (h1.tree.heap (hh t (.inl rfl))) (fun k hk => hh k (.inr hk)), h2, h3, h4⟩
theorem TreeS.below {w w' : World} {t c : Nat} {S : St} {O : Nat → Prop} (h : TreeS w t c S O) (hb : Below w.heap.size w w') : TreeS w' t c S O := by
  obtain ⟨top, N, h1, h2, h3, h4⟩ := h
  exact ⟨top, N, h1.below hb, h2, h3, h4⟩
theorem TreeS.lt {w : World} {t c : Nat} {S : St} {O : Nat → Prop} (h : TreeS w t c S O) : ∃ O', TreeS w t c S O' ∧ (∀ k, O' k → O k ∧ k < w.heap.size) := by
  obtain ⟨top, N, h1, h2, h3, h4⟩ := h
  exact ⟨fun k => k = t ∨ heldT N k, ⟨top, N, h1, h2, h3, fun k hk => hk⟩, fun k hk => ⟨h4 k hk, heldT_lt h1 k hk⟩⟩
theorem TreeS.mono {w : World} {t c c' : Nat} {S : St} {O O' : Nat → Prop} (h : TreeS w t c S O) (hc : c ≤ c') (ho : ∀ k, O k → O' k) : TreeS w t c' S O' := by
  obtain ⟨top, N, h1, h2, h3, h4⟩ := h
  exact ⟨top, N, h1.mono hc, h2, h3, fun k hk => ho k (h4 k hk)⟩
/-- What an act leaves: the tree is another one; what it does not own has not changed. -/
def ActPost (w w' : World) (t c : Nat) (S' : St) (O : Nat → Prop) : Prop := ∃ O', TreeS w' t (c + 1) S' O' ∧ Only O w w' ∧ ∀ k, O' k → O k ∨ w.heap.size ≤ k
theorem ownT_held {t : Nat} {N : Nat → Option Nd} {k : Nat} (h : ownT t N k) : k = t ∨ heldT N k := by
  rcases h with h | ⟨n, h⟩ | ⟨i, n, h1, h2⟩
  · exact .inl h
  · exact .inr (.inl ⟨n, h⟩)
  · exact .inr (.inr (.inr ⟨i, n, h1, h2⟩))
theorem act_same {w w' : World} {t c : Nat} {S : St} {O : Nat → Prop} (h : TreeS w t c S O) (hb : Below w.heap.size w w') : ActPost w w' t c S O :=
  ⟨O, (h.below hb).mono (Nat.le_succ c) (fun _ h => h), Only.of hb, fun k hk => .inl hk⟩
theorem heldT_add {w : World} {t d n : Nat} {N : Nat → Option Nd} {y : Inf} {x : Nd} {s : List UInt8} (hm : Made w N y n x) : ∀ k, k = t ∨ heldT (addN N d n x s) k → (k = t ∨ heldT N k) ∨ w.heap.size ≤ k := by
  rintro k (rfl | ⟨m, hi⟩ | ⟨i, m, a, hi, ha, rfl⟩ | ⟨i, m, hi, hk⟩)
  · exact .inl (.inl rfl)
  · rcases addN_some hi with ⟨rfl, rfl⟩ | ⟨h1, m0, hm0, _⟩
    · exact .inr hm.low
    · exact .inl (.inr (.inl ⟨m0, hm0⟩))
  · rcases addN_some hi with ⟨rfl, rfl⟩ | ⟨h1, m0, hm0, _, e, _⟩
    · exact .inr (hm.data a ha)
    · exact .inl (.inr (.inr (.inl ⟨i, m0, a, hm0, by rw [← e]; exact ha, rfl⟩)))
  · rcases addN_some hi with ⟨rfl, rfl⟩ | ⟨h1, m0, hm0, _, _, _, _, e, _⟩
    · exact .inr (hm.map k hk)
    · exact .inl (.inr (.inr (.inr ⟨i, m0, hm0, by rw [← e]; exact hk⟩)))
theorem thN_inf {x : Nd} {k i : Int} {m : Mt} {tg : ByteArray} {l : List UInt8} (h : infN x = ⟨k, i, m, tg, l⟩) : thN x = ⟨k, m, tg, l⟩ ∧ x.ino = i := by
  unfold infN at h
  simp only [Inf.mk.injEq] at h
  obtain ⟨h1, h2, h3, h4, h5⟩ := h
  unfold thN
  rw [h1, h3, h4, h5]
  exact ⟨rfl, h2⟩
theorem put_act {w w' : World} {t top c d n : Nat} {S : St} {N : Nat → Option Nd} {p : List UInt8} {x : Nd} {k : Int} {m : Mt} {tg : ByteArray} {l : List UInt8} {O : Nat → Prop} (hR : Rep N top S) (ho : OkS S) (hO : ∀ k, k = t ∨ heldT N k → O k)
    (hl : lookN N top p = (none, some d, 0)) (hm : Made w N ⟨k, S.next, m, tg, l⟩ n x) (hT : TreeAt w' t top (S.next + 1) (c + 1) (addN N d n x (baseB p))) (hw : Only (ownT t N) w w') (hk : k = 1 ∨ k = 2 ∨ k = 3) (ht : tg.size ≤ 200) (hl5 : l.length ≤ 65536) :
    ActPost w w' t c (S.add p ⟨k, m, tg, l⟩) O := by
  obtain ⟨e1, e2⟩ := thN_inf hm.inf
  have hS : S.look p = (none, 0) := by
    obtain ⟨h1, h2⟩ := hR.look ho p
    rw [hl] at h1 h2
    exact Prod.ext ((h1.none_iff).1 rfl) h2.symm
  have hR' := hR.put ho hl hm.not hm.kids e2 hm.links
  rw [e1] at hR'
  exact ⟨fun j => O j ∨ w.heap.size ≤ j, ⟨top, _, hT, hR', ho.add hS hk ⟨ht, hl5⟩, fun j hj => (heldT_add hm j hj).imp (hO j) id⟩, hw.mono (fun j _ hj => hO j (ownT_held hj)), fun j hj => hj⟩
theorem NewS_any (w : World) :
    Calls Tryz.prog 37 #[] w fun e w' => ∃ t, e = .returned (.pointer (some ⟨t, 0, none⟩)) ∧ TreeS w' t 0 newS (fun k => w.heap.size ≤ k) ∧ Below w.heap.size w w' := by
  refine (New_any w).mono ?_
  rintro e w' ⟨t, top, kb, rfl, hT, h1, h2, h3, hb⟩
  refine ⟨t, rfl, ⟨top, _, hT, rep_new top kb, okS_new, ?_⟩, hb⟩
  rintro k (rfl | ⟨n, hi⟩ | ⟨i, n, a, hi, ha, rfl⟩ | ⟨i, n, hi, hk⟩)
  · exact h1
  · rw [(N0_some hi).1]; exact h2
  · rw [(N0_some hi).2] at ha; cases ha
  · rw [(N0_some hi).2] at hk; cases hk; exact h3
theorem MkdirS_any (t c : Nat) (S : St) (O : Nat → Prop) (p : ByteArray) (m : Mt) (w : World) (h : TreeS w t c S O) (hp : p.size ≤ 2097152) (hn0 : 0 ≤ S.next) (hn1 : S.next ≤ 1099511627776) (hc : c ≤ 1099511627776) :
    Calls Tryz.prog 38 #[.pointer (some ⟨t, 0, none⟩), .string p, aggM m] w fun e w' => e = .returned (.int .i64 (S.mkdir p.data.toList m).1) ∧ ActPost w w' t c (S.mkdir p.data.toList m).2 O := by
  obtain ⟨top, N, hT, hR, ho, hO⟩ := h
  refine (Mkdir_any t top c S.next N p m w hT hp hn0 hn1 hc).mono ?_
  rintro e w' ⟨rfl, hpost⟩
  have hf := hR.fresh ho p.data.toList
  have hE : mkdirU N top p.data.toList m = (S.mkdir p.data.toList m).1 := by
    unfold mkdirU St.mkdir
    by_cases h1 : mayU p.data.toList m = 0
    · rw [if_pos h1, if_neg (fun h => h h1), hf]
      by_cases h2 : freshS (S.look p.data.toList) = 0
      · rw [if_neg (fun h => h h2)]; exact h2
      · rw [if_pos h2]
    · rw [if_neg h1, if_pos h1]
  rw [hE] at hpost
  refine ⟨by rw [hE], ?_⟩
  rcases hpost with ⟨h1, h2, h3⟩ | ⟨h1, d, n, x, h2, h3, h4, h5⟩
  · have : (S.mkdir p.data.toList m).2 = S := by
      unfold St.mkdir at h1 ⊢
      split
      · rfl
      split
      · rfl
      · rename_i a b; rw [if_neg a, if_neg b] at h1; exact absurd rfl h1
    rw [this]
    exact act_same ⟨top, N, hT, hR, ho, hO⟩ h3
  · have : (S.mkdir p.data.toList m).2 = S.add p.data.toList ⟨2, m, ⟨#[]⟩, []⟩ := by
      unfold St.mkdir at h1 ⊢
      split
      · rename_i a; rw [if_pos a] at h1; exact absurd h1 a
      split
      · rename_i a b; rw [if_neg a, if_pos b] at h1; exact absurd h1 b
      · rfl
    rw [this]
    exact put_act hR ho hO h2 h3 h4 h5 (.inr (.inl rfl)) (Nat.zero_le _) (Nat.zero_le _)
theorem SymlinkS_any (t c : Nat) (S : St) (O : Nat → Prop) (p tg : ByteArray) (m : Mt) (w : World) (h : TreeS w t c S O) (hp : p.size ≤ 2097152) (hn0 : 0 ≤ S.next) (hn1 : S.next ≤ 1099511627776) (hc : c ≤ 1099511627776) :
    Calls Tryz.prog 29 #[.pointer (some ⟨t, 0, none⟩), .string p, .string tg, aggM m] w fun e w' => e = .returned (.int .i64 (S.symlink p.data.toList tg m).1) ∧ ActPost w w' t c (S.symlink p.data.toList tg m).2 O := by
  obtain ⟨top, N, hT, hR, ho, hO⟩ := h
  refine (Symlink_any t top c S.next N p tg m w hT hp hn0 hn1 hc).mono ?_
  rintro e w' ⟨rfl, hpost⟩
  have hf := hR.fresh ho p.data.toList
  have hE : symU N top p.data.toList tg m = (S.symlink p.data.toList tg m).1 := by
    unfold symU St.symlink
    rw [hf]
    by_cases h1 : mayU p.data.toList m = 0
    · by_cases h2 : tg.size = 0
      · simp [h1, h2]
      by_cases h3 : 200 < tg.size
      · simp [h1, h2, h3]
      by_cases h4 : freshS (S.look p.data.toList) = 0
      · simp [h1, h2, h3, h4]
      · simp [h1, h2, h3, h4]
    · simp [h1]
  rw [hE] at hpost
  refine ⟨by rw [hE], ?_⟩
  rcases hpost with ⟨h1, h2, h3⟩ | ⟨h1, d, n, x, h2, h3, h4, h5⟩
  · have : (S.symlink p.data.toList tg m).2 = S := by
      unfold St.symlink at h1 ⊢
      split
      · rfl
      split
      · rfl
      split
      · rfl
      split
      · rfl
      · rename_i a b c d; rw [if_neg a, if_neg b, if_neg c, if_neg d] at h1; exact absurd rfl h1
    rw [this]
    exact act_same ⟨top, N, hT, hR, ho, hO⟩ h3
  · have : (S.symlink p.data.toList tg m).2 = S.add p.data.toList ⟨3, m, tg, []⟩ ∧ tg.size ≤ 200 := by
      unfold St.symlink at h1 ⊢
      split
      · rename_i a; rw [if_pos a] at h1; exact absurd h1 a
      split
      · rename_i a b; rw [if_neg a, if_pos b] at h1; cases h1
      split
      · rename_i a b c; rw [if_neg a, if_neg b, if_pos c] at h1; cases h1
      split
      · rename_i a b c d; rw [if_neg a, if_neg b, if_neg c, if_pos d] at h1; exact absurd h1 d
      · exact ⟨rfl, by omega⟩
    rw [this.1]
    exact put_act hR ho hO h2 h3 h4 h5 (.inr (.inr rfl)) this.2 (Nat.zero_le _)
theorem heldT_set {w : World} {t k0 : Nat} {N : Nat → Option Nd} {x x' : Nd} (hk : N k0 = some x) (e1 : x'.kb = x.kb) (hd : ∀ a, x'.dA = some a → w.heap.size ≤ a.block) : ∀ k, k = t ∨ heldT (setN N k0 x') k → (k = t ∨ heldT N k) ∨ w.heap.size ≤ k := by
  rintro k (rfl | ⟨m, hi⟩ | ⟨i, m, a, hi, ha, rfl⟩ | ⟨i, m, hi, hkk⟩)
  · exact .inl (.inl rfl)
  · rcases setN_some hi with ⟨rfl, rfl⟩ | ⟨_, hm⟩
    · exact .inl (.inr (.inl ⟨x, hk⟩))
    · exact .inl (.inr (.inl ⟨m, hm⟩))
  · rcases setN_some hi with ⟨rfl, rfl⟩ | ⟨_, hm⟩
    · exact .inr (hd a ha)
    · exact .inl (.inr (.inr (.inl ⟨i, m, a, hm, ha, rfl⟩)))
  · rcases setN_some hi with ⟨rfl, rfl⟩ | ⟨_, hm⟩
    · exact .inl (.inr (.inr (.inr ⟨i, x, hk, by rw [← e1]; exact hkk⟩)))
    · exact .inl (.inr (.inr (.inr ⟨i, m, hm, hkk⟩)))
theorem write_err (S : St) (p l : List UInt8) (m : Mt) (h : (S.write p l m).1 ≠ 0) : (S.write p l m).2 = S := by
  unfold St.write at h ⊢
  by_cases a : mayU p m ≠ 0
  · rw [if_pos a]
  rw [if_neg a] at h ⊢
  by_cases b : 65536 < l.length
  · rw [if_pos b]
  rw [if_neg b] at h ⊢
  by_cases c : (S.look p).2 ≠ 0
  · rw [if_pos c]
  rw [if_neg c] at h ⊢
  cases hd : (S.look p).1 with
  | none => rw [hd] at h; exact absurd rfl h
  | some i =>
    rw [hd] at h
    simp only at h ⊢
    by_cases e : fileU (S.th i).kind ≠ 0
    · rw [if_pos e]
    · rw [if_neg e] at h; exact absurd rfl h
theorem WriteS_any (t c : Nat) (S : St) (O : Nat → Prop) (p : ByteArray) (A : Option Addr) (n0 cp : Nat) (l : List UInt8) (m : Mt) (w : World) (h : TreeS w t c S O) (hs : Sl 1 w A n0 (bys l)) (hp : p.size ≤ 2097152) (hn0 : 0 ≤ S.next) (hn1 : S.next ≤ 1099511627776) (hc : c ≤ 1099511627776) :
    Calls Tryz.prog 39 #[.pointer (some ⟨t, 0, none⟩), .string p, .slice A n0 cp, aggM m] w fun e w' => e = .returned (.int .i64 (S.write p.data.toList l m).1) ∧ ActPost w w' t c (S.write p.data.toList l m).2 O := by
  obtain ⟨top, N, hT, hR, ho, hO⟩ := h
  have hlen : n0 = l.length := by have := hs.len; rw [bys_length] at this; omega
  refine (Write_any t top c S.next N p A n0 cp l m w hT hs hp hn0 hn1 hc).mono ?_
  rintro e w' ⟨rfl, hpost⟩
  obtain ⟨hf1, hf2⟩ := hR.look ho p.data.toList
  have hE : writeU N top p.data.toList n0 m = (S.write p.data.toList l m).1 := by
    unfold writeU St.write
    rw [hlen]
    unfold writeL
    rw [hf2]
    by_cases h1 : mayU p.data.toList m = 0
    · by_cases h2 : 65536 < l.length
      · simp [h1, h2]
      by_cases h3 : (S.look p.data.toList).2 = 0
      · generalize (lookN N top p.data.toList).1 = o at *
        cases o with
        | none => rw [(hf1.none_iff).1 rfl]; simp [h1, h2, h3]
        | some k =>
          obtain ⟨n, hn, e⟩ := hf1.some
          rw [e]
          have hkk : (S.th n.ino).kind = n.kind := by rw [hR.info k n hn]; rfl
          by_cases h4 : fileU n.kind = 0
          · simp [h1, h2, h3, h4, kindN, hn, hkk]
          · simp [h1, h2, h3, h4, kindN, hn, hkk]
      · simp [h1, h2, h3]
    · simp [h1]
  rw [hE] at hpost
  refine ⟨by rw [hE], ?_⟩
  have HL65 : (S.write p.data.toList l m).1 = 0 → l.length ≤ 65536 := fun h => by
    unfold St.write at h
    by_cases a : mayU p.data.toList m ≠ 0
    · rw [if_pos a] at h; exact absurd h a
    rw [if_neg a] at h
    by_cases b : 65536 < l.length
    · rw [if_pos b] at h; cases h
    omega
  rcases hpost with ⟨h1, h2, h3⟩ | ⟨h1, d, n, x, h2, h3, h4, h5⟩ | ⟨h1, k, d, x, x', h2, h3, h4, h5, h6, h7, h8, h9, h10, h11⟩
  · have : (S.write p.data.toList l m).2 = S := write_err _ _ _ _ h1
    rw [this]
    exact act_same ⟨top, N, hT, hR, ho, hO⟩ h3
  · have hl65 := HL65 h1
    have hS0 : (S.look p.data.toList).1 = none ∧ (S.look p.data.toList).2 = 0 := by rw [h2] at hf1 hf2; exact ⟨(hf1.none_iff).1 rfl, hf2.symm⟩
    have : (S.write p.data.toList l m).2 = S.add p.data.toList ⟨1, m, ⟨#[]⟩, l⟩ := by
      unfold St.write at h1 ⊢
      split
      · rename_i a; rw [if_pos a] at h1; exact absurd h1 a
      split
      · rename_i a b; rw [if_neg a, if_pos b] at h1; cases h1
      split
      · rename_i a b c; exact absurd hS0.2 c
      rw [hS0.1]
    rw [this]
    exact put_act hR ho hO h2 h3 h4 h5 (.inl rfl) (Nat.zero_le _) hl65
  · have hl65 := HL65 h1
    obtain ⟨e1, e2⟩ := thN_inf h8
    have hth : S.th x.ino = thN x := hR.info k x h3
    have hS0 : (S.look p.data.toList).1 = some x.ino ∧ (S.look p.data.toList).2 = 0 := by
      rw [h2] at hf1 hf2
      obtain ⟨n, hn, e⟩ := hf1.some
      rw [h3, Option.some.injEq] at hn
      subst hn
      exact ⟨e, hf2.symm⟩
    have hx' : thN x' = { S.th x.ino with mt := m, data := l } := by rw [e1, hth]; rfl
    have : (S.write p.data.toList l m).2 = { S with th := setT S.th x.ino (thN x') } := by
      unfold St.write at h1 ⊢
      split
      · rename_i a; rw [if_pos a] at h1; exact absurd h1 a
      split
      · rename_i a b; rw [if_neg a, if_pos b] at h1; cases h1
      split
      · rename_i a b c; exact absurd hS0.2 c
      rw [hS0.1]
      simp only [hth]
      rw [if_neg (fun h => h (show fileU (thN x).kind = 0 from h4)), hx', hth]
    rw [this]
    have hk' : x'.kind = x.kind := by have := congrArg Th.kind e1; exact this
    have ht' : (thN x').target.size ≤ 200 ∧ (thN x').data.length ≤ 65536 := by
      rw [e1]; exact ⟨hR.tgt ho k x h3, hl65⟩
    exact ⟨fun j => O j ∨ w.heap.size ≤ j, ⟨top, _, h10.mono (Nat.le_succ c), hR.set h3 h5 e2 h7 hk', ho.set _ _ (by rw [hth]; exact hk') ht', fun j hj => (heldT_set h3 h6 h9 j hj).imp (hO j) id⟩, h11.mono (fun j _ hj => hO j (ownT_held hj)), fun j hj => hj⟩
theorem resolveS_any (t c : Nat) (S : St) (O : Nat → Prop) (p : ByteArray) (w : World) (h : TreeS w t c S O) (hp : p.size ≤ 2097152) :
    Calls Tryz.prog 10 #[.pointer (some ⟨t, 0, none⟩), .string p] w fun e w' => e = .returned (.tuple #[.string (str (resolveU S.kindS p.data.toList).1), .int .i64 (resolveU S.kindS p.data.toList).2]) ∧ Below w.heap.size w w' := by
  obtain ⟨top, N, hT, hR, ho, hO⟩ := h
  have := resolve_any t top c S.next N p w hT (hR.tgt ho) hp
  rwa [show kindP N top = S.kindS from funext fun q => hR.kind ho q] at this
end Go.Proofs.YtlbbehfbjbbckaaGreatDoor

/-! The chapter's examples of links: the law's awake. -/
set_option linter.unusedVariables false
set_option linter.unusedSimpArgs false
namespace Go.Proofs.YtlbbehfbjbbckaaGreatDoor
open Go.RowKit
attribute [local go_sem] str_toList

/-- A tree that the call made, beside a Meta of the call's own. -/
def Awk (w0 w : World) (t c gm : Nat) (S : St) : Prop :=
  ∃ O, TreeS w t c S O ∧ ¬ O gm ∧ Blk w gm 53 [.int .i64 420, .int .i64 0, .int .i64 0, .int .i64 0, .int .i64 0] ∧ (∀ k, O k → w0.heap.size ≤ k) ∧ Below w0.heap.size w0 w
theorem Awk.act {w0 w w' : World} {t c gm : Nat} {S' : St} {O : Nat → Prop} (h1 : ¬ O gm) (h2 : Blk w gm 53 [.int .i64 420, .int .i64 0, .int .i64 0, .int .i64 0, .int .i64 0]) (h3 : ∀ k, O k → w0.heap.size ≤ k) (h4 : Below w0.heap.size w0 w) (h : ActPost w w' t c S' O) : Awk w0 w' t (c + 1) gm S' := by
  obtain ⟨O', g1, g2, g3⟩ := h
  refine ⟨O', g1, fun hg => (g3 gm hg).elim h1 (fun h => by have := h2.lt; omega), h2.heap (g2.block gm h2.lt h1), fun k hk => (g3 k hk).elim (h3 k) (fun h => Nat.le_trans h4.size h), h4.trans (g2.below h4.size h3)⟩
theorem Awk.below {w0 w w' : World} {t c gm : Nat} {S : St} (h : Awk w0 w t c gm S) (hb : Below w.heap.size w w') : Awk w0 w' t c gm S := by
  obtain ⟨O, h0, h1, h2, h3, h4⟩ := h
  exact ⟨O, h0.below hb, h1, h2.below hb, h3, h4.trans (hb.mono h4.size)⟩
theorem Awk.cells {w0 w : World} {t c gm : Nat} {S : St} (h : Awk w0 w t c gm S) : w.cell? ⟨gm, 0, none⟩ = some (.int .i64 420) ∧ w.cell? ⟨gm, 1, none⟩ = some (.int .i64 0) ∧ w.cell? ⟨gm, 2, none⟩ = some (.int .i64 0) ∧ w.cell? ⟨gm, 3, none⟩ = some (.int .i64 0) ∧ w.cell? ⟨gm, 4, none⟩ = some (.int .i64 0) := by
  obtain ⟨O, _, _, h2, _⟩ := h
  exact meta_cells h2
def m420 : Mt := ⟨420, 0, 0, 0, 0⟩
theorem mkdirA (w0 w : World) (t c gm : Nat) (S S' : St) (p : ByteArray) (r : Int) (h : Awk w0 w t c gm S) (hr : S.mkdir p.data.toList m420 = (r, S')) (hp : p.size ≤ 2097152) (hn0 : 0 ≤ S.next) (hn1 : S.next ≤ 1099511627776) (hc : c ≤ 1099511627776) :
    Calls Tryz.prog 38 #[.pointer (some ⟨t, 0, none⟩), .string p, .agg #[.int .i64 420, .int .i64 0, .int .i64 0, .int .i64 0, .int .i64 0]] w fun e w' => e = .returned (.int .i64 r) ∧ Awk w0 w' t (c + 1) gm S' := by
  obtain ⟨O, h0, h1, h2, h3, h4⟩ := h
  refine (MkdirS_any t c S O p m420 w h0 hp hn0 hn1 hc).mono ?_
  rintro e w' ⟨rfl, hx⟩
  rw [hr] at hx ⊢
  exact ⟨rfl, Awk.act h1 h2 h3 h4 hx⟩
theorem writeA (w0 w : World) (t c gm : Nat) (S S' : St) (p : ByteArray) (r : Int) (h : Awk w0 w t c gm S) (hr : S.write p.data.toList [] m420 = (r, S')) (hp : p.size ≤ 2097152) (hn0 : 0 ≤ S.next) (hn1 : S.next ≤ 1099511627776) (hc : c ≤ 1099511627776) :
    Calls Tryz.prog 39 #[.pointer (some ⟨t, 0, none⟩), .string p, .slice none 0 0, .agg #[.int .i64 420, .int .i64 0, .int .i64 0, .int .i64 0, .int .i64 0]] w fun e w' => e = .returned (.int .i64 r) ∧ Awk w0 w' t (c + 1) gm S' := by
  obtain ⟨O, h0, h1, h2, h3, h4⟩ := h
  refine (WriteS_any t c S O p none 0 0 [] m420 w h0 (Sl.nil _ _ _) hp hn0 hn1 hc).mono ?_
  rintro e w' ⟨rfl, hx⟩
  rw [hr] at hx ⊢
  exact ⟨rfl, Awk.act h1 h2 h3 h4 hx⟩
theorem symlinkA (w0 w : World) (t c gm : Nat) (S S' : St) (p tg : ByteArray) (r : Int) (h : Awk w0 w t c gm S) (hr : S.symlink p.data.toList tg m420 = (r, S')) (hp : p.size ≤ 2097152) (hn0 : 0 ≤ S.next) (hn1 : S.next ≤ 1099511627776) (hc : c ≤ 1099511627776) :
    Calls Tryz.prog 29 #[.pointer (some ⟨t, 0, none⟩), .string p, .string tg, .agg #[.int .i64 420, .int .i64 0, .int .i64 0, .int .i64 0, .int .i64 0]] w fun e w' => e = .returned (.int .i64 r) ∧ Awk w0 w' t (c + 1) gm S' := by
  obtain ⟨O, h0, h1, h2, h3, h4⟩ := h
  refine (SymlinkS_any t c S O p tg m420 w h0 hp hn0 hn1 hc).mono ?_
  rintro e w' ⟨rfl, hx⟩
  rw [hr] at hx ⊢
  exact ⟨rfl, Awk.act h1 h2 h3 h4 hx⟩
theorem resolveA (w0 w : World) (t c gm : Nat) (S : St) (p : ByteArray) (q : List UInt8) (r : Int) (h : Awk w0 w t c gm S) (hr : resolveU S.kindS p.data.toList = (q, r)) (hp : p.size ≤ 2097152) :
    Calls Tryz.prog 10 #[.pointer (some ⟨t, 0, none⟩), .string p] w fun e w' => e = .returned (.tuple #[.string (str q), .int .i64 r]) ∧ Awk w0 w' t c gm S := by
  have h' := h
  obtain ⟨O, h0, h1, h2, h3, h4⟩ := h
  refine (resolveS_any t c S O p w h0 hp).mono ?_
  rintro e w' ⟨rfl, hx⟩
  rw [hr]
  exact ⟨rfl, h'.below hx⟩
def kA : St := (newS.mkdir [100] m420).2
def kB : St := (kA.write [100, 47, 101] [] m420).2
def kC : St := (kB.symlink [108] ⟨#[100, 47, 101]⟩ m420).2
def kD : St := (kC.symlink [120] ⟨#[120]⟩ m420).2
def kE : St := (kD.symlink [97] ⟨#[46, 46]⟩ m420).2
theorem eA : newS.mkdir [100] m420 = (0, kA) := Prod.ext (by decide +kernel) rfl
theorem eB : kA.write [100, 47, 101] [] m420 = (0, kB) := Prod.ext (by decide +kernel) rfl
theorem eC : kB.symlink [108] ⟨#[100, 47, 101]⟩ m420 = (0, kC) := Prod.ext (by decide +kernel) rfl
theorem eD : kC.symlink [120] ⟨#[120]⟩ m420 = (0, kD) := Prod.ext (by decide +kernel) rfl
theorem eE : kD.symlink [97] ⟨#[46, 46]⟩ m420 = (0, kE) := Prod.ext (by decide +kernel) rfl
theorem n1 : (0 ≤ newS.next ∧ newS.next ≤ 1099511627776) ∧ (0 ≤ kA.next ∧ kA.next ≤ 1099511627776) ∧ (0 ≤ kB.next ∧ kB.next ≤ 1099511627776) ∧ (0 ≤ kC.next ∧ kC.next ≤ 1099511627776) ∧ (0 ≤ kD.next ∧ kD.next ≤ 1099511627776) := by decide +kernel
theorem rA : resolveU kE.kindS [108] = ([100, 47, 101], 0) := by decide +kernel
theorem rB : resolveU kE.kindS [120] = ([], 15) := by decide +kernel
theorem rC : resolveU kE.kindS [97] = ([], 16) := by decide +kernel
theorem sA : safeU [97, 47, 98] [46, 46, 47, 99] = true := by decide +kernel
theorem sB : safeU [97] [46, 46, 47, 99] = false := by decide +kernel
theorem sC : safeU [97] [99, 47, 46, 46] = false := by decide +kernel
set_option maxRecDepth 100000 in
set_option maxHeartbeats 8000000 in
theorem awake_any (w : World) (hm : ML w) :
    Calls Tryz.prog 9 #[] w fun e w' => e = .returned (.bool true) ∧ Below w.heap.size w w' := by
  go_enter Tryz.func9, Tryz.ntmps9
  go_wp2_with fail
  refine (NewS_any w).mono ?_
  rintro e w1 ⟨t, rfl, hT, hb⟩
  obtain ⟨O, hO, hlt⟩ := hT.lt
  have HA := Lib.hid (show Awk w (w1.alloc (.cells #[.int .i64 420, .int .i64 0, .int .i64 0, .int .i64 0, .int .i64 0] 53)) t 0 w1.heap.size newS from ⟨O, hO.below ((Below.refl _ _).alloc (Nat.le_refl _) _), fun h => by have := (hlt _ h).2; omega, Blk.newA w1 53 #[.int .i64 420, .int .i64 0, .int .i64 0, .int .i64 0, .int .i64 0], fun k hk => (hlt k hk).1, hb.alloc hb.size _⟩)
  clear hT hO hlt hb
  go_wp2_with fail
  generalize w1.alloc (.cells #[.int .i64 420, .int .i64 0, .int .i64 0, .int .i64 0, .int .i64 0] 53) = w2 at *
  generalize w1.heap.size = gm at *
  have A2 := Lib.hid (HA.out.below ((Below.refl w2.heap.size w2).drew))
  clear HA
  obtain ⟨⟨p0, p1⟩, ⟨p2, p3⟩, ⟨p4, p5⟩, ⟨p6, p7⟩, p8, p9⟩ := n1
  refine wp_region_held_drew (S := (fun w' => ∃ c S, Awk w w' t c gm S)) (by kernel_rfl) (⟨_, _, A2.out⟩) (fun hHeld => ?_)
  refine wpAnyH_take (i := 0) (oi := ?oi1) (v := ?v1) ?hi1 ?hs1 ?hf1 ?hr1 ?hQ1 (Or.inl ⟨?hg1, ?hy1⟩) hHeld ?rest1
  case hi1 => simp only [List.getElem?_toArray, List.getElem?_cons_succ, List.getElem?_cons_zero]; rfl
  case hs1 => kernel_rfl
  case hf1 => kernel_rfl
  case hr1 => kernel_rfl
  case hg1 => rfl
  case hy1 => (intro w hSw; first | (go_simp; done) | (go_simp; with_reducible rfl))
  case hQ1 => exact fun _ _ _ h => h
  try simp only [Act.put, List.setIfInBounds_toArray, List.set_cons_zero, List.set_cons_succ]
  refine wpAnyH_take (i := 1) (oi := ?oi2) (v := ?v2) ?hi2 ?hs2 ?hf2 ?hr2 ?hQ2 (Or.inl ⟨?hg2, ?hy2⟩) hHeld ?rest2
  case hi2 => simp only [List.getElem?_toArray, List.getElem?_cons_succ, List.getElem?_cons_zero]; rfl
  case hs2 => kernel_rfl
  case hf2 => kernel_rfl
  case hr2 => kernel_rfl
  case hg2 => rfl
  case hy2 => (intro w hSw; obtain ⟨_, _, hq⟩ := hSw; obtain ⟨x0, x1, x2, x3, x4⟩ := hq.cells; first | (go_simp; done) | (go_simp; with_reducible rfl))
  case hQ2 => exact fun _ _ _ h => h
  try simp only [Act.put, List.setIfInBounds_toArray, List.set_cons_zero, List.set_cons_succ]
  refine wpAnyH_take (i := 3) (oi := ?oi3) (v := ?v3) ?hi3 ?hs3 ?hf3 ?hr3 ?hQ3 (Or.inl ⟨?hg3, ?hy3⟩) hHeld ?rest3
  case hi3 => simp only [List.getElem?_toArray, List.getElem?_cons_succ, List.getElem?_cons_zero]; rfl
  case hs3 => kernel_rfl
  case hf3 => kernel_rfl
  case hr3 => kernel_rfl
  case hg3 => rfl
  case hy3 => (intro w hSw; first | (go_simp; done) | (go_simp; with_reducible rfl))
  case hQ3 => exact fun _ _ _ h => h
  try simp only [Act.put, List.setIfInBounds_toArray, List.set_cons_zero, List.set_cons_succ]
  refine wpAnyH_take (i := 4) (oi := ?oi4) (v := ?v4) ?hi4 ?hs4 ?hf4 ?hr4 ?hQ4 (Or.inl ⟨?hg4, ?hy4⟩) hHeld ?rest4
  case hi4 => simp only [List.getElem?_toArray, List.getElem?_cons_succ, List.getElem?_cons_zero]; rfl
  case hs4 => kernel_rfl
  case hf4 => kernel_rfl
  case hr4 => kernel_rfl
  case hg4 => rfl
  case hy4 => (intro w hSw; obtain ⟨_, _, hq⟩ := hSw; obtain ⟨x0, x1, x2, x3, x4⟩ := hq.cells; first | (go_simp; done) | (go_simp; with_reducible rfl))
  case hQ4 => exact fun _ _ _ h => h
  try simp only [Act.put, List.setIfInBounds_toArray, List.set_cons_zero, List.set_cons_succ]
  refine wpAnyH_take (i := 6) (oi := ?oi5) (v := ?v5) ?hi5 ?hs5 ?hf5 ?hr5 ?hQ5 (Or.inl ⟨?hg5, ?hy5⟩) hHeld ?rest5
  case hi5 => simp only [List.getElem?_toArray, List.getElem?_cons_succ, List.getElem?_cons_zero]; rfl
  case hs5 => kernel_rfl
  case hf5 => kernel_rfl
  case hr5 => kernel_rfl
  case hg5 => rfl
  case hy5 => (intro w hSw; first | (go_simp; done) | (go_simp; with_reducible rfl))
  case hQ5 => exact fun _ _ _ h => h
  try simp only [Act.put, List.setIfInBounds_toArray, List.set_cons_zero, List.set_cons_succ]
  refine wpAnyH_take (i := 7) (oi := ?oi6) (v := ?v6) ?hi6 ?hs6 ?hf6 ?hr6 ?hQ6 (Or.inl ⟨?hg6, ?hy6⟩) hHeld ?rest6
  case hi6 => simp only [List.getElem?_toArray, List.getElem?_cons_succ, List.getElem?_cons_zero]; rfl
  case hs6 => kernel_rfl
  case hf6 => kernel_rfl
  case hr6 => kernel_rfl
  case hg6 => rfl
  case hy6 => (intro w hSw; obtain ⟨_, _, hq⟩ := hSw; obtain ⟨x0, x1, x2, x3, x4⟩ := hq.cells; first | (go_simp; done) | (go_simp; with_reducible rfl))
  case hQ6 => exact fun _ _ _ h => h
  try simp only [Act.put, List.setIfInBounds_toArray, List.set_cons_zero, List.set_cons_succ]
  refine wpAnyH_take (i := 9) (oi := ?oi7) (v := ?v7) ?hi7 ?hs7 ?hf7 ?hr7 ?hQ7 (Or.inl ⟨?hg7, ?hy7⟩) hHeld ?rest7
  case hi7 => simp only [List.getElem?_toArray, List.getElem?_cons_succ, List.getElem?_cons_zero]; rfl
  case hs7 => kernel_rfl
  case hf7 => kernel_rfl
  case hr7 => kernel_rfl
  case hg7 => rfl
  case hy7 => (intro w hSw; first | (go_simp; done) | (go_simp; with_reducible rfl))
  case hQ7 => exact fun _ _ _ h => h
  try simp only [Act.put, List.setIfInBounds_toArray, List.set_cons_zero, List.set_cons_succ]
  refine wpAnyH_take (i := 10) (oi := ?oi8) (v := ?v8) ?hi8 ?hs8 ?hf8 ?hr8 ?hQ8 (Or.inl ⟨?hg8, ?hy8⟩) hHeld ?rest8
  case hi8 => simp only [List.getElem?_toArray, List.getElem?_cons_succ, List.getElem?_cons_zero]; rfl
  case hs8 => kernel_rfl
  case hf8 => kernel_rfl
  case hr8 => kernel_rfl
  case hg8 => rfl
  case hy8 => (intro w hSw; obtain ⟨_, _, hq⟩ := hSw; obtain ⟨x0, x1, x2, x3, x4⟩ := hq.cells; first | (go_simp; done) | (go_simp; with_reducible rfl))
  case hQ8 => exact fun _ _ _ h => h
  try simp only [Act.put, List.setIfInBounds_toArray, List.set_cons_zero, List.set_cons_succ]
  refine wpAnyH_ready (rs := [2]) (by kernel_rfl) (by simp) ?_
  refine AllReadyH.cons (o := ?oi9) ?hi9 (fun K hK => ?_) AllReadyH.nil
  case hi9 => simp only [List.getElem?_toArray, List.getElem?_cons_succ, List.getElem?_cons_zero]; rfl
  go_simp; go_at_call 38; refine (mkdirA w _ t 0 gm newS kA ⟨#[100]⟩ 0 A2.out eA (by decide) p0 p1 (by decide)).mono ?_; rintro e w3 ⟨rfl, h3⟩; go_wp2_with fail
  refine hK.out _ _ (⟨_, _, h3⟩) (fun hHeld2 => ?_)
  clear hK K hHeld
  have hHeld := hHeld2
  clear hHeld2
  try simp only [Act.put, List.setIfInBounds_toArray, List.set_cons_zero, List.set_cons_succ]
  refine wpAnyH_ready (rs := [5]) (by kernel_rfl) (by simp) ?_
  refine AllReadyH.cons (o := ?oi10) ?hi10 (fun K hK => ?_) AllReadyH.nil
  case hi10 => simp only [List.getElem?_toArray, List.getElem?_cons_succ, List.getElem?_cons_zero]; rfl
  go_simp; go_at_call 39; refine (writeA w _ t 1 gm kA kB ⟨#[100, 47, 101]⟩ 0 h3 eB (by decide) p2 p3 (by decide)).mono ?_; rintro e w4 ⟨rfl, h4⟩; go_wp2_with fail
  refine hK.out _ _ (⟨_, _, h4⟩) (fun hHeld2 => ?_)
  clear hK K hHeld
  have hHeld := hHeld2
  clear hHeld2
  try simp only [Act.put, List.setIfInBounds_toArray, List.set_cons_zero, List.set_cons_succ]
  refine wpAnyH_ready (rs := [8]) (by kernel_rfl) (by simp) ?_
  refine AllReadyH.cons (o := ?oi11) ?hi11 (fun K hK => ?_) AllReadyH.nil
  case hi11 => simp only [List.getElem?_toArray, List.getElem?_cons_succ, List.getElem?_cons_zero]; rfl
  go_simp; go_at_call 29; refine (symlinkA w _ t 2 gm kB kC ⟨#[108]⟩ ⟨#[100, 47, 101]⟩ 0 h4 eC (by decide) p4 p5 (by decide)).mono ?_; rintro e w5 ⟨rfl, h5⟩; go_wp2_with fail
  refine hK.out _ _ (⟨_, _, h5⟩) (fun hHeld2 => ?_)
  clear hK K hHeld
  have hHeld := hHeld2
  clear hHeld2
  try simp only [Act.put, List.setIfInBounds_toArray, List.set_cons_zero, List.set_cons_succ]
  refine wpAnyH_ready (rs := [11]) (by kernel_rfl) (by simp) ?_
  refine AllReadyH.cons (o := ?oi12) ?hi12 (fun K hK => ?_) AllReadyH.nil
  case hi12 => simp only [List.getElem?_toArray, List.getElem?_cons_succ, List.getElem?_cons_zero]; rfl
  go_simp; go_at_call 29; refine (symlinkA w _ t 3 gm kC kD ⟨#[120]⟩ ⟨#[120]⟩ 0 h5 eD (by decide) p6 p7 (by decide)).mono ?_; rintro e w6 ⟨rfl, h6⟩; go_wp2_with fail
  refine hK.out _ _ (⟨_, _, h6⟩) (fun hHeld2 => ?_)
  clear hK K hHeld
  have hHeld := hHeld2
  clear hHeld2
  try simp only [Act.put, List.setIfInBounds_toArray, List.set_cons_zero, List.set_cons_succ]
  refine wpAnyH_take (i := 12) (oi := ?oi13) (v := ?v13) ?hi13 ?hs13 ?hf13 ?hr13 ?hQ13 (Or.inl ⟨?hg13, ?hy13⟩) hHeld ?rest13
  case hi13 => simp only [List.getElem?_toArray, List.getElem?_cons_succ, List.getElem?_cons_zero]; rfl
  case hs13 => kernel_rfl
  case hf13 => kernel_rfl
  case hr13 => kernel_rfl
  case hg13 => rfl
  case hy13 => (intro w hSw; first | (go_simp; done) | (go_simp; with_reducible rfl))
  case hQ13 => exact fun _ _ _ h => h
  try simp only [Act.put, List.setIfInBounds_toArray, List.set_cons_zero, List.set_cons_succ]
  refine wpAnyH_take (i := 13) (oi := ?oi14) (v := ?v14) ?hi14 ?hs14 ?hf14 ?hr14 ?hQ14 (Or.inl ⟨?hg14, ?hy14⟩) hHeld ?rest14
  case hi14 => simp only [List.getElem?_toArray, List.getElem?_cons_succ, List.getElem?_cons_zero]; rfl
  case hs14 => kernel_rfl
  case hf14 => kernel_rfl
  case hr14 => kernel_rfl
  case hg14 => rfl
  case hy14 => (intro w hSw; first | (go_simp; done) | (go_simp; with_reducible rfl))
  case hQ14 => exact fun _ _ _ h => h
  try simp only [Act.put, List.setIfInBounds_toArray, List.set_cons_zero, List.set_cons_succ]
  refine wpAnyH_take (i := 14) (oi := ?oi15) (v := ?v15) ?hi15 ?hs15 ?hf15 ?hr15 ?hQ15 (Or.inl ⟨?hg15, ?hy15⟩) hHeld ?rest15
  case hi15 => simp only [List.getElem?_toArray, List.getElem?_cons_succ, List.getElem?_cons_zero]; rfl
  case hs15 => kernel_rfl
  case hf15 => kernel_rfl
  case hr15 => kernel_rfl
  case hg15 => rfl
  case hy15 => (intro w hSw; first | (go_simp; done) | (go_simp; with_reducible rfl))
  case hQ15 => exact fun _ _ _ h => h
  try simp only [Act.put, List.setIfInBounds_toArray, List.set_cons_zero, List.set_cons_succ]
  refine wpAnyH_take (i := 15) (oi := ?oi16) (v := ?v16) ?hi16 ?hs16 ?hf16 ?hr16 ?hQ16 (Or.inl ⟨?hg16, ?hy16⟩) hHeld ?rest16
  case hi16 => simp only [List.getElem?_toArray, List.getElem?_cons_succ, List.getElem?_cons_zero]; rfl
  case hs16 => kernel_rfl
  case hf16 => kernel_rfl
  case hr16 => kernel_rfl
  case hg16 => rfl
  case hy16 => (intro w hSw; first | (go_simp; done) | (go_simp; with_reducible rfl))
  case hQ16 => exact fun _ _ _ h => h
  try simp only [Act.put, List.setIfInBounds_toArray, List.set_cons_zero, List.set_cons_succ]
  refine wpAnyH_done (by kernel_rfl) ?_ _
  clear hHeld
  have A6 := Lib.hid h6
  clear h3 h4 h5 h6 A2
  obtain ⟨x0, x1, x2, x3, x4⟩ := A6.out.cells
  go_wp2_with fail
  refine (symlinkA w w6 t 4 gm kD kE ⟨#[97]⟩ ⟨#[46, 46]⟩ 0 A6.out eE (by decide) p8 p9 (by decide)).mono ?_
  rintro e w7 ⟨rfl, h7⟩
  have A7 := Lib.hid h7
  clear h7 A6 x0 x1 x2 x3 x4
  go_wp2_with fail
  refine (resolveA w w7 t 5 gm kE ⟨#[108]⟩ [100, 47, 101] 0 A7.out rA (by decide)).mono ?_
  rintro e w8 ⟨rfl, h8⟩
  have A8 := Lib.hid h8
  clear h8 A7
  go_wp2_with fail
  refine (resolveA w w8 t 5 gm kE ⟨#[120]⟩ [] 15 A8.out rB (by decide)).mono ?_
  rintro e w9 ⟨rfl, h9⟩
  have A9 := Lib.hid h9
  clear h9 A8
  go_wp2_with fail
  refine (resolveA w w9 t 5 gm kE ⟨#[97]⟩ [] 16 A9.out rC (by decide)).mono ?_
  rintro e w10 ⟨rfl, h10⟩
  have B10 := Lib.hid (show Below w.heap.size w w10 by obtain ⟨_, _, _, _, _, h⟩ := h10; exact h)
  have M10 := Lib.hid (hm.below B10.out)
  clear h10 A9
  go_wp2_with fail
  refine (safe_any ⟨#[97, 47, 98]⟩ ⟨#[46, 46, 47, 99]⟩ w10 (by decide) (by decide) M10.out).mono ?_
  rintro e w11 ⟨rfl, hb11⟩
  rw [show safeU (⟨#[97, 47, 98]⟩ : ByteArray).data.toList (⟨#[46, 46, 47, 99]⟩ : ByteArray).data.toList = true from sA]
  have B11 := Lib.hid (B10.out.trans (hb11.mono B10.out.size))
  have M11 := Lib.hid (M10.out.below hb11)
  clear hb11 B10 M10
  go_wp2_with fail
  refine (safe_any ⟨#[97]⟩ ⟨#[46, 46, 47, 99]⟩ w11 (by decide) (by decide) M11.out).mono ?_
  rintro e w12 ⟨rfl, hb12⟩
  rw [show safeU (⟨#[97]⟩ : ByteArray).data.toList (⟨#[46, 46, 47, 99]⟩ : ByteArray).data.toList = false from sB]
  have B12 := Lib.hid (B11.out.trans (hb12.mono B11.out.size))
  have M12 := Lib.hid (M11.out.below hb12)
  clear hb12 B11 M11
  go_wp2_with fail
  refine (safe_any ⟨#[97]⟩ ⟨#[99, 47, 46, 46]⟩ w12 (by decide) (by decide) M12.out).mono ?_
  rintro e w13 ⟨rfl, hb13⟩
  rw [show safeU (⟨#[97]⟩ : ByteArray).data.toList (⟨#[99, 47, 46, 46]⟩ : ByteArray).data.toList = false from sC]
  have B13 := Lib.hid (B12.out.trans (hb13.mono B12.out.size))
  clear hb13 B12 M12
  go_wp2_with fail
  go_ret
  exact ⟨rfl, B13.out⟩
end Go.Proofs.YtlbbehfbjbbckaaGreatDoor

/-! The laws LinkTexts, LinkBack: what they compute. -/
set_option linter.unusedVariables false
set_option linter.unusedSimpArgs false
namespace Go.Proofs.YtlbbehfbjbbckaaGreatDoor
open Go.RowKit
attribute [local go_sem] str_toList

theorem plain_harm (l : List UInt8) : plainU (harm ++ l) = (l, true) := by
  unfold plainU
  have : harm.isPrefixOf (harm ++ l) = true := List.isPrefixOf_iff_prefix.2 (List.prefix_append ..)
  rw [this]; rfl
theorem safe_harm (p l : List UInt8) : safeU p (harm ++ l) = false := if_pos (.inr (.inr (.inr rfl)))
theorem plain_back {l y : List UInt8} (h : plainU l = (y, true)) : harm ++ y = l := by
  unfold plainU at h
  cases hq : harm.isPrefixOf l with
  | false => rw [hq] at h; simp at h
  | true =>
    rw [hq] at h
    obtain ⟨z, rfl⟩ := List.isPrefixOf_iff_prefix.1 hq
    simp only [if_true, Prod.mk.injEq, and_true] at h
    rw [← h]; rfl
end Go.Proofs.YtlbbehfbjbbckaaGreatDoor

/-! What the rows of this seat share: a world for the witness. -/
set_option linter.unusedVariables false
set_option linter.unusedSimpArgs false
namespace Go.Proofs.YtlbbehfbjbbckaaGreatDoor
open Go.ChangeShapes Go.WideShapes Go.ChangeAt Go.RowKit

theorem own : ownKnob Tryz.prog.godebug = none := by kernel_rfl
theorem laidOut : laidOutB Tryz.prog = true := by kernel_rfl
theorem ml_shaped {W : World} (h : W.ShapedOpen Tryz.prog) : ML W :=
  Go.Proofs.cell_of_shapedOpen_int (zero := #[.int .i64 0]) (t := 3) h (of_decide_eq_true (by kernel_rfl)) (by kernel_rfl) rfl (by kernel_rfl) (by kernel_rfl) Tryz.underlying3
def litV : DataW Unit → Value
  | .lit (.int k x) => .int k x
  | _ => undef
def flatV : DataW Unit → List Value
  | .agg l => l.flatMap fun d => match d with | .agg m => m.map litV | d => [litV d]
  | _ => []
def lay1 (vs : List Value) : Obj → Obj
  | .cells _ t frozen => .cells vs.toArray t frozen
  | o => o
/-- A world for the witness: the settled one, the two tables holding what the library's text lays. -/
noncomputable def laidWorld (os : Os) : World :=
  { World.holding Tryz.prog os ⟨#[], #[], []⟩ with heap := ((World.holding Tryz.prog os ⟨#[], #[], []⟩).heap.modify 2 (lay1 (flatV Rows.laid_unicode_utf8_first))).modify 3 (lay1 (flatV Rows.laid_unicode_utf8_acceptRanges)) }
end Go.Proofs.YtlbbehfbjbbckaaGreatDoor

/-! Another Meta: the program's Set. -/
set_option linter.unusedVariables false
set_option linter.unusedSimpArgs false
namespace Go.Proofs.YtlbbehfbjbbckaaGreatDoor
open Go.RowKit

theorem heldT_set2 {w : World} {t k0 : Nat} {N : Nat → Option Nd} {x x' : Nd} (hk : N k0 = some x) (e1 : x'.kb = x.kb) (hd : ∀ a, x'.dA = some a → w.heap.size ≤ a.block ∨ x.dA = some a) : ∀ k, k = t ∨ heldT (setN N k0 x') k → (k = t ∨ heldT N k) ∨ w.heap.size ≤ k := by
  rintro k (rfl | ⟨m, hi⟩ | ⟨i, m, a, hi, ha, rfl⟩ | ⟨i, m, hi, hkk⟩)
  · exact .inl (.inl rfl)
  · rcases setN_some hi with ⟨rfl, rfl⟩ | ⟨_, hm⟩
    · exact .inl (.inr (.inl ⟨x, hk⟩))
    · exact .inl (.inr (.inl ⟨m, hm⟩))
  · rcases setN_some hi with ⟨rfl, rfl⟩ | ⟨_, hm⟩
    · rcases hd a ha with h | h
      · exact .inr h
      · exact .inl (.inr (.inr (.inl ⟨i, x, a, hk, h, rfl⟩)))
    · exact .inl (.inr (.inr (.inl ⟨i, m, a, hm, ha, rfl⟩)))
  · rcases setN_some hi with ⟨rfl, rfl⟩ | ⟨_, hm⟩
    · exact .inl (.inr (.inr (.inr ⟨i, x, hk, by rw [← e1]; exact hkk⟩)))
    · exact .inl (.inr (.inr (.inr ⟨i, m, hm, hkk⟩)))
theorem act_set {w w' : World} {t top c k : Nat} {S : St} {N : Nat → Option Nd} {x x' : Nd} {O : Nat → Prop} (hT : TreeAt w' t top S.next c (setN N k x')) (hR : Rep N top S) (ho : OkS S) (hO : ∀ k, k = t ∨ heldT N k → O k) (hk : N k = some x)
    (e1 : x'.kids = x.kids) (e0 : x'.kb = x.kb) (e2 : x'.ino = x.ino) (e3 : x'.links = x.links) (e4 : x'.kind = x.kind) (e5 : x'.target = x.target) (e6 : x'.data.length ≤ 65536) (hd : ∀ a, x'.dA = some a → w.heap.size ≤ a.block ∨ x.dA = some a) (hw : Only (ownT t N) w w') :
    ActPost w w' t c { S with th := setT S.th x.ino (thN x') } O := by
  have hth : S.th x.ino = thN x := hR.info k x hk
  have ht' : (thN x').target.size ≤ 200 ∧ (thN x').data.length ≤ 65536 := by
    rw [show (thN x').target = x.target from e5]; exact ⟨hR.tgt ho k x hk, e6⟩
  exact ⟨fun j => O j ∨ w.heap.size ≤ j, ⟨top, _, hT.mono (Nat.le_succ c), hR.set hk e1 e2 e3 e4, ho.set _ _ (by rw [hth]; exact e4) ht', fun j hj => (heldT_set2 hk e0 hd j hj).imp (hO j) id⟩, hw.mono (fun j _ hj => hO j (ownT_held hj)), fun j hj => hj⟩
/-- What there answers, over the plain state. -/
structure ThereS (N : Nat → Option Nd) (S : St) (l : Option Nat × Option Nat × Int) (r : Option Int × Int) : Prop where
  err : l.2.2 = r.2
  found : r.2 = 0 → ∃ k x, l.1 = some k ∧ N k = some x ∧ r.1 = some x.ino
  node : ∀ k, l.1 = some k → ∃ x, N k = some x ∧ r.1 = some x.ino
theorem Rep.thereR {N : Nat → Option Nd} {top : Nat} {S : St} (h : Rep N top S) (ho : OkS S) (p : List UInt8) : ThereS N S (thereU (lookN N top p)) (thereS (S.look p)) := by
  obtain ⟨h1, h2⟩ := h.there ho p
  have hn : ∀ k, (thereU (lookN N top p)).1 = some k → ∃ x, N k = some x ∧ (thereS (S.look p)).1 = some x.ino := fun k hk => by
    rw [hk] at h1; exact h1.some
  refine ⟨h2, fun he => ?_, hn⟩
  cases hl : (thereU (lookN N top p)).1 with
  | some k =>
    obtain ⟨x, e1, e2⟩ := hn k hl
    exact ⟨k, x, rfl, e1, e2⟩
  | none =>
    rw [hl] at h1
    have h3 := (h1.none_iff).1 rfl
    exfalso
    unfold thereS at h3 he
    split at h3
    · rename_i hc; rw [if_pos hc] at he; simp at he
    · rename_i hc; rw [if_neg hc] at he; exact hc ⟨he, h3⟩
theorem set_err (S : St) (p : List UInt8) (m : Mt) (h : (S.set p m).1 ≠ 0) : (S.set p m).2 = S := by
  unfold St.set at h ⊢
  by_cases a : mayU p m ≠ 0
  · rw [if_pos a]
  rw [if_neg a] at h ⊢
  generalize thereS (S.look p) = r at *
  obtain ⟨o, e⟩ := r
  cases o with
  | none => rfl
  | some i =>
    simp only at h ⊢
    by_cases b : e ≠ 0
    · rw [if_pos b]
    · rw [if_neg b] at h; exact absurd rfl h
theorem meta_blk {w : World} {k : Nat} {x : Nd} (h : Blk w k 111 (encN x)) (m : Mt) :
    Blk (((((w.setCell ⟨k, 4, none⟩ (.int .i64 m.m0)).setCell ⟨k, 5, none⟩ (.int .i64 m.m1)).setCell ⟨k, 6, none⟩ (.int .i64 m.m2)).setCell ⟨k, 7, none⟩ (.int .i64 m.m3)).setCell ⟨k, 8, none⟩ (.int .i64 m.m4)) k 111 (encN { x with m0 := m.m0, m1 := m.m1, m2 := m.m2, m3 := m.m3, m4 := m.m4 }) ∧
    Only (fun j => j = k) w (((((w.setCell ⟨k, 4, none⟩ (.int .i64 m.m0)).setCell ⟨k, 5, none⟩ (.int .i64 m.m1)).setCell ⟨k, 6, none⟩ (.int .i64 m.m2)).setCell ⟨k, 7, none⟩ (.int .i64 m.m3)).setCell ⟨k, 8, none⟩ (.int .i64 m.m4)) ∧
    ∀ j, j ≠ k → (((((w.setCell ⟨k, 4, none⟩ (.int .i64 m.m0)).setCell ⟨k, 5, none⟩ (.int .i64 m.m1)).setCell ⟨k, 6, none⟩ (.int .i64 m.m2)).setCell ⟨k, 7, none⟩ (.int .i64 m.m3)).setCell ⟨k, 8, none⟩ (.int .i64 m.m4)).heap[j]? = w.heap[j]? := by
  refine ⟨((((h.set 4 _).set 5 _).set 6 _).set 7 _).set 8 _, (((((Only.set (P := fun j => j = k) w ⟨k, 4, none⟩ _ rfl).trans (Only.set _ ⟨k, 5, none⟩ _ rfl)).trans (Only.set _ ⟨k, 6, none⟩ _ rfl)).trans (Only.set _ ⟨k, 7, none⟩ _ rfl)).trans (Only.set _ ⟨k, 8, none⟩ _ rfl)), fun j hj => ?_⟩
  rw [Below.heap_setCell _ _ _ _ hj, Below.heap_setCell _ _ _ _ hj, Below.heap_setCell _ _ _ _ hj, Below.heap_setCell _ _ _ _ hj, Below.heap_setCell _ _ _ _ hj]
set_option maxRecDepth 100000 in
set_option maxHeartbeats 8000000 in
theorem SetS_any (t c : Nat) (S : St) (O : Nat → Prop) (p : ByteArray) (m : Mt) (w : World) (h : TreeS w t c S O) (hp : p.size ≤ 2097152) :
    Calls Tryz.prog 94 #[.pointer (some ⟨t, 0, none⟩), .string p, aggM m] w fun e w' => e = .returned (.int .i64 (S.set p.data.toList m).1) ∧ ActPost w w' t c (S.set p.data.toList m).2 O := by
  have HS := Lib.hid h
  obtain ⟨top, N, hT, hR, ho, hO⟩ := h
  have HM := Lib.hid (fun w => may_any t p m w hp)
  have HF := Lib.hid (fun w (h : TreeAt w t top S.next c N) => there_any t top c S.next N p w h hp)
  have HTH := Lib.hid (hR.thereR ho p.data.toList)
  have HT := Lib.hid hT
  have HERR := Lib.hid (set_err S p.data.toList m)
  have HACT := Lib.hid (fun w' k x x' (hT' : TreeAt w' t top S.next c (setN N k x')) => act_set (w := w) (w' := w') (x := x) hT' hR ho hO)
  obtain ⟨X, hX⟩ : ∃ X, S.set p.data.toList m = X := ⟨_, rfl⟩
  have HX : Hid ((if mayU p.data.toList m ≠ 0 then (mayU p.data.toList m, S) else match thereS (S.look p.data.toList) with
    | (some i, e) => if e ≠ 0 then (e, S) else (0, { S with th := setT S.th i { S.th i with mt := m } })
    | (none, e) => (e, S)) = X) := Lib.hid hX
  have HIN := Lib.hid (fun k x (hk : N k = some x) => hR.info k x hk)
  have HDT := Lib.hid (hR.dat ho)
  rw [hX] at HERR ⊢
  clear hX hT hR ho hO
  generalize hmay : mayU p.data.toList m = er at *
  obtain ⟨r, hr⟩ : ∃ r, thereS (S.look p.data.toList) = r := ⟨_, rfl⟩
  obtain ⟨l, hl⟩ : ∃ l, thereU (lookN N top p.data.toList) = l := ⟨_, rfl⟩
  rw [hr] at HX HTH
  rw [hl] at HF HTH
  clear hr hl hmay
  obtain ⟨a, b, cc, dd, f⟩ := m
  have b0 := Blk.new w 53 [.int .i64 a, .int .i64 b, .int .i64 cc, .int .i64 dd, .int .i64 f]
  have hb0 := (Below.refl w.heap.size w).alloc (Nat.le_refl _) (.cells #[.int .i64 a, .int .i64 b, .int .i64 cc, .int .i64 dd, .int .i64 f] 53)
  have B0 := Lib.hid b0
  have HB0 := Lib.hid hb0
  have T0 := Lib.hid (HT.out.below hb0)
  clear b0 hb0 HT
  unfold aggM at *
  obtain ⟨x0, x1, x2, x3, x4⟩ := meta_cells B0.out
  go_enter Tryz.func94, Tryz.ntmps94
  go_wp2_with fail
  generalize hwa : w.alloc _ = wa at *
  generalize hbm : w.heap.size = bm at *
  refine (HM.out _).mono ?_
  rintro e w1 ⟨rfl, hb1⟩
  have B1 := Lib.hid (B0.out.below hb1)
  have HB1 := Lib.hid (HB0.out.trans (hb1.mono (by rw [← hbm]; exact HB0.out.size)))
  have T1 := Lib.hid (T0.out.below hb1)
  clear hb1 B0 HB0 T0 HM x0 x1 x2 x3 x4
  rcases Classical.em (er = 0) with he | he
  · subst he
    go_wp2_with fail
    refine (HF.out _ T1.out).mono ?_
    rintro e w2 ⟨rfl, hb2⟩
    have B2 := Lib.hid (B1.out.below hb2)
    have HB2 := Lib.hid (HB1.out.trans (hb2.mono (by rw [← hbm]; exact HB1.out.size)))
    have T2 := Lib.hid (T1.out.below hb2)
    clear hb2 HF B1 HB1 T1
    obtain ⟨lo, ld, le⟩ := l
    obtain ⟨ro, re⟩ := r
    obtain rfl : le = re := HTH.out.err
    unfold tupL
    rcases Classical.em (le = 0) with h0 | h0
    · subst h0
      obtain ⟨k, x, e1, hk, e2⟩ := HTH.out.found rfl
      obtain rfl : lo = some k := e1
      obtain rfl : ro = some x.ino := e2
      have K := Lib.hid (show X = (0, { S with th := setT S.th x.ino { S.th x.ino with mt := ⟨a, b, cc, dd, f⟩ } }) from HX.out.symm)
      have HK := Lib.hid hk
      have y0 := T2.out.node k x hk
      have hkb : bm ≠ k := B2.out.ne y0 (by decide)
      obtain ⟨x0, x1, x2, x3, x4⟩ := meta_cells B2.out
      have v4 := y0.cell 4
      have v5 := y0.cell 5
      have v6 := y0.cell 6
      have v7 := y0.cell 7
      have v8 := y0.cell 8
      have g4 := y0.frozen 4
      have g5 := y0.frozen 5
      have g6 := y0.frozen 6
      have g7 := y0.frozen 7
      have g8 := y0.frozen 8
      simp only [encN, List.getElem?_cons_zero, List.getElem?_cons_succ] at v4 v5 v6 v7 v8
      have Y0 := Lib.hid y0
      rw [show ptrO (some k) = .pointer (some ⟨k, 0, none⟩) from rfl]
      clear y0 hk HX HTH
      go_wp2_with fail
      go_ret
      obtain ⟨hB9, hO9, hh9⟩ := meta_blk Y0.out ⟨a, b, cc, dd, f⟩
      have T9 := T2.out.reset HK.out { x with m0 := a, m1 := b, m2 := cc, m3 := dd, m4 := f } rfl rfl rfl hB9 (BytesAt.only (T2.out.data k x HK.out) hh9 Y0.out) (T2.out.room k x HK.out) (fun j _ hj => hh9 j hj)
      have O9 : Only (ownT t N) w _ := Only.trans (Only.of (by rw [hbm]; exact HB2.out)) (hO9.mono (fun j _ hj => by subst hj; exact .inr (.inl ⟨x, HK.out⟩)))
      have hA := HACT.out _ k x _ T9 HK.out rfl rfl rfl rfl rfl rfl (HDT.out k x HK.out) (fun a ha => .inr ha) O9
      rw [K.out]
      refine ⟨rfl, ?_⟩
      rw [HIN.out k x HK.out]
      exact hA
    · have K := Lib.hid (show X = (le, S) by
        rw [← HX.out]
        cases ro with
        | none => rfl
        | some i => exact if_pos h0)
      have e1 : (le != 0) = true := by simpa using h0
      have HE := Lib.hid h0
      clear h0 HX
      go_wp2_with fail
      go_ret
      rw [K.out]
      exact ⟨rfl, act_same HS.out (by rw [hbm]; exact HB2.out)⟩
  · have K := Lib.hid (show X = (er, S) by rw [← HX.out]; exact if_pos he)
    have e1 : (er != 0) = true := by simpa using he
    clear he HX
    go_wp2_with fail
    go_ret
    rw [K.out]
    exact ⟨rfl, act_same HS.out (by rw [hbm]; exact HB1.out)⟩
end Go.Proofs.YtlbbehfbjbbckaaGreatDoor
