import Derived.Test.YthkjnpbbgfagkaaDoorL8A
import Derived.Test.YthkjnpbbgfagkaaDoorJB
import Derived.Test.YthkjnpbbgfagkaaDoorL10
import Derived.StillTailTactics
set_option linter.unusedVariables false
set_option linter.unusedSimpArgs false
namespace Go.Proofs.YthkjnpbbgfagkaaDoor
open Go.RowKit Go.Maps

theorem flip_u8 (x e : Nat) (hx : x < 256) (he : e < 8) : bits .xor .u8 (x : Int) (IntKind.u8.wrap (2 ^ e)) = ((x ^^^ 2 ^ e : Nat) : Int) := by
  have h2 : (2 : Nat) ^ e < 256 := Nat.lt_of_lt_of_le (Nat.pow_lt_pow_right (by omega) he) (by decide)
  have h3 : ((2 : Int) ^ e) = ((2 ^ e : Nat) : Int) := by push_cast; rfl
  rw [h3]
  generalize 2 ^ e = z at h2
  rw [wraps_u8 _ (by omega) (by omega)]
  exact u8_xor_nat x z hx h2
theorem flip_byte (x e : Nat) (hx : x < 256) (he : e < 8) : ∃ y : UInt8, y.toNat = x ^^^ 2 ^ e := by
  have h2 : (2 : Nat) ^ e < 2 ^ 8 := Nat.pow_lt_pow_right (by omega) he
  have := Nat.xor_lt_two_pow (n := 8) (show x < 2 ^ 8 from hx) h2
  exact ⟨UInt8.ofNat (x ^^^ 2 ^ e), by rw [UInt8.toNat_ofNat']; exact Nat.mod_eq_of_lt this⟩
theorem bys_set (l : List UInt8) (j : Nat) (y : UInt8) : (bys l).set j (bv y) = bys (l.set j y) := by simp [bys, List.map_set]
theorem burst_get {r : Rec} (h : May r) (own : List Rec) : getS (flat own ++ putRec r) (flat own).length = (((recB r).length : Int), (((flat own).length + (putN (recB r).length).length : Nat) : Int), 0) := by
  have hl := recB_le h
  exact getS_put (flat own) (recB r ++ sealB (crcOf (recB r))) (recB r).length (by omega)

theorem u32_and1 (x : Nat) (h : x < 4294967296) : bits .and .u32 (x : Int) 1 = ((x % 2 : Nat) : Int) := by
  have := bits_mask .u32 32 (by decide) (fun n h0 h1 => by rw [IntKind.wrap_u32]; omega) 1 (by decide) (x : Int) (by omega) (by omega)
  rw [show ((2 : Int) ^ 1 - 1) = 1 by decide, show ((2 : Int) ^ 1) = 2 by decide] at this
  rw [this]; omega
theorem shr_lt {B i : Nat} (h : B < 4294967296) : B / 2 ^ i < 4294967296 := Nat.lt_of_le_of_lt (Nat.div_le_self _ _) h
theorem and_one {B i : Nat} (hB : B < 4294967296) (h : B / 2 ^ i % 2 = 1) : (bits .and .u32 ((B : Int) / 2 ^ i) 1 == 1) = true := by
  rw [show ((B : Int) / 2 ^ i) = ((B / 2 ^ i : Nat) : Int) by push_cast; rfl, u32_and1 _ (shr_lt hB), h]; rfl
theorem and_zero {B i : Nat} (hB : B < 4294967296) (h : B / 2 ^ i % 2 = 0) : (bits .and .u32 ((B : Int) / 2 ^ i) 1 == 1) = false := by
  rw [show ((B : Int) / 2 ^ i) = ((B / 2 ^ i : Nat) : Int) by push_cast; rfl, u32_and1 _ (shr_lt hB), h]; rfl

set_option maxRecDepth 100000 in
set_option maxHeartbeats 4000000 in
theorem Burst_main (A : Option Addr) (n c : Nat) (l : List Rec) (a B : Nat) (w : World) (hs : Sl 4 w A n (encs l)) (ht : Tab w) (h0 : 0 < w.heap.size) (hl : lightR l) (ha : a < 65536) (hB0 : B ≠ 0) (hB : B < 4294967296) :
    Calls Tryd.prog 7 #[.slice A n c, .int .u16 a, .int .u32 B] w fun e w' => e = .returned (.bool true) ∧ Below w.heap.size w w' := by
  have HL := Lib.hid hs.recs
  obtain ⟨i0, hi, hz0, hz1, hz2⟩ := info_parts info23
  obtain ⟨j0, ji, jz0, jz1, jz2⟩ := info_parts info5
  have hn : n ≤ 40 := by have := hl.1; have := HL.out; omega
  have HLL := Lib.hid (decide_eq_true hl)
  have hb0 : ((B : Int) == 0) = false := by simpa using hB0
  have HB0 := Lib.hid hB0
  clear hl hB0
  go_enter Tryd.func7, Tryd.ntmps7
  go_wp2_with fail
  refine (light_any _ _ _ _ _ hs).mono ?_
  rintro e w1 ⟨rfl, hb1⟩
  rw [HLL.out]
  have hs1 := hs.below hb1
  have HB1 := Lib.hid hb1
  clear hb1
  go_wp2_with fail
  refine (bytes_any _ _ _ _ _ hs1 hn).mono ?_
  rintro e w2 ⟨v2, v2', rfl, hown2, hown2', hb2⟩
  have HB2 := Lib.hid (HB1.out.trans (hb2.mono HB1.out.size))
  have hml := mayL_len l
  rw [HL.out] at hml
  have hmm := mayL_may l
  rw [bytL_flat] at hown2
  generalize mayL l = M at *
  rcases List.eq_nil_or_concat M with rfl | ⟨init, r, rfl⟩
  · obtain ⟨A2, k2, rfl, hk2, _, _, _⟩ := own_sl hown2
    obtain ⟨A3, k3, rfl, hk3, _, _, _⟩ := own_sl hown2'
    clear hown2 hown2' hb2 hmm
    go_wp2_with fail
    refine (awake_any _ (ht.below h0 HB2.out) (Nat.lt_of_lt_of_le h0 HB2.out.size)).mono ?_
    rintro e wF ⟨rfl, hbF⟩
    have HBF := Lib.hid (HB2.out.trans (hbF.mono HB2.out.size))
    clear hbF
    go_wp2_with fail
    go_ret
    exact ⟨rfl, HBF.out⟩
  · rw [List.concat_eq_append] at *
    have hr : May r := hmm r (by simp)
    have hmi : ∀ x ∈ init, May x := fun x hx => hmm x (by simp [hx])
    have hml' : init.length + 1 ≤ n := by simpa using hml
    rw [flat_app, show flat [r] = putRec r by simp [flat]] at hown2
    have hfi : bytL init = flat init := by rw [bytL_flat, mayL_all hmi]
    have hfl := bytL_len init
    rw [hfi] at hfl
    have hpl := putRec_le hr
    have HMI := Lib.hid hmi
    have HR := Lib.hid hr
    have HFI := Lib.hid hfi
    have HG := Lib.hid (burst_get hr init)
    have hrb := recB_le hr
    have hput := put_len r
    have hnb := putN_len_pos (recB r).length
    have hT10 := putN_le (recB r).length
    have hL : (flat init ++ putRec r).length = (flat init).length + ((putN (recB r).length).length + (recB r).length + 4) := by rw [List.length_append, hput]
    rw [hL] at hown2
    rw [show (init ++ [r]).length = init.length + 1 by simp] at hown2'
    generalize hF : (flat init).length = F at *
    generalize hRn : (recB r).length = N at *
    generalize hPn : (putN (N : Int)).length = T at *
    have HF := Lib.hid hF
    have HRn := Lib.hid hRn
    have HPn := Lib.hid hPn
    have HLL2 := Lib.hid hL
    obtain ⟨g, cap, rfl, hbg, hgs, hcap⟩ := own_some hown2 (by omega)
    have hap := own_apart hown2' hown2 (by decide)
    obtain ⟨A3, k3, rfl, hk3, hl3, hob, _⟩ := own_sl hown2'
    have HAP : Hid (∀ a, A3 = some a → a.block ≠ g) := Lib.hid fun a ha e => by
      have := (hob a ha).2
      rw [this, e] at hap
      rcases hap with hap | hap
      · cases hap
      · exact hap rfl
    clear hap hob
    have hsj : ∀ w : World, (Instr.slice 25 (.slice A3 (init.length + 1) k3) none (some (.int .i64 (init.length : Int))) none).run Tryd.prog w = .ok (.slice (subAt A3 0 k3 4) init.length k3) w := fun w => run_slice_to under25 elem25 hi hz1 _ _ _ _ (by omega) _ _ rfl
    have hp3 := hl3.pre4 (j := init.length) (by omega) k3
    rw [List.take_left] at hp3
    have HO2 := Lib.hid hown2
    have HB2' := Lib.hid hb2
    clear hown2 hown2' hb2 hmm hmi hr hfi hF hRn hPn hL hml hput
    go_wp2_with fail
    refine (bytes_any _ _ _ _ _ hp3 (by omega)).mono ?_
    rintro e w3 ⟨v3, v3', rfl, hown3, hown3', hb3⟩
    rw [HFI.out, HF.out] at hown3
    obtain ⟨A4, k4, rfl, hk4, _, _, _⟩ := own_sl hown3
    have hO3 := own_below HO2.out hb3
    have hl4 := hl3.below hb3
    have HB3 := Lib.hid (HB2.out.trans (hb3.mono HB2.out.size))
    obtain ⟨_, _, hA4, _, hsl3, _, _⟩ := own_sl hO3
    simp only [Value.slice.injEq, true_and] at hA4
    obtain ⟨rfl, rfl⟩ := hA4
    have HO3 := Lib.hid hO3
    clear hown3 hown3' hb3 hp3 hl3 hO3
    go_wp2_with fail
    refine (Get_any _ _ _ _ (F : Int) _ hsl3 (by omega)).mono ?_
    rintro e w' ⟨rfl, rfl⟩
    rw [HG.out]
    have htest : ((F : Int) + (T : Int) + (N : Int) + 4 != (F : Int) + ((T : Int) + (N : Int) + 4)) = false := by simp; omega
    clear hsl3
    go_wp2_with fail
    have hkc : (a : Int) % (8 * (N : Int) + 1) = ((a % (8 * N + 1) : Nat) : Int) := by push_cast; rfl
    have hkl : a % (8 * N + 1) ≤ 8 * N := by have := Nat.mod_lt a (show 0 < 8 * N + 1 by omega); omega
    rw [hkc]
    generalize a % (8 * N + 1) = k at *
    clear hkc hsj htest
    go_loopw [70] (fun u wq => ∃ i : Nat, ∃ cur : List UInt8, u = .int .i64 i ∧ i ≤ 32 ∧ wq.ownsRow w1.heap.size 5 1 (.slice (some ⟨g, 0, none⟩) (F + (T + N + 4)) cap) (F + (T + N + 4)) (bys cur) ∧ cur.take (F + T) = (flat init ++ putRec r).take (F + T) ∧ valB (cur.drop (F + T)) = valB ((flat init ++ putRec r).drop (F + T)) ^^^ 2 ^ k * (B % 2 ^ i) ∧ Below w.heap.size w wq ∧ Sl 4 wq A3 (init.length + 1) (encs (init ++ [r]))) (fun u _ => 32 - (intOf u).toNat)
    case atStart => exact ⟨0, _, rfl, by omega, HO3.out, rfl, by simp [Nat.mod_one], HB3.out, hl4⟩
    case round =>
      obtain ⟨i, cur, rfl, hi32, hown, htk, hvb, hb, hlq⟩ := hrel
      have HTK := Lib.hid htk
      have HVB := Lib.hid hvb
      have HO := Lib.hid hown
      have HB := Lib.hid hb
      have HLQ := Lib.hid hlq
      clear htk hvb hown hb hlq
      rcases Nat.lt_or_ge i 32 with h | h
      · by_cases hbt : B / 2 ^ i % 2 = 1
        · have hbit := and_one hB hbt
          have hq : F + T + (k + i) / 8 < F + (T + N + 4) := by omega
          have hcl : (bys cur).length = F + (T + N + 4) := by have := HO.out.1; omega
          obtain ⟨x, hx⟩ : ∃ x, cur[F + T + (k + i) / 8]? = some x := ⟨_, List.getElem?_eq_getElem (by simpa [bys] using (by omega : F + T + (k + i) / 8 < (bys cur).length))⟩
          have hcell := HO.out.cellAt (F + T + (k + i) / 8) (by omega)
          rw [bys_get hx] at hcell
          have hfz := HO.out.frozenAt (F + T + (k + i) / 8)
          have HBT := Lib.hid hbt
          have HX := Lib.hid hx
          have hx8 : x.toNat < 256 := x.toNat_lt
          simp only [bv] at hcell
          clear hbt hx hcl
          go_wp2_with fail
          have d1 : ((k : Int) + (i : Int)).tdiv 8 = ((k : Int) + (i : Int)) / 8 := Int.tdiv_eq_ediv_of_nonneg (by omega)
          have d2 : IntKind.i64.wrap (((k : Int) + (i : Int)) / 8) = ((k : Int) + (i : Int)) / 8 := IntWalk.i64_in _ (by omega)
          have d3 : ((k : Int) + (i : Int)).tmod 8 = ((k : Int) + (i : Int)) % 8 := Int.tmod_eq_emod_of_nonneg (by omega)
          have d4 : IntKind.i64.wrap (((k : Int) + (i : Int)) % 8) = ((k : Int) + (i : Int)) % 8 := IntWalk.i64_in _ (by omega)
          have d5 : 0 ≤ ((k : Int) + (i : Int)) % 8 := by omega
          have d6 : (((k : Int) + (i : Int)) % 8).toNat = (k + i) % 8 := by omega
          have g1 : IntKind.i64.wrap ((F : Int) + (T : Int) + ((k : Int) + (i : Int)) / 8) = (F : Int) + (T : Int) + ((k : Int) + (i : Int)) / 8 := IntWalk.i64_in _ (by omega)
          have g2 : 0 ≤ (F : Int) + (T : Int) + ((k : Int) + (i : Int)) / 8 := by omega
          have g3 : ((F : Int) + (T : Int) + ((k : Int) + (i : Int)) / 8).toNat = F + T + (k + i) / 8 := by omega
          have g4 : (F : Int) + (T : Int) + ((k : Int) + (i : Int)) / 8 < (F : Int) + ((T : Int) + (N : Int) + 4) := by omega
          go_still_tail 12, (by kernel_rfl)
          change wpList _ _ _ _ _ wr.drew
          have he8 : (k + i) % 8 < 8 := Nat.mod_lt _ (by omega)
          rw [flip_u8 x.toNat ((k + i) % 8) hx8 he8]
          obtain ⟨y, hy⟩ := flip_byte x.toNat ((k + i) % 8) hx8 he8
          rw [← hy]
          have hyy := burst_step (y := y) HX.out hy HBT.out HTK.out HVB.out
          have HYY := Lib.hid hyy
          have hst := World.ownsRow.stored (w := wr.drew) HO.out.drew (F + T + (k + i) / 8) (bv y)
          rw [bys_set] at hst
          have HST := Lib.hid hst
          clear d1 d2 d3 d4 d5 d6 g1 g2 g3 g4 hyy hst he8 hx8 hy
          go_wp2_with fail
          go_roundw
          case rel => exact ⟨i+1, _, by go_num, by omega, HST.out.1, HYY.out.1, HYY.out.2, (HB.out.drew).setCell (by have := HB1.out.size; simp only; omega) _, (HLQ.out.drew).grown HST.out.2 (fun a' k' ha' hk' => by cases hk'; exact HAP.out a' ha')⟩
          case measure => simp [intOf]; omega
        · have hbit := and_zero hB (by omega : B / 2 ^ i % 2 = 0)
          have HBT := Lib.hid (by omega : B / 2 ^ i % 2 = 0)
          clear hbt
          go_wp2_with fail
          go_roundw
          case rel => exact ⟨i+1, cur, by go_num, by omega, HO.out, HTK.out, by rw [mod_nobit B i HBT.out]; exact HVB.out, HB.out, HLQ.out⟩
          case measure => simp [intOf]; omega
      · obtain rfl : i = 32 := by omega
        have hAll : allR (F + (T + N + 4)) cur = (init, F) := by
          have h1 := burst_all (own := init) (r := r) (cur := cur) (k := k) (B := B) HMI.out HR.out
          rw [HF.out, HRn.out, HPn.out, HLL2.out] at h1
          have hcl : cur.length = F + (T + N + 4) := by have := HO.out.1; simp [bys] at this; omega
          rw [hcl] at h1
          exact h1 rfl HTK.out (by have := HVB.out; rwa [Nat.mod_eq_of_lt (show B < 2 ^ 32 by omega)] at this) hkl HB0.out hB
        have HAL := Lib.hid hAll
        obtain ⟨_, _, hA5, _, hcs, _, _⟩ := own_sl HO.out
        simp only [Value.slice.injEq, true_and] at hA5
        obtain ⟨rfl, rfl⟩ := hA5
        have hT4 := ht.below h0 HB.out
        have h04 := Nat.lt_of_lt_of_le h0 HB.out.size
        have hsj : ∀ w : World, (Instr.slice 25 (.slice A3 (init.length + 1) k3) none (some (.int .i64 (init.length : Int))) none).run Tryd.prog w = .ok (.slice (subAt A3 0 k3 4) init.length k3) w := fun w => run_slice_to under25 elem25 hi hz1 _ _ _ _ (by omega) _ _ rfl
        have hlq := HLQ.out
        clear hAll
        go_wp2_with fail
        refine (All_any _ _ _ _ _ hcs (by omega) hcap hT4 h04).mono ?_
        rintro e w5 ⟨v5, rfl, hown5, hb5⟩
        rw [HAL.out] at hown5 ⊢
        obtain ⟨A5, k5, rfl, hk5, hg5, _, _⟩ := own_sl hown5
        have hlq5 := hlq.below hb5
        have HB5 := Lib.hid (HB.out.trans (hb5.mono HB.out.size))
        have hp5 := hlq5.pre4 (j := init.length) (by omega) k3
        rw [List.take_left] at hp5
        clear hown5 hb5 hlq hlq5 hcs hT4
        go_wp2_with fail
        refine (same_any _ _ _ _ _ _ _ _ _ hg5 hp5).mono ?_
        rintro e w6 ⟨rfl, hb6⟩
        rw [decide_eq_true rfl]
        have HB6 := Lib.hid (HB5.out.trans (hb6.mono HB5.out.size))
        clear hb6 hg5 hp5 hsj
        go_wp2_with fail
        refine (awake_any _ (ht.below h0 HB6.out) (Nat.lt_of_lt_of_le h0 HB6.out.size)).mono ?_
        rintro e wF ⟨rfl, hbF⟩
        have HBF := Lib.hid (HB6.out.trans (hbF.mono HB6.out.size))
        clear hbF
        go_wp2_with fail
        go_ret
        exact ⟨rfl, HBF.out⟩

set_option maxRecDepth 100000 in
set_option maxHeartbeats 1000000 in
theorem Burst_not (A : Option Addr) (n c : Nat) (l : List Rec) (a B : Nat) (w : World) (hs : Sl 4 w A n (encs l)) (ht : Tab w) (h0 : 0 < w.heap.size) (hl : ¬ lightR l) :
    Calls Tryd.prog 7 #[.slice A n c, .int .u16 a, .int .u32 B] w fun e w' => e = .returned (.bool true) ∧ Below w.heap.size w w' := by
  have HLL := Lib.hid (decide_eq_false hl)
  clear hl
  go_enter Tryd.func7, Tryd.ntmps7
  go_wp2_with fail
  refine (light_any _ _ _ _ _ hs).mono ?_
  rintro e w1 ⟨rfl, hb1⟩
  rw [HLL.out]
  have HB1 := Lib.hid hb1
  clear hb1
  go_wp2_with fail
  refine (awake_any _ (ht.below h0 HB1.out) (Nat.lt_of_lt_of_le h0 HB1.out.size)).mono ?_
  rintro e wA ⟨rfl, hbA⟩
  have HBA := Lib.hid (HB1.out.trans (hbA.mono HB1.out.size))
  clear hbA
  go_wp2_with fail
  go_ret
  exact ⟨rfl, HBA.out⟩
set_option maxRecDepth 100000 in
set_option maxHeartbeats 1000000 in
theorem Burst_zero (A : Option Addr) (n c : Nat) (l : List Rec) (a : Nat) (w : World) (hs : Sl 4 w A n (encs l)) (ht : Tab w) (h0 : 0 < w.heap.size) (hl : lightR l) :
    Calls Tryd.prog 7 #[.slice A n c, .int .u16 a, .int .u32 0] w fun e w' => e = .returned (.bool true) ∧ Below w.heap.size w w' := by
  have HLL := Lib.hid (decide_eq_true hl)
  clear hl
  go_enter Tryd.func7, Tryd.ntmps7
  go_wp2_with fail
  refine (light_any _ _ _ _ _ hs).mono ?_
  rintro e w1 ⟨rfl, hb1⟩
  rw [HLL.out]
  have HB1 := Lib.hid hb1
  clear hb1
  go_wp2_with fail
  refine (awake_any _ (ht.below h0 HB1.out) (Nat.lt_of_lt_of_le h0 HB1.out.size)).mono ?_
  rintro e wA ⟨rfl, hbA⟩
  have HBA := Lib.hid (HB1.out.trans (hbA.mono HB1.out.size))
  clear hbA
  go_wp2_with fail
  go_ret
  exact ⟨rfl, HBA.out⟩
theorem Burst_any (A : Option Addr) (n c : Nat) (l : List Rec) (a B : Int) (w : World) (hs : Sl 4 w A n (encs l)) (ht : Tab w) (h0 : 0 < w.heap.size) (ha : (Lit.int .u16 a).wf = true) (hB : (Lit.int .u32 B).wf = true) :
    Calls Tryd.prog 7 #[.slice A n c, .int .u16 a, .int .u32 B] w fun e w' => e = .returned (.bool true) ∧ Below w.heap.size w w' := by
  simp only [Lit.wf, Bool.and_eq_true, decide_eq_true_eq, show IntKind.u16.min = 0 from rfl, show IntKind.u16.max = 65535 from rfl, show IntKind.u32.min = 0 from rfl, show IntKind.u32.max = 4294967295 from rfl] at ha hB
  obtain ⟨a, rfl⟩ := Int.eq_ofNat_of_zero_le ha.1
  obtain ⟨B, rfl⟩ := Int.eq_ofNat_of_zero_le hB.1
  by_cases hl : lightR l
  · by_cases h : B = 0
    · subst h; exact Burst_zero A n c l a w hs ht h0 hl
    · exact Burst_main A n c l a B w hs ht h0 hl (by omega) h (by omega)
  · exact Burst_not A n c l a B w hs ht h0 hl
end Go.Proofs.YthkjnpbbgfagkaaDoor
