import Derived.Test.YtcagonpnjionhaaQc
/-! A class, read: the document's. -/
set_option linter.unusedVariables false
set_option linter.unusedSimpArgs false
namespace Go.Proofs.Ytcagonpnjionhaa
open Go.RowKit

set_option maxRecDepth 100000 in
set_option maxHeartbeats 8000000 in
theorem refClass_any (s : ByteArray) (i : Nat) (w : World) (hs : s.size ≤ 140737488355328) (hi : i ≤ s.size) :
    Calls Try.prog 90 #[.string s, .int .i64 i] w fun e w' => TellC s.data.toList i e ∧ Below w.heap.size w w' := by
  have HSZ := Lib.hid (show s.data.toList.length = s.size by rw [Array.length_toList]; rfl)
  have hzv := zero_sr
  have hbd := fun w => build_sr_k w 4
  have hzl := zeroG_len
  generalize zeroG = Z at *
  have HZL := Lib.hid hzl
  clear hzl
  have n1 := (Blk.new w 105 Z).alloc (.cells Z.toArray 105)
  have n2 := Blk.new (w.alloc (.cells Z.toArray 105)) 105 Z
  rw [World.size_alloc] at n2
  have b2 := n2.setRow (encK 4 0 false noSet)
  have b1 := n1.setRow_other (k := w.heap.size + 1) (by omega) (encK 4 0 false noSet).toArray
  have hb0 : Below w.heap.size w (((w.alloc (.cells Z.toArray 105)).alloc (.cells Z.toArray 105)).setRow (w.heap.size + 1) (encK 4 0 false noSet).toArray) := below_setRow (((Below.refl _ _).alloc (Nat.le_refl _) _).alloc (by simp) _) (by omega) _
  have hz4 := size_sr (k := 4) (c := 0) (nt := false) noSet_len
  have hst0 := noSet_len
  have hE := encK_len (k := 4) (c := 0) (nt := false) noSet_len
  generalize hN : noSet = N0 at *
  have HN := Lib.hid hN
  clear hN
  have c20 := b2.cell 2
  have f20 := b2.frozen 2
  obtain ⟨nt, hnt⟩ : ∃ nt, decide (s.data.toList[i]? = some 33) = nt := ⟨_, rfl⟩
  obtain ⟨first, hfirst⟩ : ∃ first, cond nt (i + 1) i = first := ⟨_, rfl⟩
  have HNT := Lib.hid (And.intro hnt hfirst)
  have hf1 : i ≤ first ∧ first ≤ s.size := by
    subst hfirst
    cases nt with
    | true =>
      have := (List.getElem?_eq_some_iff.1 (of_decide_eq_true hnt)).1
      have := HSZ.out
      simp only [cond]; omega
    | false => simp only [cond]; omega
  have b2t := b2.set 2 (.bool true)
  rw [encK_nt] at b2t
  have b1t := Blk.other (a := ⟨w.heap.size + 1, 2, none⟩) b1 (by simp) (.bool true)
  have hbt := Below.setCell (p := ⟨w.heap.size + 1, 2, none⟩) hb0 (by simp) (.bool true)
  have N2 := Lib.hid n2
  have HB2 := Lib.hid b2
  have HB1 := Lib.hid b1
  have HB0 := Lib.hid hb0
  have HB2t := Lib.hid b2t
  have HB1t := Lib.hid b1t
  have HBt := Lib.hid hbt
  clear b2 b1 hb0 b2t b1t hbt n1 n2
  obtain ⟨hf1, hf2⟩ := hf1
  go_enter Try.func90, Try.ntmps90
  cases nt with
  | true =>
    have hlt : i < s.size := by
      have := (List.getElem?_eq_some_iff.1 (of_decide_eq_true hnt)).1
      have := HSZ.out; omega
    have hq : (((s[i]'hlt).toNat : Int) == 33) = true := by
      have h1 := of_decide_eq_true hnt
      rw [data_at s i hlt] at h1
      rw [Option.some.inj h1]; rfl
    simp only [cond] at hfirst
    have HFI := Lib.hid hfirst
    clear hnt hfirst
    go_wp2_with (first | (refine wpList_val rfl (run_build_op rfl (by simp; rfl) (hbd _)) ?_) | (refine wpList_store_row rfl 105 (.tmp 7) (.tmp 14) rfl (w.heap.size + 1) _ _ _ rfl rfl N2.out hz4 (HZL.out.trans hE.symm) (encK_one _ _ _ _) ?_))
    clear hq c20 f20 hbd hzv hE hz4 N2
    obtain ⟨nt, hnt1⟩ : ∃ nt, nt = true := ⟨_, rfl⟩
    have B2 : Hid (Blk _ (w.heap.size + 1) 105 (encK 4 0 nt N0)) := Lib.hid (by rw [hnt1]; exact HB2t.out)
    have B1 := HB1t
    have HB := HBt
    clear HB2t HB1t HBt HB2 HB1 HB0
    have hat : ((i : Int) + 1) = (first : Int) := by have := HFI.out; omega
    rw [← hnt1] at HNT
    clear hnt1
    go_loopw [1, 8] (fun a b wr => ∃ (at' : Nat) (st : List Bool), a = .int .i64 at' ∧ first ≤ at' ∧ at' ≤ s.size ∧ st.length = 256 ∧ membersF s.data.toList s.data.toList.length at' st = membersF s.data.toList s.data.toList.length first N0 ∧ (∃ q : Nat, b = .int .i64 q ∧ q ≤ at' ∧ (0 < q ↔ first < at')) ∧ Blk wr (w.heap.size + 1) 105 (encK 4 0 nt st) ∧ Blk wr w.heap.size 105 Z ∧ Below w.heap.size w wr) (fun a _ _ => s.size - (intOf a).toNat)
    case atStart => exact ⟨first, N0, by rw [hat], Nat.le_refl _, hf2, hst0, rfl, ⟨0, rfl, Nat.zero_le _, by omega⟩, B2.out, B1.out, HB.out⟩
    case round =>
      clear B2 B1 HB hat
      obtain ⟨at', st, rfl, ha1, ha2, hst, heq, ⟨q, rfl, hq1, hq2⟩, b2, b1, hb⟩ := hrel
      have B2 := Lib.hid b2
      have B1 := Lib.hid b1
      have HB := Lib.hid hb
      have HEQ := Lib.hid heq
      clear b2 b1 hb heq
      by_cases hc : at' < s.data.toList.length ∧ s.data.toList[at']? ≠ some 93
      · have HC := Lib.hid hc
        have hlt : at' < s.size := by have := hc.1; rw [HSZ.out] at this; exact this
        have hcc1 : (at' : Int) < s.size := by omega
        have hcc2 : (((s[at']'hlt).toNat : Int) != 93) = true := by
          have h2 := hc.2
          rw [data_at s at' hlt] at h2
          have : (s[at']'hlt).toNat ≠ 93 := fun e => h2 (congrArg some (UInt8.toNat_inj.1 (by rw [e]; rfl)))
          simp; omega
        clear hc
        go_wp2_with fail
        refine (refMember_any s at' _ (by omega) (by omega)).mono ?_
        rintro e w' ⟨rfl, rfl⟩
        cases hm0 : memberF s.data.toList at' with
        | none =>
            simp only [tellM]
            have KN := Lib.hid (classF_none HNT.out (show membersF s.data.toList s.data.toList.length first noSet = none by rw [HN.out, ← HEQ.out, membersF_step HC.out (by omega), rangeF_none hm0]))
            have hsz := size_sr (k := 4) (c := 0) (nt := nt) hst
            skip
            go_wp2_with (first | (refine wpList_load_row rfl 105 (.tmp 7) rfl (w.heap.size + 1) rfl _ _ _ _ B2.out Try.underlying105 rfl hsz ?_) | (refine wpList_store_row rfl 105 (.tmp 4) (.tmp 47) rfl w.heap.size _ _ _ rfl rfl B1.out hsz (HZL.out.trans (encK_len hst).symm) (encK_one _ _ _ _) ?_))
            exact bodyPost_ret (results_cell_tmp2_row (p := 4) (u := 5) (v := 6) rfl _ _ w.heap.size _ _ _ _ rfl (Blk.setRow B1.out _) Try.underlying105 rfl hsz) rfl ⟨TellC.of ⟨nt, st, _, false, rfl, hst, (fun e => by cases e), fun _ => KN.out⟩, below_setRow HB.out (Nat.le_refl _) _⟩
        | some x =>
            obtain ⟨lo, n⟩ := x
            simp only [tellM]
            obtain ⟨hn1, hn2⟩ := memberF_le hm0
            rw [HSZ.out] at hn2
            by_cases hcd : n + 1 < s.data.toList.length ∧ s.data.toList[n]? = some 45 ∧ s.data.toList[n + 1]? ≠ some 93
            · have hlt2 : n + 1 < s.size := by have := hcd.1; rw [HSZ.out] at this; exact this
              have e1 : (((s[n]'(by omega)).toNat : Int) == 45) = true := by
                have h2 := hcd.2.1
                rw [data_at s n (by omega)] at h2
                rw [Option.some.inj h2]; rfl
              have e2 : (((s[n + 1]'hlt2).toNat : Int) != 93) = true := by
                have h2 := hcd.2.2
                rw [data_at s (n + 1) hlt2] at h2
                have : (s[n + 1]'hlt2).toNat ≠ 93 := fun e => h2 (congrArg some (UInt8.toNat_inj.1 (by rw [e]; rfl)))
                simp; omega
              have e3 : ((n : Int) + 1).toNat = n + 1 := by omega
              have hM1 : ∀ w, Calls Try.prog 91 #[.string s, .int .i64 ((n : Int) + 1)] w fun e w' => e = .returned (tellM (memberF s.data.toList (n + 1))) ∧ w' = w := fun w => by
                have := refMember_any s (n + 1) w (by omega) (by omega)
                rwa [show ((n + 1 : Nat) : Int) = (n : Int) + 1 by omega] at this
              have HM1 := Lib.hid hM1
              clear hM1
              go_wp2_with fail
              refine (HM1.out _).mono ?_
              rintro e w' ⟨rfl, rfl⟩
              cases hm1 : memberF s.data.toList (n + 1) with
              | none =>
                simp only [tellM]
                have KN := Lib.hid (classF_none HNT.out (show membersF s.data.toList s.data.toList.length first noSet = none by rw [HN.out, ← HEQ.out, membersF_step HC.out (by omega), rangeF_two hm0 hcd, hm1]))
                have hsz := size_sr (k := 4) (c := 0) (nt := nt) hst
                skip
                go_wp2_with (first | (refine wpList_load_row rfl 105 (.tmp 7) rfl (w.heap.size + 1) rfl _ _ _ _ B2.out Try.underlying105 rfl hsz ?_) | (refine wpList_store_row rfl 105 (.tmp 4) (.tmp 82) rfl w.heap.size _ _ _ rfl rfl B1.out hsz (HZL.out.trans (encK_len hst).symm) (encK_one _ _ _ _) ?_))
                exact bodyPost_ret (results_cell_tmp2_row (p := 4) (u := 5) (v := 6) rfl _ _ w.heap.size _ _ _ _ rfl (Blk.setRow B1.out _) Try.underlying105 rfl hsz) rfl ⟨TellC.of ⟨nt, st, _, false, rfl, hst, (fun e => by cases e), fun _ => KN.out⟩, below_setRow HB.out (Nat.le_refl _) _⟩
              | some y =>
                obtain ⟨hi', n2⟩ := y
                simp only [tellM]
                by_cases hlt3 : hi'.toNat < lo.toNat
                · skip
                  have KN := Lib.hid (classF_none HNT.out (show membersF s.data.toList s.data.toList.length first noSet = none by rw [HN.out, ← HEQ.out, membersF_step HC.out (by omega), rangeF_two hm0 hcd, hm1]; simp only; rw [if_pos hlt3]))
                  have hsz := size_sr (k := 4) (c := 0) (nt := nt) hst
                  skip
                  go_wp2_with (first | (refine wpList_load_row rfl 105 (.tmp 7) rfl (w.heap.size + 1) rfl _ _ _ _ B2.out Try.underlying105 rfl hsz ?_) | (refine wpList_store_row rfl 105 (.tmp 4) (.tmp 82) rfl w.heap.size _ _ _ rfl rfl B1.out hsz (HZL.out.trans (encK_len hst).symm) (encK_one _ _ _ _) ?_))
                  exact bodyPost_ret (results_cell_tmp2_row (p := 4) (u := 5) (v := 6) rfl _ _ w.heap.size _ _ _ _ rfl (Blk.setRow B1.out _) Try.underlying105 rfl hsz) rfl ⟨TellC.of ⟨nt, st, _, false, rfl, hst, (fun e => by cases e), fun _ => KN.out⟩, below_setRow HB.out (Nat.le_refl _) _⟩
                · skip
                  have hmem := (show rangeF s.data.toList at' = some (lo, hi', n2) by rw [rangeF_two hm0 hcd, hm1]; simp only; rw [if_neg hlt3])
                  obtain ⟨hr1, hr2, hr3⟩ := rangeF_le hmem
                  have KS := Lib.hid (show membersF s.data.toList s.data.toList.length at' st = membersF s.data.toList s.data.toList.length n2 (setR st lo.toNat hi'.toNat) by rw [membersF_step HC.out (by omega), hmem])
                  have hr4 : n2 ≤ s.size := by rw [← HSZ.out]; exact hr2
                  have hlo : lo.toNat < 256 := UInt8.toNat_lt _
                  have hhi : hi'.toNat < 256 := UInt8.toNat_lt _
                  clear hmem hr2 
                  go_wp2_with fail
                  go_loopw [13] (fun a wr => ∃ c : Nat, a = .int .i64 c ∧ lo.toNat ≤ c ∧ c ≤ hi'.toNat + 1 ∧ Blk wr (w.heap.size + 1) 105 (encK 4 0 nt (setU st lo.toNat c)) ∧ Blk wr w.heap.size 105 Z ∧ Below w.heap.size w wr) (fun a _ => hi'.toNat + 1 - (intOf a).toNat)
                  case atStart => exact ⟨lo.toNat, rfl, Nat.le_refl _, by omega, by rw [setU_start]; exact B2.out, B1.out, HB.out⟩
                  case round =>
                    obtain ⟨c, rfl, hc1, hc2, b2, b1, hb⟩ := hrel
                    have hsl : (setU st lo.toNat c).length = 256 := by rw [setU_len, hst]
                    rcases Nat.lt_or_ge hi'.toNat c with h8 | h8
                    · obtain rfl : c = hi'.toNat + 1 := by omega
                      have D2 := Lib.hid b2
                      have D1 := Lib.hid b1
                      have DB := Lib.hid hb
                      clear b1 b2 hb
                      go_wp2_with fail
                      go_roundw
                      case rel => exact ⟨n2, setR st lo.toNat hi'.toNat, rfl, by omega, by omega, by rw [setR_len, hst], by rw [← HEQ.out, KS.out], ⟨q + 1, by go_num, by omega, by omega⟩, D2.out, D1.out, DB.out⟩
                      case measure => first | (simp [intOf]; done) | (simp [intOf]; omega)
                    · have cc := b2.cell (3 + c)
                      rw [encK_at (by omega)] at cc
                      have ff := b2.frozen (3 + c)
                      have b2' := b2.set (3 + c) (.bool true)
                      rw [encK_set, setU_step st _ _ hc1] at b2'
                      have D2 := Lib.hid b2'
                      have D1' := Lib.hid (Blk.other (a := ⟨w.heap.size + 1, 3 + c, none⟩) b1 (by simp) (.bool true))
                      have DB' := Lib.hid (Below.setCell (p := ⟨w.heap.size + 1, 3 + c, none⟩) hb (by simp) (.bool true))
                      have hc9 : (c : Int) < 256 := by omega
                      clear b1 b2 b2' hb hsl
                      go_wp2_with fail
                      go_roundw
                      case rel => exact ⟨c + 1, by go_num, by omega, by omega, D2.out, D1'.out, DB'.out⟩
                      case measure => first | (simp [intOf]; done) | (simp [intOf]; omega)
            · have hcd2 := hcd
              rcases Nat.lt_or_ge (n + 1) s.size with g1 | g1
              · by_cases g2 : (s[n]'(by omega)).toNat = 45
                · by_cases g3 : (s[n + 1]'g1).toNat = 93
                  · have e1 : (((s[n]'(by omega)).toNat : Int) == 45) = true := by simp [g2]
                    have e2 : (((s[n + 1]'g1).toNat : Int) != 93) = false := by simp [g3]
                    have e3 : ((n : Int) + 1).toNat = n + 1 := by omega
                    clear g2 g3 hcd2
                    have hmem := (show rangeF s.data.toList at' = some (lo, lo, n) from rangeF_one hm0 hcd)
                    obtain ⟨hr1, hr2, hr3⟩ := rangeF_le hmem
                    have KS := Lib.hid (show membersF s.data.toList s.data.toList.length at' st = membersF s.data.toList s.data.toList.length n (setR st lo.toNat lo.toNat) by rw [membersF_step HC.out (by omega), hmem])
                    have hr4 : n ≤ s.size := by rw [← HSZ.out]; exact hr2
                    have hlo : lo.toNat < 256 := UInt8.toNat_lt _
                    have hhi : lo.toNat < 256 := UInt8.toNat_lt _
                    clear hmem hr2 
                    go_wp2_with fail
                    go_loopw [13] (fun a wr => ∃ c : Nat, a = .int .i64 c ∧ lo.toNat ≤ c ∧ c ≤ lo.toNat + 1 ∧ Blk wr (w.heap.size + 1) 105 (encK 4 0 nt (setU st lo.toNat c)) ∧ Blk wr w.heap.size 105 Z ∧ Below w.heap.size w wr) (fun a _ => lo.toNat + 1 - (intOf a).toNat)
                    case atStart => exact ⟨lo.toNat, rfl, Nat.le_refl _, by omega, by rw [setU_start]; exact B2.out, B1.out, HB.out⟩
                    case round =>
                      obtain ⟨c, rfl, hc1, hc2, b2, b1, hb⟩ := hrel
                      have hsl : (setU st lo.toNat c).length = 256 := by rw [setU_len, hst]
                      rcases Nat.lt_or_ge lo.toNat c with h8 | h8
                      · obtain rfl : c = lo.toNat + 1 := by omega
                        have D2 := Lib.hid b2
                        have D1 := Lib.hid b1
                        have DB := Lib.hid hb
                        clear b1 b2 hb
                        go_wp2_with fail
                        go_roundw
                        case rel => exact ⟨n, setR st lo.toNat lo.toNat, rfl, by omega, by omega, by rw [setR_len, hst], by rw [← HEQ.out, KS.out], ⟨q + 1, by go_num, by omega, by omega⟩, D2.out, D1.out, DB.out⟩
                        case measure => first | (simp [intOf]; done) | (simp [intOf]; omega)
                      · have cc := b2.cell (3 + c)
                        rw [encK_at (by omega)] at cc
                        have ff := b2.frozen (3 + c)
                        have b2' := b2.set (3 + c) (.bool true)
                        rw [encK_set, setU_step st _ _ hc1] at b2'
                        have D2 := Lib.hid b2'
                        have D1' := Lib.hid (Blk.other (a := ⟨w.heap.size + 1, 3 + c, none⟩) b1 (by simp) (.bool true))
                        have DB' := Lib.hid (Below.setCell (p := ⟨w.heap.size + 1, 3 + c, none⟩) hb (by simp) (.bool true))
                        have hc9 : (c : Int) < 256 := by omega
                        clear b1 b2 b2' hb hsl
                        go_wp2_with fail
                        go_roundw
                        case rel => exact ⟨c + 1, by go_num, by omega, by omega, D2.out, D1'.out, DB'.out⟩
                        case measure => first | (simp [intOf]; done) | (simp [intOf]; omega)
                  · exact absurd ⟨by rw [HSZ.out]; exact g1, by rw [data_at s n (by omega)]; exact congrArg some (UInt8.toNat_inj.1 (by rw [g2]; rfl)), by rw [data_at s (n + 1) g1]; intro e; exact g3 (by rw [Option.some.inj e]; rfl)⟩ hcd2
                · have e1 : (((s[n]'(by omega)).toNat : Int) == 45) = false := by simp; omega
                  clear g2 hcd2
                  have hmem := (show rangeF s.data.toList at' = some (lo, lo, n) from rangeF_one hm0 hcd)
                  obtain ⟨hr1, hr2, hr3⟩ := rangeF_le hmem
                  have KS := Lib.hid (show membersF s.data.toList s.data.toList.length at' st = membersF s.data.toList s.data.toList.length n (setR st lo.toNat lo.toNat) by rw [membersF_step HC.out (by omega), hmem])
                  have hr4 : n ≤ s.size := by rw [← HSZ.out]; exact hr2
                  have hlo : lo.toNat < 256 := UInt8.toNat_lt _
                  have hhi : lo.toNat < 256 := UInt8.toNat_lt _
                  clear hmem hr2 
                  go_wp2_with fail
                  go_loopw [13] (fun a wr => ∃ c : Nat, a = .int .i64 c ∧ lo.toNat ≤ c ∧ c ≤ lo.toNat + 1 ∧ Blk wr (w.heap.size + 1) 105 (encK 4 0 nt (setU st lo.toNat c)) ∧ Blk wr w.heap.size 105 Z ∧ Below w.heap.size w wr) (fun a _ => lo.toNat + 1 - (intOf a).toNat)
                  case atStart => exact ⟨lo.toNat, rfl, Nat.le_refl _, by omega, by rw [setU_start]; exact B2.out, B1.out, HB.out⟩
                  case round =>
                    obtain ⟨c, rfl, hc1, hc2, b2, b1, hb⟩ := hrel
                    have hsl : (setU st lo.toNat c).length = 256 := by rw [setU_len, hst]
                    rcases Nat.lt_or_ge lo.toNat c with h8 | h8
                    · obtain rfl : c = lo.toNat + 1 := by omega
                      have D2 := Lib.hid b2
                      have D1 := Lib.hid b1
                      have DB := Lib.hid hb
                      clear b1 b2 hb
                      go_wp2_with fail
                      go_roundw
                      case rel => exact ⟨n, setR st lo.toNat lo.toNat, rfl, by omega, by omega, by rw [setR_len, hst], by rw [← HEQ.out, KS.out], ⟨q + 1, by go_num, by omega, by omega⟩, D2.out, D1.out, DB.out⟩
                      case measure => first | (simp [intOf]; done) | (simp [intOf]; omega)
                    · have cc := b2.cell (3 + c)
                      rw [encK_at (by omega)] at cc
                      have ff := b2.frozen (3 + c)
                      have b2' := b2.set (3 + c) (.bool true)
                      rw [encK_set, setU_step st _ _ hc1] at b2'
                      have D2 := Lib.hid b2'
                      have D1' := Lib.hid (Blk.other (a := ⟨w.heap.size + 1, 3 + c, none⟩) b1 (by simp) (.bool true))
                      have DB' := Lib.hid (Below.setCell (p := ⟨w.heap.size + 1, 3 + c, none⟩) hb (by simp) (.bool true))
                      have hc9 : (c : Int) < 256 := by omega
                      clear b1 b2 b2' hb hsl
                      go_wp2_with fail
                      go_roundw
                      case rel => exact ⟨c + 1, by go_num, by omega, by omega, D2.out, D1'.out, DB'.out⟩
                      case measure => first | (simp [intOf]; done) | (simp [intOf]; omega)
              · have g4 : ¬ (n : Int) + 1 < s.size := by omega
                clear hcd2
                have hmem := (show rangeF s.data.toList at' = some (lo, lo, n) from rangeF_one hm0 hcd)
                obtain ⟨hr1, hr2, hr3⟩ := rangeF_le hmem
                have KS := Lib.hid (show membersF s.data.toList s.data.toList.length at' st = membersF s.data.toList s.data.toList.length n (setR st lo.toNat lo.toNat) by rw [membersF_step HC.out (by omega), hmem])
                have hr4 : n ≤ s.size := by rw [← HSZ.out]; exact hr2
                have hlo : lo.toNat < 256 := UInt8.toNat_lt _
                have hhi : lo.toNat < 256 := UInt8.toNat_lt _
                clear hmem hr2 
                go_wp2_with fail
                go_loopw [13] (fun a wr => ∃ c : Nat, a = .int .i64 c ∧ lo.toNat ≤ c ∧ c ≤ lo.toNat + 1 ∧ Blk wr (w.heap.size + 1) 105 (encK 4 0 nt (setU st lo.toNat c)) ∧ Blk wr w.heap.size 105 Z ∧ Below w.heap.size w wr) (fun a _ => lo.toNat + 1 - (intOf a).toNat)
                case atStart => exact ⟨lo.toNat, rfl, Nat.le_refl _, by omega, by rw [setU_start]; exact B2.out, B1.out, HB.out⟩
                case round =>
                  obtain ⟨c, rfl, hc1, hc2, b2, b1, hb⟩ := hrel
                  have hsl : (setU st lo.toNat c).length = 256 := by rw [setU_len, hst]
                  rcases Nat.lt_or_ge lo.toNat c with h8 | h8
                  · obtain rfl : c = lo.toNat + 1 := by omega
                    have D2 := Lib.hid b2
                    have D1 := Lib.hid b1
                    have DB := Lib.hid hb
                    clear b1 b2 hb
                    go_wp2_with fail
                    go_roundw
                    case rel => exact ⟨n, setR st lo.toNat lo.toNat, rfl, by omega, by omega, by rw [setR_len, hst], by rw [← HEQ.out, KS.out], ⟨q + 1, by go_num, by omega, by omega⟩, D2.out, D1.out, DB.out⟩
                    case measure => first | (simp [intOf]; done) | (simp [intOf]; omega)
                  · have cc := b2.cell (3 + c)
                    rw [encK_at (by omega)] at cc
                    have ff := b2.frozen (3 + c)
                    have b2' := b2.set (3 + c) (.bool true)
                    rw [encK_set, setU_step st _ _ hc1] at b2'
                    have D2 := Lib.hid b2'
                    have D1' := Lib.hid (Blk.other (a := ⟨w.heap.size + 1, 3 + c, none⟩) b1 (by simp) (.bool true))
                    have DB' := Lib.hid (Below.setCell (p := ⟨w.heap.size + 1, 3 + c, none⟩) hb (by simp) (.bool true))
                    have hc9 : (c : Int) < 256 := by omega
                    clear b1 b2 b2' hb hsl
                    go_wp2_with fail
                    go_roundw
                    case rel => exact ⟨c + 1, by go_num, by omega, by omega, D2.out, D1'.out, DB'.out⟩
                    case measure => first | (simp [intOf]; done) | (simp [intOf]; omega)
      · have hfin := membersF_end (p := s.data.toList) (f := s.data.toList.length) (s := st) hc
        have KF := Lib.hid (classF_fin HNT.out (by rw [HN.out, ← HEQ.out, hfin]))
        have hsz := size_sr (k := 4) (c := 0) (nt := nt) hst
        clear hfin
        rcases Nat.lt_or_ge at' s.size with h5 | h5
        · have h6 : (s[at']'h5).toNat = 93 := by
            rcases Nat.decEq (s[at']'h5).toNat 93 with h | h
            · exact absurd ⟨by rw [HSZ.out]; exact h5, by rw [data_at s at' h5]; intro e; exact h (by rw [Option.some.inj e]; rfl)⟩ hc
            · exact h
          have e1 : (((s[at']'h5).toNat : Int) != 93) = false := by simp [h6]
          clear hc h6
          by_cases h7 : first < at'
          · have KG := Lib.hid (show classF s.data.toList i = some (⟨4, 0, nt, st⟩, at' + 1) by rw [KF.out, if_pos ⟨by rw [HSZ.out]; exact h5, h7⟩])
            have hq3 : (0 : Int) < q := by have := hq2.2 h7; omega
            go_wp2_with (first | (refine wpList_load_row rfl 105 (.tmp 7) rfl (w.heap.size + 1) rfl _ _ _ _ B2.out Try.underlying105 rfl hsz ?_) | (refine wpList_store_row rfl 105 (.tmp 4) (.tmp 97) rfl w.heap.size _ _ _ rfl rfl B1.out hsz (HZL.out.trans (encK_len hst).symm) (encK_one _ _ _ _) ?_))
            exact bodyPost_ret (results_cell_tmp2_row (p := 4) (u := 5) (v := 6) rfl _ _ w.heap.size _ _ _ _ rfl (Blk.setRow B1.out _) Try.underlying105 rfl hsz) rfl ⟨TellC.of ⟨nt, st, (at' : Int) + 1, true, rfl, hst, fun _ => ⟨at' + 1, by omega, KG.out⟩, (fun e => by cases e)⟩, below_setRow HB.out (Nat.le_refl _) _⟩
          · have KG := Lib.hid (show classF s.data.toList i = none by rw [KF.out, if_neg (fun h => h7 h.2)])
            have hq3 : ¬ (0 : Int) < q := by have := hq2.1; omega
            go_wp2_with (first | (refine wpList_load_row rfl 105 (.tmp 7) rfl (w.heap.size + 1) rfl _ _ _ _ B2.out Try.underlying105 rfl hsz ?_) | (refine wpList_store_row rfl 105 (.tmp 4) (.tmp 97) rfl w.heap.size _ _ _ rfl rfl B1.out hsz (HZL.out.trans (encK_len hst).symm) (encK_one _ _ _ _) ?_))
            exact bodyPost_ret (results_cell_tmp2_row (p := 4) (u := 5) (v := 6) rfl _ _ w.heap.size _ _ _ _ rfl (Blk.setRow B1.out _) Try.underlying105 rfl hsz) rfl ⟨TellC.of ⟨nt, st, (at' : Int) + 1, false, rfl, hst, (fun e => by cases e), fun _ => KG.out⟩, below_setRow HB.out (Nat.le_refl _) _⟩
        · have KG := Lib.hid (show classF s.data.toList i = none by rw [KF.out, if_neg (fun h => by have := h.1; rw [HSZ.out] at this; omega)])
          clear hc
          go_wp2_with (first | (refine wpList_load_row rfl 105 (.tmp 7) rfl (w.heap.size + 1) rfl _ _ _ _ B2.out Try.underlying105 rfl hsz ?_) | (refine wpList_store_row rfl 105 (.tmp 4) (.tmp 97) rfl w.heap.size _ _ _ rfl rfl B1.out hsz (HZL.out.trans (encK_len hst).symm) (encK_one _ _ _ _) ?_))
          exact bodyPost_ret (results_cell_tmp2_row (p := 4) (u := 5) (v := 6) rfl _ _ w.heap.size _ _ _ _ rfl (Blk.setRow B1.out _) Try.underlying105 rfl hsz) rfl ⟨TellC.of ⟨nt, st, _, false, rfl, hst, (fun e => by cases e), fun _ => KG.out⟩, below_setRow HB.out (Nat.le_refl _) _⟩
  | false =>
    simp only [cond] at hfirst
    have HFI := Lib.hid hfirst
    clear hfirst
    rcases Nat.lt_or_ge i s.size with hlt | hlt
    · have hq : (((s[i]'hlt).toNat : Int) == 33) = false := by
        have h1 := of_decide_eq_false hnt
        rw [data_at s i hlt] at h1
        have : (s[i]'hlt).toNat ≠ 33 := fun e => h1 (congrArg some (UInt8.toNat_inj.1 (by rw [e]; rfl)))
        simp; omega
      clear hnt
      go_wp2_with (first | (refine wpList_val rfl (run_build_op rfl (by simp; rfl) (hbd _)) ?_) | (refine wpList_store_row rfl 105 (.tmp 7) (.tmp 14) rfl (w.heap.size + 1) _ _ _ rfl rfl N2.out hz4 (HZL.out.trans hE.symm) (encK_one _ _ _ _) ?_))
      clear hq c20 f20 hbd hzv hE hz4 N2
      obtain ⟨nt, hnt1⟩ : ∃ nt, nt = false := ⟨_, rfl⟩
      have B2 : Hid (Blk _ (w.heap.size + 1) 105 (encK 4 0 nt N0)) := Lib.hid (by rw [hnt1]; exact HB2.out)
      have B1 := HB1
      have HB := HB0
      clear HB2t HB1t HBt HB2 HB1 HB0
      have hat : (i : Int) = (first : Int) := by have := HFI.out; omega
      rw [← hnt1] at HNT
      clear hnt1
      go_loopw [1, 8] (fun a b wr => ∃ (at' : Nat) (st : List Bool), a = .int .i64 at' ∧ first ≤ at' ∧ at' ≤ s.size ∧ st.length = 256 ∧ membersF s.data.toList s.data.toList.length at' st = membersF s.data.toList s.data.toList.length first N0 ∧ (∃ q : Nat, b = .int .i64 q ∧ q ≤ at' ∧ (0 < q ↔ first < at')) ∧ Blk wr (w.heap.size + 1) 105 (encK 4 0 nt st) ∧ Blk wr w.heap.size 105 Z ∧ Below w.heap.size w wr) (fun a _ _ => s.size - (intOf a).toNat)
      case atStart => exact ⟨first, N0, by rw [hat], Nat.le_refl _, hf2, hst0, rfl, ⟨0, rfl, Nat.zero_le _, by omega⟩, B2.out, B1.out, HB.out⟩
      case round =>
        clear B2 B1 HB hat
        obtain ⟨at', st, rfl, ha1, ha2, hst, heq, ⟨q, rfl, hq1, hq2⟩, b2, b1, hb⟩ := hrel
        have B2 := Lib.hid b2
        have B1 := Lib.hid b1
        have HB := Lib.hid hb
        have HEQ := Lib.hid heq
        clear b2 b1 hb heq
        by_cases hc : at' < s.data.toList.length ∧ s.data.toList[at']? ≠ some 93
        · have HC := Lib.hid hc
          have hlt : at' < s.size := by have := hc.1; rw [HSZ.out] at this; exact this
          have hcc1 : (at' : Int) < s.size := by omega
          have hcc2 : (((s[at']'hlt).toNat : Int) != 93) = true := by
            have h2 := hc.2
            rw [data_at s at' hlt] at h2
            have : (s[at']'hlt).toNat ≠ 93 := fun e => h2 (congrArg some (UInt8.toNat_inj.1 (by rw [e]; rfl)))
            simp; omega
          clear hc
          go_wp2_with fail
          refine (refMember_any s at' _ (by omega) (by omega)).mono ?_
          rintro e w' ⟨rfl, rfl⟩
          cases hm0 : memberF s.data.toList at' with
          | none =>
              simp only [tellM]
              have KN := Lib.hid (classF_none HNT.out (show membersF s.data.toList s.data.toList.length first noSet = none by rw [HN.out, ← HEQ.out, membersF_step HC.out (by omega), rangeF_none hm0]))
              have hsz := size_sr (k := 4) (c := 0) (nt := nt) hst
              skip
              go_wp2_with (first | (refine wpList_load_row rfl 105 (.tmp 7) rfl (w.heap.size + 1) rfl _ _ _ _ B2.out Try.underlying105 rfl hsz ?_) | (refine wpList_store_row rfl 105 (.tmp 4) (.tmp 47) rfl w.heap.size _ _ _ rfl rfl B1.out hsz (HZL.out.trans (encK_len hst).symm) (encK_one _ _ _ _) ?_))
              exact bodyPost_ret (results_cell_tmp2_row (p := 4) (u := 5) (v := 6) rfl _ _ w.heap.size _ _ _ _ rfl (Blk.setRow B1.out _) Try.underlying105 rfl hsz) rfl ⟨TellC.of ⟨nt, st, _, false, rfl, hst, (fun e => by cases e), fun _ => KN.out⟩, below_setRow HB.out (Nat.le_refl _) _⟩
          | some x =>
              obtain ⟨lo, n⟩ := x
              simp only [tellM]
              obtain ⟨hn1, hn2⟩ := memberF_le hm0
              rw [HSZ.out] at hn2
              by_cases hcd : n + 1 < s.data.toList.length ∧ s.data.toList[n]? = some 45 ∧ s.data.toList[n + 1]? ≠ some 93
              · have hlt2 : n + 1 < s.size := by have := hcd.1; rw [HSZ.out] at this; exact this
                have e1 : (((s[n]'(by omega)).toNat : Int) == 45) = true := by
                  have h2 := hcd.2.1
                  rw [data_at s n (by omega)] at h2
                  rw [Option.some.inj h2]; rfl
                have e2 : (((s[n + 1]'hlt2).toNat : Int) != 93) = true := by
                  have h2 := hcd.2.2
                  rw [data_at s (n + 1) hlt2] at h2
                  have : (s[n + 1]'hlt2).toNat ≠ 93 := fun e => h2 (congrArg some (UInt8.toNat_inj.1 (by rw [e]; rfl)))
                  simp; omega
                have e3 : ((n : Int) + 1).toNat = n + 1 := by omega
                have hM1 : ∀ w, Calls Try.prog 91 #[.string s, .int .i64 ((n : Int) + 1)] w fun e w' => e = .returned (tellM (memberF s.data.toList (n + 1))) ∧ w' = w := fun w => by
                  have := refMember_any s (n + 1) w (by omega) (by omega)
                  rwa [show ((n + 1 : Nat) : Int) = (n : Int) + 1 by omega] at this
                have HM1 := Lib.hid hM1
                clear hM1
                go_wp2_with fail
                refine (HM1.out _).mono ?_
                rintro e w' ⟨rfl, rfl⟩
                cases hm1 : memberF s.data.toList (n + 1) with
                | none =>
                  simp only [tellM]
                  have KN := Lib.hid (classF_none HNT.out (show membersF s.data.toList s.data.toList.length first noSet = none by rw [HN.out, ← HEQ.out, membersF_step HC.out (by omega), rangeF_two hm0 hcd, hm1]))
                  have hsz := size_sr (k := 4) (c := 0) (nt := nt) hst
                  skip
                  go_wp2_with (first | (refine wpList_load_row rfl 105 (.tmp 7) rfl (w.heap.size + 1) rfl _ _ _ _ B2.out Try.underlying105 rfl hsz ?_) | (refine wpList_store_row rfl 105 (.tmp 4) (.tmp 82) rfl w.heap.size _ _ _ rfl rfl B1.out hsz (HZL.out.trans (encK_len hst).symm) (encK_one _ _ _ _) ?_))
                  exact bodyPost_ret (results_cell_tmp2_row (p := 4) (u := 5) (v := 6) rfl _ _ w.heap.size _ _ _ _ rfl (Blk.setRow B1.out _) Try.underlying105 rfl hsz) rfl ⟨TellC.of ⟨nt, st, _, false, rfl, hst, (fun e => by cases e), fun _ => KN.out⟩, below_setRow HB.out (Nat.le_refl _) _⟩
                | some y =>
                  obtain ⟨hi', n2⟩ := y
                  simp only [tellM]
                  by_cases hlt3 : hi'.toNat < lo.toNat
                  · skip
                    have KN := Lib.hid (classF_none HNT.out (show membersF s.data.toList s.data.toList.length first noSet = none by rw [HN.out, ← HEQ.out, membersF_step HC.out (by omega), rangeF_two hm0 hcd, hm1]; simp only; rw [if_pos hlt3]))
                    have hsz := size_sr (k := 4) (c := 0) (nt := nt) hst
                    skip
                    go_wp2_with (first | (refine wpList_load_row rfl 105 (.tmp 7) rfl (w.heap.size + 1) rfl _ _ _ _ B2.out Try.underlying105 rfl hsz ?_) | (refine wpList_store_row rfl 105 (.tmp 4) (.tmp 82) rfl w.heap.size _ _ _ rfl rfl B1.out hsz (HZL.out.trans (encK_len hst).symm) (encK_one _ _ _ _) ?_))
                    exact bodyPost_ret (results_cell_tmp2_row (p := 4) (u := 5) (v := 6) rfl _ _ w.heap.size _ _ _ _ rfl (Blk.setRow B1.out _) Try.underlying105 rfl hsz) rfl ⟨TellC.of ⟨nt, st, _, false, rfl, hst, (fun e => by cases e), fun _ => KN.out⟩, below_setRow HB.out (Nat.le_refl _) _⟩
                  · skip
                    have hmem := (show rangeF s.data.toList at' = some (lo, hi', n2) by rw [rangeF_two hm0 hcd, hm1]; simp only; rw [if_neg hlt3])
                    obtain ⟨hr1, hr2, hr3⟩ := rangeF_le hmem
                    have KS := Lib.hid (show membersF s.data.toList s.data.toList.length at' st = membersF s.data.toList s.data.toList.length n2 (setR st lo.toNat hi'.toNat) by rw [membersF_step HC.out (by omega), hmem])
                    have hr4 : n2 ≤ s.size := by rw [← HSZ.out]; exact hr2
                    have hlo : lo.toNat < 256 := UInt8.toNat_lt _
                    have hhi : hi'.toNat < 256 := UInt8.toNat_lt _
                    clear hmem hr2 
                    go_wp2_with fail
                    go_loopw [13] (fun a wr => ∃ c : Nat, a = .int .i64 c ∧ lo.toNat ≤ c ∧ c ≤ hi'.toNat + 1 ∧ Blk wr (w.heap.size + 1) 105 (encK 4 0 nt (setU st lo.toNat c)) ∧ Blk wr w.heap.size 105 Z ∧ Below w.heap.size w wr) (fun a _ => hi'.toNat + 1 - (intOf a).toNat)
                    case atStart => exact ⟨lo.toNat, rfl, Nat.le_refl _, by omega, by rw [setU_start]; exact B2.out, B1.out, HB.out⟩
                    case round =>
                      obtain ⟨c, rfl, hc1, hc2, b2, b1, hb⟩ := hrel
                      have hsl : (setU st lo.toNat c).length = 256 := by rw [setU_len, hst]
                      rcases Nat.lt_or_ge hi'.toNat c with h8 | h8
                      · obtain rfl : c = hi'.toNat + 1 := by omega
                        have D2 := Lib.hid b2
                        have D1 := Lib.hid b1
                        have DB := Lib.hid hb
                        clear b1 b2 hb
                        go_wp2_with fail
                        go_roundw
                        case rel => exact ⟨n2, setR st lo.toNat hi'.toNat, rfl, by omega, by omega, by rw [setR_len, hst], by rw [← HEQ.out, KS.out], ⟨q + 1, by go_num, by omega, by omega⟩, D2.out, D1.out, DB.out⟩
                        case measure => first | (simp [intOf]; done) | (simp [intOf]; omega)
                      · have cc := b2.cell (3 + c)
                        rw [encK_at (by omega)] at cc
                        have ff := b2.frozen (3 + c)
                        have b2' := b2.set (3 + c) (.bool true)
                        rw [encK_set, setU_step st _ _ hc1] at b2'
                        have D2 := Lib.hid b2'
                        have D1' := Lib.hid (Blk.other (a := ⟨w.heap.size + 1, 3 + c, none⟩) b1 (by simp) (.bool true))
                        have DB' := Lib.hid (Below.setCell (p := ⟨w.heap.size + 1, 3 + c, none⟩) hb (by simp) (.bool true))
                        have hc9 : (c : Int) < 256 := by omega
                        clear b1 b2 b2' hb hsl
                        go_wp2_with fail
                        go_roundw
                        case rel => exact ⟨c + 1, by go_num, by omega, by omega, D2.out, D1'.out, DB'.out⟩
                        case measure => first | (simp [intOf]; done) | (simp [intOf]; omega)
              · have hcd2 := hcd
                rcases Nat.lt_or_ge (n + 1) s.size with g1 | g1
                · by_cases g2 : (s[n]'(by omega)).toNat = 45
                  · by_cases g3 : (s[n + 1]'g1).toNat = 93
                    · have e1 : (((s[n]'(by omega)).toNat : Int) == 45) = true := by simp [g2]
                      have e2 : (((s[n + 1]'g1).toNat : Int) != 93) = false := by simp [g3]
                      have e3 : ((n : Int) + 1).toNat = n + 1 := by omega
                      clear g2 g3 hcd2
                      have hmem := (show rangeF s.data.toList at' = some (lo, lo, n) from rangeF_one hm0 hcd)
                      obtain ⟨hr1, hr2, hr3⟩ := rangeF_le hmem
                      have KS := Lib.hid (show membersF s.data.toList s.data.toList.length at' st = membersF s.data.toList s.data.toList.length n (setR st lo.toNat lo.toNat) by rw [membersF_step HC.out (by omega), hmem])
                      have hr4 : n ≤ s.size := by rw [← HSZ.out]; exact hr2
                      have hlo : lo.toNat < 256 := UInt8.toNat_lt _
                      have hhi : lo.toNat < 256 := UInt8.toNat_lt _
                      clear hmem hr2 
                      go_wp2_with fail
                      go_loopw [13] (fun a wr => ∃ c : Nat, a = .int .i64 c ∧ lo.toNat ≤ c ∧ c ≤ lo.toNat + 1 ∧ Blk wr (w.heap.size + 1) 105 (encK 4 0 nt (setU st lo.toNat c)) ∧ Blk wr w.heap.size 105 Z ∧ Below w.heap.size w wr) (fun a _ => lo.toNat + 1 - (intOf a).toNat)
                      case atStart => exact ⟨lo.toNat, rfl, Nat.le_refl _, by omega, by rw [setU_start]; exact B2.out, B1.out, HB.out⟩
                      case round =>
                        obtain ⟨c, rfl, hc1, hc2, b2, b1, hb⟩ := hrel
                        have hsl : (setU st lo.toNat c).length = 256 := by rw [setU_len, hst]
                        rcases Nat.lt_or_ge lo.toNat c with h8 | h8
                        · obtain rfl : c = lo.toNat + 1 := by omega
                          have D2 := Lib.hid b2
                          have D1 := Lib.hid b1
                          have DB := Lib.hid hb
                          clear b1 b2 hb
                          go_wp2_with fail
                          go_roundw
                          case rel => exact ⟨n, setR st lo.toNat lo.toNat, rfl, by omega, by omega, by rw [setR_len, hst], by rw [← HEQ.out, KS.out], ⟨q + 1, by go_num, by omega, by omega⟩, D2.out, D1.out, DB.out⟩
                          case measure => first | (simp [intOf]; done) | (simp [intOf]; omega)
                        · have cc := b2.cell (3 + c)
                          rw [encK_at (by omega)] at cc
                          have ff := b2.frozen (3 + c)
                          have b2' := b2.set (3 + c) (.bool true)
                          rw [encK_set, setU_step st _ _ hc1] at b2'
                          have D2 := Lib.hid b2'
                          have D1' := Lib.hid (Blk.other (a := ⟨w.heap.size + 1, 3 + c, none⟩) b1 (by simp) (.bool true))
                          have DB' := Lib.hid (Below.setCell (p := ⟨w.heap.size + 1, 3 + c, none⟩) hb (by simp) (.bool true))
                          have hc9 : (c : Int) < 256 := by omega
                          clear b1 b2 b2' hb hsl
                          go_wp2_with fail
                          go_roundw
                          case rel => exact ⟨c + 1, by go_num, by omega, by omega, D2.out, D1'.out, DB'.out⟩
                          case measure => first | (simp [intOf]; done) | (simp [intOf]; omega)
                    · exact absurd ⟨by rw [HSZ.out]; exact g1, by rw [data_at s n (by omega)]; exact congrArg some (UInt8.toNat_inj.1 (by rw [g2]; rfl)), by rw [data_at s (n + 1) g1]; intro e; exact g3 (by rw [Option.some.inj e]; rfl)⟩ hcd2
                  · have e1 : (((s[n]'(by omega)).toNat : Int) == 45) = false := by simp; omega
                    clear g2 hcd2
                    have hmem := (show rangeF s.data.toList at' = some (lo, lo, n) from rangeF_one hm0 hcd)
                    obtain ⟨hr1, hr2, hr3⟩ := rangeF_le hmem
                    have KS := Lib.hid (show membersF s.data.toList s.data.toList.length at' st = membersF s.data.toList s.data.toList.length n (setR st lo.toNat lo.toNat) by rw [membersF_step HC.out (by omega), hmem])
                    have hr4 : n ≤ s.size := by rw [← HSZ.out]; exact hr2
                    have hlo : lo.toNat < 256 := UInt8.toNat_lt _
                    have hhi : lo.toNat < 256 := UInt8.toNat_lt _
                    clear hmem hr2 
                    go_wp2_with fail
                    go_loopw [13] (fun a wr => ∃ c : Nat, a = .int .i64 c ∧ lo.toNat ≤ c ∧ c ≤ lo.toNat + 1 ∧ Blk wr (w.heap.size + 1) 105 (encK 4 0 nt (setU st lo.toNat c)) ∧ Blk wr w.heap.size 105 Z ∧ Below w.heap.size w wr) (fun a _ => lo.toNat + 1 - (intOf a).toNat)
                    case atStart => exact ⟨lo.toNat, rfl, Nat.le_refl _, by omega, by rw [setU_start]; exact B2.out, B1.out, HB.out⟩
                    case round =>
                      obtain ⟨c, rfl, hc1, hc2, b2, b1, hb⟩ := hrel
                      have hsl : (setU st lo.toNat c).length = 256 := by rw [setU_len, hst]
                      rcases Nat.lt_or_ge lo.toNat c with h8 | h8
                      · obtain rfl : c = lo.toNat + 1 := by omega
                        have D2 := Lib.hid b2
                        have D1 := Lib.hid b1
                        have DB := Lib.hid hb
                        clear b1 b2 hb
                        go_wp2_with fail
                        go_roundw
                        case rel => exact ⟨n, setR st lo.toNat lo.toNat, rfl, by omega, by omega, by rw [setR_len, hst], by rw [← HEQ.out, KS.out], ⟨q + 1, by go_num, by omega, by omega⟩, D2.out, D1.out, DB.out⟩
                        case measure => first | (simp [intOf]; done) | (simp [intOf]; omega)
                      · have cc := b2.cell (3 + c)
                        rw [encK_at (by omega)] at cc
                        have ff := b2.frozen (3 + c)
                        have b2' := b2.set (3 + c) (.bool true)
                        rw [encK_set, setU_step st _ _ hc1] at b2'
                        have D2 := Lib.hid b2'
                        have D1' := Lib.hid (Blk.other (a := ⟨w.heap.size + 1, 3 + c, none⟩) b1 (by simp) (.bool true))
                        have DB' := Lib.hid (Below.setCell (p := ⟨w.heap.size + 1, 3 + c, none⟩) hb (by simp) (.bool true))
                        have hc9 : (c : Int) < 256 := by omega
                        clear b1 b2 b2' hb hsl
                        go_wp2_with fail
                        go_roundw
                        case rel => exact ⟨c + 1, by go_num, by omega, by omega, D2.out, D1'.out, DB'.out⟩
                        case measure => first | (simp [intOf]; done) | (simp [intOf]; omega)
                · have g4 : ¬ (n : Int) + 1 < s.size := by omega
                  clear hcd2
                  have hmem := (show rangeF s.data.toList at' = some (lo, lo, n) from rangeF_one hm0 hcd)
                  obtain ⟨hr1, hr2, hr3⟩ := rangeF_le hmem
                  have KS := Lib.hid (show membersF s.data.toList s.data.toList.length at' st = membersF s.data.toList s.data.toList.length n (setR st lo.toNat lo.toNat) by rw [membersF_step HC.out (by omega), hmem])
                  have hr4 : n ≤ s.size := by rw [← HSZ.out]; exact hr2
                  have hlo : lo.toNat < 256 := UInt8.toNat_lt _
                  have hhi : lo.toNat < 256 := UInt8.toNat_lt _
                  clear hmem hr2 
                  go_wp2_with fail
                  go_loopw [13] (fun a wr => ∃ c : Nat, a = .int .i64 c ∧ lo.toNat ≤ c ∧ c ≤ lo.toNat + 1 ∧ Blk wr (w.heap.size + 1) 105 (encK 4 0 nt (setU st lo.toNat c)) ∧ Blk wr w.heap.size 105 Z ∧ Below w.heap.size w wr) (fun a _ => lo.toNat + 1 - (intOf a).toNat)
                  case atStart => exact ⟨lo.toNat, rfl, Nat.le_refl _, by omega, by rw [setU_start]; exact B2.out, B1.out, HB.out⟩
                  case round =>
                    obtain ⟨c, rfl, hc1, hc2, b2, b1, hb⟩ := hrel
                    have hsl : (setU st lo.toNat c).length = 256 := by rw [setU_len, hst]
                    rcases Nat.lt_or_ge lo.toNat c with h8 | h8
                    · obtain rfl : c = lo.toNat + 1 := by omega
                      have D2 := Lib.hid b2
                      have D1 := Lib.hid b1
                      have DB := Lib.hid hb
                      clear b1 b2 hb
                      go_wp2_with fail
                      go_roundw
                      case rel => exact ⟨n, setR st lo.toNat lo.toNat, rfl, by omega, by omega, by rw [setR_len, hst], by rw [← HEQ.out, KS.out], ⟨q + 1, by go_num, by omega, by omega⟩, D2.out, D1.out, DB.out⟩
                      case measure => first | (simp [intOf]; done) | (simp [intOf]; omega)
                    · have cc := b2.cell (3 + c)
                      rw [encK_at (by omega)] at cc
                      have ff := b2.frozen (3 + c)
                      have b2' := b2.set (3 + c) (.bool true)
                      rw [encK_set, setU_step st _ _ hc1] at b2'
                      have D2 := Lib.hid b2'
                      have D1' := Lib.hid (Blk.other (a := ⟨w.heap.size + 1, 3 + c, none⟩) b1 (by simp) (.bool true))
                      have DB' := Lib.hid (Below.setCell (p := ⟨w.heap.size + 1, 3 + c, none⟩) hb (by simp) (.bool true))
                      have hc9 : (c : Int) < 256 := by omega
                      clear b1 b2 b2' hb hsl
                      go_wp2_with fail
                      go_roundw
                      case rel => exact ⟨c + 1, by go_num, by omega, by omega, D2.out, D1'.out, DB'.out⟩
                      case measure => first | (simp [intOf]; done) | (simp [intOf]; omega)
        · have hfin := membersF_end (p := s.data.toList) (f := s.data.toList.length) (s := st) hc
          have KF := Lib.hid (classF_fin HNT.out (by rw [HN.out, ← HEQ.out, hfin]))
          have hsz := size_sr (k := 4) (c := 0) (nt := nt) hst
          clear hfin
          rcases Nat.lt_or_ge at' s.size with h5 | h5
          · have h6 : (s[at']'h5).toNat = 93 := by
              rcases Nat.decEq (s[at']'h5).toNat 93 with h | h
              · exact absurd ⟨by rw [HSZ.out]; exact h5, by rw [data_at s at' h5]; intro e; exact h (by rw [Option.some.inj e]; rfl)⟩ hc
              · exact h
            have e1 : (((s[at']'h5).toNat : Int) != 93) = false := by simp [h6]
            clear hc h6
            by_cases h7 : first < at'
            · have KG := Lib.hid (show classF s.data.toList i = some (⟨4, 0, nt, st⟩, at' + 1) by rw [KF.out, if_pos ⟨by rw [HSZ.out]; exact h5, h7⟩])
              have hq3 : (0 : Int) < q := by have := hq2.2 h7; omega
              go_wp2_with (first | (refine wpList_load_row rfl 105 (.tmp 7) rfl (w.heap.size + 1) rfl _ _ _ _ B2.out Try.underlying105 rfl hsz ?_) | (refine wpList_store_row rfl 105 (.tmp 4) (.tmp 97) rfl w.heap.size _ _ _ rfl rfl B1.out hsz (HZL.out.trans (encK_len hst).symm) (encK_one _ _ _ _) ?_))
              exact bodyPost_ret (results_cell_tmp2_row (p := 4) (u := 5) (v := 6) rfl _ _ w.heap.size _ _ _ _ rfl (Blk.setRow B1.out _) Try.underlying105 rfl hsz) rfl ⟨TellC.of ⟨nt, st, (at' : Int) + 1, true, rfl, hst, fun _ => ⟨at' + 1, by omega, KG.out⟩, (fun e => by cases e)⟩, below_setRow HB.out (Nat.le_refl _) _⟩
            · have KG := Lib.hid (show classF s.data.toList i = none by rw [KF.out, if_neg (fun h => h7 h.2)])
              have hq3 : ¬ (0 : Int) < q := by have := hq2.1; omega
              go_wp2_with (first | (refine wpList_load_row rfl 105 (.tmp 7) rfl (w.heap.size + 1) rfl _ _ _ _ B2.out Try.underlying105 rfl hsz ?_) | (refine wpList_store_row rfl 105 (.tmp 4) (.tmp 97) rfl w.heap.size _ _ _ rfl rfl B1.out hsz (HZL.out.trans (encK_len hst).symm) (encK_one _ _ _ _) ?_))
              exact bodyPost_ret (results_cell_tmp2_row (p := 4) (u := 5) (v := 6) rfl _ _ w.heap.size _ _ _ _ rfl (Blk.setRow B1.out _) Try.underlying105 rfl hsz) rfl ⟨TellC.of ⟨nt, st, (at' : Int) + 1, false, rfl, hst, (fun e => by cases e), fun _ => KG.out⟩, below_setRow HB.out (Nat.le_refl _) _⟩
          · have KG := Lib.hid (show classF s.data.toList i = none by rw [KF.out, if_neg (fun h => by have := h.1; rw [HSZ.out] at this; omega)])
            clear hc
            go_wp2_with (first | (refine wpList_load_row rfl 105 (.tmp 7) rfl (w.heap.size + 1) rfl _ _ _ _ B2.out Try.underlying105 rfl hsz ?_) | (refine wpList_store_row rfl 105 (.tmp 4) (.tmp 97) rfl w.heap.size _ _ _ rfl rfl B1.out hsz (HZL.out.trans (encK_len hst).symm) (encK_one _ _ _ _) ?_))
            exact bodyPost_ret (results_cell_tmp2_row (p := 4) (u := 5) (v := 6) rfl _ _ w.heap.size _ _ _ _ rfl (Blk.setRow B1.out _) Try.underlying105 rfl hsz) rfl ⟨TellC.of ⟨nt, st, _, false, rfl, hst, (fun e => by cases e), fun _ => KG.out⟩, below_setRow HB.out (Nat.le_refl _) _⟩
    · clear hnt
      have HLT := Lib.hid hlt
      go_wp2_with (first | (refine wpList_val rfl (run_build_op rfl (by simp; rfl) (hbd _)) ?_) | (refine wpList_store_row rfl 105 (.tmp 7) (.tmp 14) rfl (w.heap.size + 1) _ _ _ rfl rfl N2.out hz4 (HZL.out.trans hE.symm) (encK_one _ _ _ _) ?_))
      clear c20 f20 hbd hzv hE hz4 N2
      obtain ⟨nt, hnt1⟩ : ∃ nt, nt = false := ⟨_, rfl⟩
      have B2 : Hid (Blk _ (w.heap.size + 1) 105 (encK 4 0 nt N0)) := Lib.hid (by rw [hnt1]; exact HB2.out)
      have B1 := HB1
      have HB := HB0
      clear HB2t HB1t HBt HB2 HB1 HB0
      have hat : (i : Int) = (first : Int) := by have := HFI.out; omega
      rw [← hnt1] at HNT
      clear hnt1 hlt
      go_loopw [1, 8] (fun a b wr => ∃ (at' : Nat) (st : List Bool), a = .int .i64 at' ∧ first ≤ at' ∧ at' ≤ s.size ∧ st.length = 256 ∧ membersF s.data.toList s.data.toList.length at' st = membersF s.data.toList s.data.toList.length first N0 ∧ (∃ q : Nat, b = .int .i64 q ∧ q ≤ at' ∧ (0 < q ↔ first < at')) ∧ Blk wr (w.heap.size + 1) 105 (encK 4 0 nt st) ∧ Blk wr w.heap.size 105 Z ∧ Below w.heap.size w wr) (fun a _ _ => s.size - (intOf a).toNat)
      case atStart => exact ⟨first, N0, by rw [hat], Nat.le_refl _, hf2, hst0, rfl, ⟨0, rfl, Nat.zero_le _, by omega⟩, B2.out, B1.out, HB.out⟩
      case round =>
        clear B2 B1 HB hat
        obtain ⟨at', st, rfl, ha1, ha2, hst, heq, ⟨q, rfl, hq1, hq2⟩, b2, b1, hb⟩ := hrel
        have B2 := Lib.hid b2
        have B1 := Lib.hid b1
        have HB := Lib.hid hb
        have HEQ := Lib.hid heq
        clear b2 b1 hb heq
        by_cases hc : at' < s.data.toList.length ∧ s.data.toList[at']? ≠ some 93
        · exact absurd hc.1 (by have h1 := HLT.out; rw [HSZ.out]; omega)
        · have hfin := membersF_end (p := s.data.toList) (f := s.data.toList.length) (s := st) hc
          have KF := Lib.hid (classF_fin HNT.out (by rw [HN.out, ← HEQ.out, hfin]))
          have hsz := size_sr (k := 4) (c := 0) (nt := nt) hst
          clear hfin
          rcases Nat.lt_or_ge at' s.size with h5 | h5
          · have h6 : (s[at']'h5).toNat = 93 := by
              rcases Nat.decEq (s[at']'h5).toNat 93 with h | h
              · exact absurd ⟨by rw [HSZ.out]; exact h5, by rw [data_at s at' h5]; intro e; exact h (by rw [Option.some.inj e]; rfl)⟩ hc
              · exact h
            have e1 : (((s[at']'h5).toNat : Int) != 93) = false := by simp [h6]
            clear hc h6
            by_cases h7 : first < at'
            · have KG := Lib.hid (show classF s.data.toList i = some (⟨4, 0, nt, st⟩, at' + 1) by rw [KF.out, if_pos ⟨by rw [HSZ.out]; exact h5, h7⟩])
              have hq3 : (0 : Int) < q := by have := hq2.2 h7; omega
              go_wp2_with (first | (refine wpList_load_row rfl 105 (.tmp 7) rfl (w.heap.size + 1) rfl _ _ _ _ B2.out Try.underlying105 rfl hsz ?_) | (refine wpList_store_row rfl 105 (.tmp 4) (.tmp 97) rfl w.heap.size _ _ _ rfl rfl B1.out hsz (HZL.out.trans (encK_len hst).symm) (encK_one _ _ _ _) ?_))
              exact bodyPost_ret (results_cell_tmp2_row (p := 4) (u := 5) (v := 6) rfl _ _ w.heap.size _ _ _ _ rfl (Blk.setRow B1.out _) Try.underlying105 rfl hsz) rfl ⟨TellC.of ⟨nt, st, (at' : Int) + 1, true, rfl, hst, fun _ => ⟨at' + 1, by omega, KG.out⟩, (fun e => by cases e)⟩, below_setRow HB.out (Nat.le_refl _) _⟩
            · have KG := Lib.hid (show classF s.data.toList i = none by rw [KF.out, if_neg (fun h => h7 h.2)])
              have hq3 : ¬ (0 : Int) < q := by have := hq2.1; omega
              go_wp2_with (first | (refine wpList_load_row rfl 105 (.tmp 7) rfl (w.heap.size + 1) rfl _ _ _ _ B2.out Try.underlying105 rfl hsz ?_) | (refine wpList_store_row rfl 105 (.tmp 4) (.tmp 97) rfl w.heap.size _ _ _ rfl rfl B1.out hsz (HZL.out.trans (encK_len hst).symm) (encK_one _ _ _ _) ?_))
              exact bodyPost_ret (results_cell_tmp2_row (p := 4) (u := 5) (v := 6) rfl _ _ w.heap.size _ _ _ _ rfl (Blk.setRow B1.out _) Try.underlying105 rfl hsz) rfl ⟨TellC.of ⟨nt, st, (at' : Int) + 1, false, rfl, hst, (fun e => by cases e), fun _ => KG.out⟩, below_setRow HB.out (Nat.le_refl _) _⟩
          · have KG := Lib.hid (show classF s.data.toList i = none by rw [KF.out, if_neg (fun h => by have := h.1; rw [HSZ.out] at this; omega)])
            clear hc
            go_wp2_with (first | (refine wpList_load_row rfl 105 (.tmp 7) rfl (w.heap.size + 1) rfl _ _ _ _ B2.out Try.underlying105 rfl hsz ?_) | (refine wpList_store_row rfl 105 (.tmp 4) (.tmp 97) rfl w.heap.size _ _ _ rfl rfl B1.out hsz (HZL.out.trans (encK_len hst).symm) (encK_one _ _ _ _) ?_))
            exact bodyPost_ret (results_cell_tmp2_row (p := 4) (u := 5) (v := 6) rfl _ _ w.heap.size _ _ _ _ rfl (Blk.setRow B1.out _) Try.underlying105 rfl hsz) rfl ⟨TellC.of ⟨nt, st, _, false, rfl, hst, (fun e => by cases e), fun _ => KG.out⟩, below_setRow HB.out (Nat.le_refl _) _⟩
end Go.Proofs.Ytcagonpnjionhaa
