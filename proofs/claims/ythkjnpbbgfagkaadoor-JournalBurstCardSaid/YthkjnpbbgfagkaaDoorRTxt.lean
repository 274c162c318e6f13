import Derived.Test.YthkjnpbbgfagkaaDoorRNum
set_option linter.unusedVariables false
set_option linter.unusedSimpArgs false
namespace Go.Proofs.YthkjnpbbgfagkaaDoor
open Go.RowKit
attribute [local go_sem] max2_I min2_I max_two_I min_two_I

theorem bytesWorld_below (w : World) (e : TypeId) (s : ByteArray) : Below w.heap.size w (Lib.bytesWorld w e s) :=
  ⟨by unfold Lib.bytesWorld World.freeze; split <;> rfl, by unfold Lib.bytesWorld World.freeze; split <;> rfl, by unfold Lib.bytesWorld World.freeze; split <;> rfl,
    by rw [Lib.bytesWorld_size]; omega, fun k hk => Lib.bytesWorld_at_old w e s k hk⟩
theorem bytesWorld_sl (w : World) (e : TypeId) (s : ByteArray) (hs : s.size ≤ 9223372036854775807) : Sl 1 (Lib.bytesWorld w e s) (some ⟨w.heap.size, 0, none⟩) s.size (bys s.data.toList) := by
  refine ⟨by simp [bys], hs, .inr ⟨_, 0, rfl, fun j v hj => ?_⟩⟩
  have hj2 : j < s.size := by
    have : j < (bys s.data.toList).length := by
      rcases Nat.lt_or_ge j (bys s.data.toList).length with h | h
      · exact h
      · rw [List.getElem?_eq_none h] at hj; cases hj
    simpa [bys] using this
  rw [Nat.zero_add, Lib.bytesWorld_cell w e s j hj2]
  have hl : j < s.data.toList.length := by simpa using hj2
  simp only [bys, List.getElem?_map, List.getElem?_eq_getElem hl, Option.map_some] at hj
  rw [← hj]
  have hl2 : j < s.data.size := by simpa using hl
  simp [bv, Array.getElem?_eq_getElem hl2]

set_option maxRecDepth 100000 in
set_option maxHeartbeats 400000 in
theorem RPutText_any (A : Option Addr) (n c : Nat) (bs : List UInt8) (s : ByteArray) (w : World) (hs : Sl 1 w A n (bys bs)) (hn : n ≤ 1099511627776) (hsz : s.size ≤ 1099511627776) :
    Calls Tryd.prog 33 #[.slice A n c, .string s] w fun e w' => ∃ v, e = .returned v ∧ w'.ownsRow w.heap.size 5 1 v (n + (putT s).length) (bys (bs ++ putT s)) ∧ Below w.heap.size w w' := by
  have hle := putN_len_le s.size
  have hT := putT_len s
  have hTd : putT s = putN s.size ++ s.data.toList := rfl
  go_enter Tryd.func33, Tryd.ntmps33
  go_wp2_with fail
  refine (RPut_any _ _ _ _ _ _ hs hn).mono ?_
  rintro e w1 ⟨v, rfl, hown, hb⟩
  obtain ⟨A1, c1, rfl, hc1, hs1, hA1, _⟩ := own_sl hown
  have hcv := Lib.run_convert_string_bytes (P := Tryd.prog) w1 9 27 5 s Tryd.underlying9 Tryd.underlying27 Tryd.underlying5
  have hb2 := bytesWorld_below w1 5 s
  have hsl := bytesWorld_sl w1 5 s (by omega)
  have hs1' := hs1.below hb2
  have HB := Lib.hid (hb.trans (hb2.mono hb.size))
  generalize Lib.bytesWorld w1 5 s = w2 at *
  clear hown hb hs1
  go_wp2_with fail
  refine (behind_any _ _ _ _ _ _ _ _ _ hs1' hsl (by omega) (by omega)).mono ?_
  rintro e w3 ⟨v, rfl, hown, hb3⟩
  have HO := Lib.hid hown
  have HB3 := Lib.hid hb3
  clear hown hb3
  go_wp2_with fail
  go_ret
  refine ⟨v, rfl, ?_, HB.out.trans (HB3.out.mono HB.out.size)⟩
  have := own_base_mono HO.out HB.out.size
  rw [List.append_assoc, ← hTd, show n + (putN s.size).length + s.size = n + (putT s).length by omega] at this
  exact this

def Up (p q : Nat) (bs : List UInt8) : Prop := ∀ i, i < q - p → 127 < ((bs.drop p).getD i 0).toNat
/-- The value of the bytes behind place i, up to q. -/
def Vl (q : Nat) (i : Int) (m : Nat) (bs : List UInt8) : Prop := m = valLE ((bs.drop (i + 1).toNat).take (q - i).toNat)
set_option maxRecDepth 100000 in
set_option maxHeartbeats 800000 in
theorem RGet_in (A : Option Addr) (n c : Nat) (bs : List UInt8) (p : Nat) (w : World) (hs : Sl 1 w A n (bys bs)) (hn : n ≤ 1099511627776) (hp : p ≤ n) :
    Calls Tryd.prog 47 #[.slice A n c, .int .i64 p] w fun e w' => e = .returned (.tuple #[.int .i64 (getS bs p).1, .int .i64 (getS bs p).2.1, .int .i64 (getS bs p).2.2]) ∧ w = w' := by
  have hl : bs.length = n := by have := hs.len; simpa [bys] using this
  have hin : getS bs p = getR p (getL 9 (bs.drop p) true) := by
    unfold getS
    rw [if_neg (by rw [hl]; omega)]; rfl
  have HIN := Lib.hid hin
  have HL := Lib.hid hl
  clear hl hin
  go_enter Tryd.func47, Tryd.ntmps47
  go_wp2
  go_loop [7] (fun a => ∃ q : Nat, a = .int .i64 q ∧ p ≤ q ∧ q ≤ n ∧ q ≤ p + 9 ∧ Up p q bs) (fun a => p + 9 - (intOf a).toNat)
  case atStart => exact ⟨p, rfl, by omega, by omega, by omega, fun i hi => by omega⟩
  case round =>
    obtain ⟨q, rfl, hpq, hqn, hq9, hup⟩ := hrel
    have HU := Lib.hid hup
    clear hup
    by_cases h9 : q < p + 9
    · by_cases hend : q < n
      · obtain ⟨b, o, rfl, hk2, hcell, _⟩ := hs.byte hend
        have hdl : q - p < (bs.drop p).length := by simp; omega
        have hcb : bs[q] = (bs.drop p)[q - p] := by simp [show p + (q - p) = q by omega]
        have HDL := Lib.hid hdl
        have HC : Hid (bs[q] = (bs.drop p)[q - p]'(HDL.out)) := Lib.hid hcb
        generalize hgc : bs[q] = cb at *
        have hcb256 : cb.toNat < 256 := cb.toNat_lt
        clear hgc hcb hdl
        by_cases h127 : 127 < cb.toNat
        · go_wp2
          go_round
          case rel => exact ⟨q + 1, by go_num, by omega, by omega, by omega, fun i hi => by
            rcases Nat.lt_or_ge i (q - p) with h | h
            · exact HU.out i h
            · obtain rfl : i = q - p := by omega
              rw [List.getD_eq_getElem?_getD, List.getElem?_eq_getElem HDL.out, Option.getD_some, ← HC.out]; exact h127⟩
          case measure => simp [intOf]; omega
        · by_cases h0 : cb.toNat = 0 ∧ p < q
          · have hfin : getS bs p = (0, 0, 5) := by
              rw [HIN.out, getL_run0 (q - p) 9 (bs.drop p) true (by omega) HDL.out HU.out (by rw [← HC.out]; exact h0.1) (.inl (by omega))]; rfl
            have HF := Lib.hid hfin
            obtain ⟨h00, hpq2⟩ := h0
            have h01 : cb.toNat ≤ 0 := by omega
            clear hfin HIN h00 hs hk2
            go_wp2
            go_ret3
            exact ⟨by rw [HF.out]; rfl, rfl⟩
          · have hfin : getS bs p = getR p (.ok (valLE ((bs.drop p).take (q - p + 1)), q - p + 1)) := by
              rw [HIN.out, getL_run (q - p) 9 (bs.drop p) true (by omega) HDL.out HU.out (by rw [← HC.out]; exact h127) (by rw [← HC.out]; rcases Nat.lt_or_ge p q with h | h; exact .inl (by omega); exact .inr ⟨by omega, rfl⟩)]
            have HF := Lib.hid hfin
            clear hfin HIN
            rcases (show (cb.toNat ≤ 0 ∧ ¬ p < q) ∨ 0 < cb.toNat by omega) with ⟨h01, hj0⟩ | h01
            all_goals
              clear h0
              go_wp2
              go_loop [8, 9] (fun a i => ∃ m : Nat, ∃ i' : Int, a = .int .i64 m ∧ i = .int .i64 i' ∧ (p : Int) - 1 ≤ i' ∧ i' ≤ q ∧ m ≤ 4611686018427387903 ∧ Vl q i' m bs) (fun _ i => (intOf i + 1).toNat)
              case atStart => exact ⟨0, q, rfl, rfl, by omega, by omega, by omega, by unfold Vl; simp [valLE]⟩
              case round =>
                obtain ⟨m, i, rfl, rfl, hi1, hi2, hm, hv⟩ := hrel
                have HV := Lib.hid hv
                clear hv
                by_cases hip : (p : Int) ≤ i
                · obtain ⟨k, rfl⟩ := Int.eq_ofNat_of_zero_le (show 0 ≤ i by omega)
                  by_cases hbig : 36028797018963967 < m
                  · have hV : 128 * m ≤ valLE ((bs.drop p).take (q - p + 1)) := by
                      have hs1 : (bs.drop p).take (q - p + 1) = (bs.drop p).take (k + 1 - p) ++ (bs.drop (k + 1)).take (q - k) := by
                        rw [show q - p + 1 = (k + 1 - p) + (q - k) by omega, List.take_add, List.drop_drop, show p + (k + 1 - p) = k + 1 by omega]
                      have hv2 : m = valLE ((bs.drop (k + 1)).take (q - k)) := by have := HV.out; unfold Vl at this; rw [this]; congr 2 <;> omega
                      rw [hs1]
                      conv => lhs; rw [hv2]
                      exact valLE_ge (by rw [List.length_take, List.length_drop]; omega)
                    have HVV := Lib.hid hV
                    clear hV
                    go_wp2
                    go_ret3
                    exact ⟨by rw [HF.out, getR, if_pos (by have := HVV.out; omega)]; rfl, rfl⟩
                  · obtain ⟨b2, o2, hbo, hk3, hcell2, _⟩ := hs.byte (show k < n by omega)
                    simp only [Option.some.injEq, Addr.mk.injEq, and_true] at hbo
                    obtain ⟨rfl, rfl⟩ := hbo
                    have hv2 : valLE ((bs.drop k).take (q - k + 1)) = (bs[k]).toNat % 128 + 128 * m := by
                      rw [drop_cons hk3, List.take_succ_cons, valLE_cons]
                      have := HV.out; unfold Vl at this; rw [this]; congr 4 <;> omega
                    have HV2 := Lib.hid hv2
                    clear hv2
                    generalize bs[k] = cb2 at *
                    have hcb2 : cb2.toNat < 256 := cb2.toNat_lt
                    go_wp2
                    go_round
                    case rel => exact ⟨cb2.toNat % 128 + 128 * m, (k : Int) - 1, by go_num, rfl, by omega, by omega, by omega, by
                      unfold Vl
                      rw [show ((q : Int) - ((k : Int) - 1)).toNat = q - k + 1 by omega, show ((k : Int) - 1 + 1).toNat = k by omega, HV2.out]⟩
                    case measure => first | (simp [intOf]; done) | (simp [intOf]; omega)
                · have hv2 : m = valLE ((bs.drop p).take (q - p + 1)) := by
                    have := HV.out; unfold Vl at this; rw [this, show (i + 1).toNat = p by omega, show ((q : Int) - i).toNat = q - p + 1 by omega]
                  have HV2 := Lib.hid hv2
                  clear hv2
                  go_wp2
                  go_ret3
                  exact ⟨by rw [HF.out, ← HV2.out, getR, if_neg (by omega)]; exact ret3_eq rfl (by dsimp only; omega) rfl, rfl⟩
      · have hfin : getS bs p = (0, 0, 4) := by
          have hdl : (bs.drop p).length = q - p := by have := HL.out; simp; omega
          rw [HIN.out, getL_end 9 (bs.drop p) true (by omega) (by rw [hdl]; exact HU.out)]; rfl
        have HF := Lib.hid hfin
        obtain rfl : q = n := by omega
        clear hfin HIN hs
        go_wp2
        go_ret3
        exact ⟨by rw [HF.out]; rfl, rfl⟩
    · have hfin : getS bs p = (0, 0, 5) := by
        have hdl : (bs.drop p).length = n - p := by have := HL.out; simp; omega
        rw [HIN.out, getL_long 9 (bs.drop p) true (by omega) (fun i hi => HU.out i (by omega))]; rfl
      have HF := Lib.hid hfin
      have e9 : (q : Int) - p ≤ 9 := by omega
      have e10 : 9 ≤ (q : Int) - p := by omega
      clear hfin HIN hs
      go_wp2
      all_goals
        go_ret3
        exact ⟨by rw [HF.out]; rfl, rfl⟩

set_option maxRecDepth 100000 in
set_option maxHeartbeats 400000 in
theorem RGet_any (A : Option Addr) (n c : Nat) (bs : List UInt8) (p : Int) (w : World) (hs : Sl 1 w A n (bys bs)) (hn : n ≤ 1099511627776) :
    Calls Tryd.prog 47 #[.slice A n c, .int .i64 p] w fun e w' => e = .returned (.tuple #[.int .i64 (getS bs p).1, .int .i64 (getS bs p).2.1, .int .i64 (getS bs p).2.2]) ∧ w = w' := by
  by_cases hp : 0 ≤ p ∧ p ≤ n
  · obtain ⟨k, rfl⟩ := Int.eq_ofNat_of_zero_le hp.1
    exact RGet_in A n c bs k w hs hn (by omega)
  · have hl : bs.length = n := by have := hs.len; simpa [bys] using this
    have hfin : getS bs p = (0, 0, 3) := by unfold getS; rw [if_pos (by omega)]
    have HF := Lib.hid hfin
    clear hfin hl
    by_cases h0 : p < 0
    · clear hp
      go_enter Tryd.func47, Tryd.ntmps47
      go_wp2
      go_ret3
      exact ⟨by rw [HF.out]; rfl, rfl⟩
    · have h1 : (n : Int) < p := by omega
      clear hp
      go_enter Tryd.func47, Tryd.ntmps47
      go_wp2
      go_ret3
      exact ⟨by rw [HF.out]; rfl, rfl⟩

set_option maxRecDepth 100000 in
set_option maxHeartbeats 400000 in
theorem RGetText_any (A : Option Addr) (n c : Nat) (bs : List UInt8) (p most : Int) (w : World) (hs : Sl 1 w A n (bys bs)) (hn : n ≤ 1099511627776) (hc : n ≤ c) (hmo : most ≤ 4611686018427387903) :
    Calls Tryd.prog 49 #[.slice A n c, .int .i64 p, .int .i64 most] w fun e w' => e = .returned (.tuple #[.string (str (getT bs p most).1), .int .i64 (getT bs p most).2.1, .int .i64 (getT bs p most).2.2]) ∧ w = w' := by
  have hl : bs.length = n := by have := hs.len; simpa [bys] using this
  have hT : getT bs p most = getTR bs most (getS bs p) := rfl
  have HT := Lib.hid hT
  have hh : heldI most 0 4611686018427387903 = mxI most 0 := by unfold heldI mxI; (repeat' split) <;> omega
  have HH := Lib.hid hh
  clear hT hh
  rcases getS_cases bs p with ⟨x, to, hg, hx, hp, hpt, htl, _⟩ | ⟨e0, hg, he, he0, he8⟩
  · rw [hg] at HT
    have HG := Lib.hid hg
    rw [hl] at htl
    have HL := Lib.hid hl
    clear hg hl
    have hm0 : 0 ≤ mxI most 0 := by unfold mxI; split <;> omega
    by_cases h1 : mxI most 0 < x
    · go_enter Tryd.func49, Tryd.ntmps49
      go_wp2_with fail
      refine (RGet_any _ _ _ _ _ _ hs hn).mono ?_
      rintro e w1 ⟨rfl, rfl⟩
      rw [HG.out]
      go_wp2_with fail
      refine (held_any _ _ _ _).mono ?_
      rintro e w1 ⟨rfl, rfl⟩
      rw [HH.out]
      go_wp2
      go_ret3
      exact ⟨by rw [HT.out, getTR, if_neg (by omega), if_pos (by omega)]; rfl, rfl⟩
    · by_cases h2 : (n : Int) - to < x
      · go_enter Tryd.func49, Tryd.ntmps49
        go_wp2_with fail
        refine (RGet_any _ _ _ _ _ _ hs hn).mono ?_
        rintro e w1 ⟨rfl, rfl⟩
        rw [HG.out]
        go_wp2_with fail
        refine (held_any _ _ _ _).mono ?_
        rintro e w1 ⟨rfl, rfl⟩
        rw [HH.out]
        go_wp2
        go_ret3
        exact ⟨by rw [HT.out, getTR, if_neg (by omega), if_neg (by omega), if_pos (by rw [HL.out]; omega)]; rfl, rfl⟩
      · have hcv := run_conv_str (P := Tryd.prog) (w := w) (src := 27) Tryd.underlying27 Tryd.underlying5 (dst := 9) Tryd.underlying9 (c := c - to) (hs.sub to (to + x) c (by omega) (by omega) hc)
        obtain ⟨i0, hi, hz0, hz1, hz2⟩ := info_parts info5
        have hsl := run_slice_sub (P := Tryd.prog) (w := w) (T := 27) under27 elem27 hi hz1 A n c to (to + x) (by omega) (by omega) .i64 .i64 to (to + x) rfl (by omega)
        have exx : to + x - to = x := by omega
        rw [exx] at hsl hcv
        have HS := Lib.hid exx
        clear exx hi hz0 hz1 hz2
        go_enter Tryd.func49, Tryd.ntmps49
        go_wp2_with fail
        refine (RGet_any _ _ _ _ _ _ hs hn).mono ?_
        rintro e w1 ⟨rfl, rfl⟩
        rw [HG.out]
        go_wp2_with fail
        refine (held_any _ _ _ _).mono ?_
        rintro e w1 ⟨rfl, rfl⟩
        rw [HH.out]
        go_wp2
        go_ret3
        exact ⟨by rw [HT.out, getTR, if_neg (by omega), if_neg (by omega), if_neg (by rw [HL.out]; omega)]; rfl, rfl⟩
  · rw [hg] at HT
    have HG := Lib.hid hg
    clear hg hl
    go_enter Tryd.func49, Tryd.ntmps49
    go_wp2_with fail
    refine (RGet_any _ _ _ _ _ _ hs hn).mono ?_
    rintro e w1 ⟨rfl, rfl⟩
    rw [HG.out]
    go_wp2
    go_ret3
    exact ⟨by rw [HT.out, getTR, if_pos he]; rfl, rfl⟩
end Go.Proofs.YthkjnpbbgfagkaaDoor
