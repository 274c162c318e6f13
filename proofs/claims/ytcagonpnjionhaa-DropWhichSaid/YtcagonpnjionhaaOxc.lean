import Derived.Test.YtcagonpnjionhaaOwc
import Derived.Test.YtcagonpnjionhaaGjc
/-! The document's ahead and order. -/
set_option linter.unusedVariables false
set_option linter.unusedSimpArgs false
namespace Go.Proofs.Ytcagonpnjionhaa
open Go.RowKit

set_option maxRecDepth 100000 in
set_option maxHeartbeats 1000000 in
theorem refAhead_any (p q : ByteArray) (w : World) (hp : p.size ≤ 2097152) (hq : q.size ≤ 2097152) :
    Calls Try.prog 40 #[.string p, .string q] w fun e w' => e = .returned (.bool (aheadB p q)) ∧ Below w.heap.size w w' := by
  obtain ⟨X, hX⟩ : ∃ X, aheadB p q = X := ⟨_, rfl⟩
  have HX : Hid ((underS p q || (!underS q p && lessS p q)) = X) := Lib.hid hX
  rw [hX]
  clear hX
  have H1 := Lib.hid (refUnder_any p q _ _ w rfl rfl hp hq)
  have H2 := Lib.hid (fun w' => refUnder_any q p _ _ w' rfl rfl hq hp)
  have H3 := Lib.hid (fun w' => refLess_any p q _ _ w' rfl rfl hp hq)
  have HX : Hid ((pfxB (splitB p.data.toList) (splitB q.data.toList) || (!pfxB (splitB q.data.toList) (splitB p.data.toList) && lessP (splitB p.data.toList) (splitB q.data.toList))) = X) := HX
  generalize pfxB (splitB p.data.toList) (splitB q.data.toList) = b1 at *
  generalize pfxB (splitB q.data.toList) (splitB p.data.toList) = b2 at *
  generalize lessP (splitB p.data.toList) (splitB q.data.toList) = b3 at *
  go_enter Try.func40, Try.ntmps40
  go_wp2_with fail
  refine H1.out.mono ?_
  rintro e w1 ⟨rfl, hb1⟩
  have B1 := Lib.hid hb1
  clear hb1 H1
  cases b1 with
  | true =>
    have K := Lib.hid (show X = true by rw [← HX.out]; rfl)
    go_wp2_with fail
    go_ret
    exact ⟨by rw [K.out]; rfl, B1.out⟩
  | false =>
  go_wp2_with fail
  refine (H2.out w1).mono ?_
  rintro e w2 ⟨rfl, hb2⟩
  have B2 := Lib.hid (B1.out.trans (hb2.mono B1.out.size))
  clear hb2 H2 B1
  cases b2 with
  | true =>
    have K := Lib.hid (show X = false by rw [← HX.out]; rfl)
    go_wp2_with fail
    go_ret
    exact ⟨by rw [K.out]; rfl, B2.out⟩
  | false =>
  have K := Lib.hid (show X = b3 by rw [← HX.out]; rfl)
  go_wp2_with fail
  refine (H3.out w2).mono ?_
  rintro e w3 ⟨rfl, hb3⟩
  have B3 := Lib.hid (B2.out.trans (hb3.mono B2.out.size))
  clear hb3 H3 B2
  go_wp2_with fail
  go_ret
  exact ⟨by rw [K.out]; rfl, B3.out⟩
theorem row_open {w : World} {base : Nat} {e : TypeId} {v : Value} {n : Nat} {xs : List Value} (h : w.ownsRow base e 1 v n xs) (hn : 0 < n) :
    ∃ g cap, v = .slice (some ⟨g, 0, none⟩) n cap ∧ n ≤ cap ∧ base ≤ g ∧ (∀ j x, xs[j]? = some x → w.cell? ⟨g, j, none⟩ = some x) ∧ (∀ j, w.frozen? ⟨g, j, none⟩ = false) ∧ ∀ j x, (w.setCell ⟨g, j, none⟩ x).ownsRow base e 1 v n (xs.set j x) := by
  obtain ⟨h1, h2⟩ := h
  rcases h2 with ⟨_, rfl⟩ | ⟨g, cap, cur, rfl, hg, hh, h3, h4, h5, h6⟩
  · omega
  · have hB : Blk w g e cur.toList := by unfold Blk; rw [Array.toArray_toList]; exact hh
    refine ⟨g, cap, rfl, h3, hg, fun j x hj => ?_, fun j => hB.frozen j, fun j x => ⟨by rw [List.length_set]; exact h1, .inr ⟨g, cap, (cur.toList.set j x).toArray, rfl, hg, hB.set j x, h3, h4, by simpa using h5, ?_⟩⟩⟩
    · rw [hB.cell j]
      rw [← h6, List.getElem?_take] at hj
      split at hj
      · exact hj
      · cases hj
    · show (cur.toList.set j x).take (n * 1) = xs.set j x
      rw [List.take_set, h6]
theorem mid_set (out : List ByteArray) (k : Nat) (hk : k ≤ out.length) (z y : ByteArray) : (strsA (out.take k ++ z :: out.drop k)).set k (.string y) = strsA (out.take k ++ y :: out.drop k) := by
  unfold strsA
  rw [List.map_append, List.map_append, List.map_cons, List.map_cons, List.set_append_right _ _ (by rw [List.length_map, List.length_take]; omega)]
  rw [List.length_map, List.length_take, Nat.min_eq_left hk, Nat.sub_self, List.set_cons_zero]
theorem mid_shift (out : List ByteArray) {j : Nat} {e : ByteArray} (h : out[j]? = some e) : out.take (j + 1) ++ e :: out.drop (j + 1) = out.take j ++ e :: out.drop j := by
  obtain ⟨hj, he⟩ := List.getElem?_eq_some_iff.1 h
  rw [List.take_succ_eq_append_getElem hj, he, List.append_assoc, List.drop_eq_getElem_cons hj, he]; rfl
theorem mid_get (out : List ByteArray) {j k : Nat} {e z : ByteArray} (h : out[j]? = some e) (hjk : j < k) (hk : k ≤ out.length) : (strsA (out.take k ++ z :: out.drop k))[j]? = some (.string e) := by
  unfold strsA
  rw [List.getElem?_map, List.getElem?_append_left (by rw [List.length_take]; omega), List.getElem?_take, if_pos hjk, h]; rfl
theorem mid_at (out : List ByteArray) {k : Nat} {z : ByteArray} (hk : k ≤ out.length) : (strsA (out.take k ++ z :: out.drop k))[k]? = some (.string z) := by
  unfold strsA
  rw [List.getElem?_map, List.getElem?_append_right (by rw [List.length_take]; omega)]
  rw [List.length_take, Nat.min_eq_left hk, Nat.sub_self]; rfl
theorem ordO_snoc {L : List ByteArray} {i : Nat} {p : ByteArray} (h : L[i]? = some p) : ordO (L.take (i + 1)) = insO p (ordO (L.take i)) := by
  obtain ⟨hi, he⟩ := List.getElem?_eq_some_iff.1 h
  unfold ordO
  rw [List.take_succ_eq_append_getElem hi, he, List.foldl_append]; rfl
theorem insO_len (p : ByteArray) (out : List ByteArray) : (insO p out).length = out.length + 1 := by
  rw [(ins_perm p out).length_eq]; rfl
theorem ordO_len {L : List ByteArray} : ∀ i, i ≤ L.length → (ordO (L.take i)).length = i
  | 0, _ => by rw [List.take_zero]; rfl
  | i+1, h => by rw [ordO_snoc (List.getElem?_eq_getElem (show i < L.length by omega)), insO_len, ordO_len i (by omega)]
theorem ordO_mem {L : List ByteArray} : ∀ i, i ≤ L.length → ∀ e ∈ ordO (L.take i), e ∈ L
  | 0, _, e, he => by rw [List.take_zero] at he; cases he
  | i+1, h, e, he => by
    have hx : L[i]? = some (L[i]'(by omega)) := List.getElem?_eq_getElem (by omega)
    rw [ordO_snoc hx, (ins_perm _ _).mem_iff, List.mem_cons] at he
    rcases he with rfl | he
    · exact List.mem_of_getElem? hx
    · exact ordO_mem i (by omega) e he
set_option maxRecDepth 100000 in
set_option maxHeartbeats 8000000 in
theorem refOrder_any (A : Option Addr) (n c : Nat) (L : List ByteArray) (w : World) (hs : Sl 1 w A n (strsA L)) (hL : ∀ p ∈ L, p.size ≤ 2097152) (hn : n ≤ 1000) :
    Calls Try.prog 25 #[.slice A n c] w fun e w' => (∃ A' c', e = .returned (.slice A' n c') ∧ n ≤ c' ∧ Sl 1 w' A' n (strsA (ordO L))) ∧ Below w.heap.size w w' := by
  obtain ⟨i0, hi0, hz0, hz1, hz2⟩ := info_parts infoS
  have HS := Lib.hid hs
  have HL := Lib.hid hL
  have hln := strsRow hs
  have HLN := Lib.hid hln
  clear hs hL hln
  go_enter Try.func25, Try.ntmps25
  go_wp2_with fail
  go_loopw [3, 9] (fun u v wr => ∃ i : Nat, v = .int .i64 i ∧ i ≤ n ∧ wr.ownsRow w.heap.size 9 1 u i (strsA (ordO (L.take i))) ∧ Below w.heap.size w wr) (fun _ v _ => n - (intOf v).toNat)
  case atStart => exact ⟨0, rfl, Nat.zero_le _, ⟨rfl, .inl ⟨rfl, rfl⟩⟩, Below.refl _ _⟩
  case round =>
    obtain ⟨i, rfl, hi, hrow, hb⟩ := hrel
    have HB := Lib.hid hb
    obtain ⟨oA, oc, rfl, hoc, hosl⟩ := ownsRow_sl hrow (by omega)
    have HROW := Lib.hid hrow
    have HOS := Lib.hid hosl
    rcases Nat.lt_or_ge i n with h | h
    · obtain ⟨b, o, p, hA, hp, hpc⟩ := (HS.out.below hb).txRow h
      have HSN := Lib.hid (ordO_snoc hp)
      have hpl := HL.out p (List.mem_of_getElem? hp)
      have hol := ordO_len (L := L) i (by rw [HLN.out]; exact hi)
      have HOM := Lib.hid (ordO_mem (L := L) i (by rw [HLN.out]; exact hi))
      generalize ordO (L.take i) = out at *
      have hg0 := (Below.refl wr.heap.size wr).alloc (Nat.le_refl _) (.cells #[.string p] 9)
      have hrA := ownsRow_heap hrow (fun b hb' => hg0.block b (ownsRow_lt hrow hb').2)
      have hsl : Sl 1 (wr.alloc (.cells #[.string p] 9)) (some ⟨wr.heap.size, 0, none⟩) 1 [.string p] := (Blk.new wr 9 [.string p]).sl rfl rfl (by omega)
      have hsz : (wr.alloc (.cells #[.string p] 9)).heap.size = wr.heap.size + 1 := World.size_alloc _ _
      have hws := hb.size
      obtain ⟨v', w2, hap, hown, hg, hblk⟩ := run_append_at (c := 1) (w := wr.alloc (.cells #[.string p] 9)) w.heap.size 28 28 9 i0 _ 1 16 Try.underlying28 hi0 hz0 hz1 hz2 rfl (by decide) hrA hsl (by omega) (by intro u hu; simp at hu; subst hu; rfl) (by omega) (by omega) (by omega)
      have B2 := Lib.hid ((hb.trans (hg0.mono hb.size)).grown hg (by omega) (fun j hj => (ownsRow_lt hrA hj).1))
      have R2 := Lib.hid (show w2.ownsRow w.heap.size 9 1 v' (i + 1) (strsA (out.take i ++ p :: out.drop i)) by
        have e1 : out.take i ++ p :: out.drop i = out ++ [p] := by rw [← hol, List.take_length, List.drop_length]
        rw [e1]
        have e2 : strsA (out ++ [p]) = strsA out ++ [.string p] := by simp [strsA]
        rw [e2]; exact hown)
      have hi2 : (i : Int) < (n : Int) := by omega
      subst hA
      clear hosl hown hg hblk hrA hg0 hp hrow hb
      have hap' := hap
      obtain ⟨g, cap, hv, hcap, hbg, _⟩ := row_open R2.out (Nat.succ_pos _)
      subst hv
      go_wp2_with (at_builtin; refine halt_in ?_)
      refine Halted.out (wpList_append_run rfl _ _ _ _ rfl rfl rfl hap' ?_)
      clear hap hap' hpc hsl HROW HOS
      go_wp2_with fail
      go_loopw [6] (fun u wr2 => ∃ (k : Nat) (z : ByteArray), u = .int .i64 k ∧ k ≤ i ∧ cutO p out k = cutO p out i ∧ wr2.ownsRow w.heap.size 9 1 (.slice (some ⟨g, 0, none⟩) (i + 1) cap) (i + 1) (strsA (out.take k ++ z :: out.drop k)) ∧ Below w.heap.size w wr2) (fun u _ => (intOf u).toNat)
      case atStart => exact ⟨i, p, rfl, Nat.le_refl _, rfl, R2.out, B2.out⟩
      case round =>
        clear R2 B2
        obtain ⟨k, z, rfl, hk, hcut, hrow, hb⟩ := hrel
        have HR := Lib.hid hrow
        have HB2 := Lib.hid hb
        have HCUT := Lib.hid hcut
        obtain ⟨g', cap', hv', _, _, hcl, hfz, hset⟩ := row_open hrow (Nat.succ_pos _)
        cases hv'
        have d0 := hcl k _ (mid_at out (by omega))
        have f0 := hfz k
        have hkb : (0 : Int) ≤ (k : Int) := by omega
        have hkc : (k : Int) < (i : Int) + 1 := by omega
        clear hb hrow hcut
        rcases Nat.eq_zero_or_pos k with rfl | hkp
        · have hR9 := Lib.hid (show (_ : World).ownsRow w.heap.size 9 1 (.slice (some ⟨g, 0, none⟩) (i + 1) cap) (i + 1) (strsA (ordO (L.take (i + 1)))) by
            have := hset 0 (.string p)
            rw [mid_set out 0 (Nat.zero_le _) z p] at this
            have e : insO p out = out.take 0 ++ p :: out.drop 0 := by unfold insO; rw [hol, ← HCUT.out]; rfl
            rw [HSN.out, e]
            exact this)
          have hB9 := Lib.hid (HB2.out.setCell (p := ⟨g, 0, none⟩) hbg (.string p))
          clear hcl hfz hset HCUT
          go_wp2_with fail
          go_roundw
          case rel => exact ⟨i + 1, by go_num, by omega, hR9.out, hB9.out⟩
          case measure => simp [intOf] <;> omega
        · obtain ⟨j, rfl⟩ : ∃ j, k = j + 1 := ⟨k - 1, by omega⟩
          have hoj : out[j]? = some (out[j]'(by omega)) := List.getElem?_eq_getElem (by omega)
          obtain ⟨e, he⟩ : ∃ e, out[j]? = some e := ⟨_, hoj⟩
          clear hoj
          have c0 := hcl j _ (mid_get out he (Nat.lt_succ_self j) (by omega))
          have hel := HL.out e (HOM.out e (List.mem_of_getElem? he))
          have HAH := Lib.hid (fun w' => refAhead_any p e w' hpl hel)
          have HCJ := Lib.hid (show cutO p out (j + 1) = if aheadB p e = true then cutO p out j else j + 1 by rw [cutO, aheadAt_of he])
          generalize aheadB p e = ah at *
          have q1 : IntKind.wrap .i64 (((j + 1 : Nat) : Int) - 1) = (j : Int) := by rw [IntKind.wrap_i64]; omega
          have q2 : ((j + 1 : Nat) : Int) - 1 = (j : Int) := by omega
          have q3 : (j : Int) + 1 - 1 = (j : Int) := by omega
          have q4 : IntKind.wrap .i64 (j : Int) = (j : Int) := by rw [IntKind.wrap_i64]; omega
          have q5 : (0 : Int) ≤ (j : Int) := by omega
          have q6 : (j : Int) < (i : Int) + 1 := by omega
          have q7 : (0 : Int) < (j : Int) + 1 := by omega
          have q8 : decide ((0 : Int) < (j : Int) + 1) = true := decide_eq_true q7
          have q9 : (0 : Int) ≤ (j : Int) + 1 := by omega
          have q10 : (j : Int) + 1 < (i : Int) + 1 := by omega
          go_wp2_with fail
          refine (HAH.out _).mono ?_
          rintro e' w5 ⟨rfl, hb5⟩
          have HR5 := Lib.hid (ownsRow_heap HR.out (fun b hb' => hb5.block b (ownsRow_lt HR.out hb').2))
          have HB5 := Lib.hid (HB2.out.trans (hb5.mono HB2.out.size))
          clear hb5 HAH HR HB2 hcl hfz hset d0 f0 c0
          obtain ⟨g', cap', hv', _, _, hcl, hfz, hset⟩ := row_open HR5.out (Nat.succ_pos _)
          cases hv'
          have d0 := hcl (j + 1) _ (mid_at out (by omega))
          have f0 := hfz (j + 1)
          have c0 := hcl j _ (mid_get out he (Nat.lt_succ_self j) (by omega))
          cases ah with
          | true =>
            have HC2 := Lib.hid (show cutO p out j = cutO p out i by rw [← HCUT.out, HCJ.out]; rfl)
            have hR9 := Lib.hid (show (w5.setCell ⟨g, j + 1, none⟩ (.string e)).ownsRow w.heap.size 9 1 (.slice (some ⟨g, 0, none⟩) (i + 1) cap) (i + 1) (strsA (out.take j ++ e :: out.drop j)) by
              have := hset (j + 1) (.string e)
              rw [mid_set out (j + 1) (by omega) z e, mid_shift out he] at this
              exact this)
            have hB9 := Lib.hid (HB5.out.setCell (p := ⟨g, j + 1, none⟩) hbg (.string e))
            clear hcl hfz hset HCUT HCJ he
            go_wp2_with fail
            go_roundw
            case rel => exact ⟨j, e, by first | rfl | go_num, by omega, HC2.out, hR9.out, hB9.out⟩
            case measure => simp [intOf] <;> omega
          | false =>
            have hR9 := Lib.hid (show (w5.setCell ⟨g, j + 1, none⟩ (.string p)).ownsRow w.heap.size 9 1 (.slice (some ⟨g, 0, none⟩) (i + 1) cap) (i + 1) (strsA (ordO (L.take (i + 1)))) by
              have := hset (j + 1) (.string p)
              rw [mid_set out (j + 1) (by omega) z p] at this
              have hc1 : cutO p out (j + 1) = j + 1 := by rw [HCJ.out]; rfl
              have e1 : insO p out = out.take (j + 1) ++ p :: out.drop (j + 1) := by unfold insO; rw [hol, ← HCUT.out, hc1]
              rw [HSN.out, e1]
              exact this)
            have hB9 := Lib.hid (HB5.out.setCell (p := ⟨g, j + 1, none⟩) hbg (.string p))
            clear hcl hfz hset HCUT HCJ he
            go_wp2_with fail
            go_roundw
            case rel => exact ⟨i + 1, by go_num, by omega, hR9.out, hB9.out⟩
            case measure => simp [intOf] <;> omega
    · obtain rfl : i = n := by omega
      have hin : ¬ ((i : Int) < (i : Int)) := by omega
      have H9 := Lib.hid (show Sl 1 wr oA i (strsA (ordO L)) by have := HOS.out; rw [List.take_of_length_le (by rw [HLN.out]; exact Nat.le_refl _)] at this; exact this)
      clear hi h hb hrow hosl HROW HOS
      go_wp2_with fail
      go_ret
      exact ⟨⟨_, _, rfl, hoc, H9.out⟩, HB.out⟩
end Go.Proofs.Ytcagonpnjionhaa
