import Derived.Test.YtcagonpnjionhaaQf
import Derived.Test.YtcagonpnjionhaaQb
/-! Rules, as both sides see them; the program's sign and check. -/
set_option linter.unusedVariables false
set_option linter.unusedSimpArgs false
namespace Go.Proofs.Ytcagonpnjionhaa
open Go.RowKit

structure Ru where
  act : Int
  pat : ByteArray
  dir : Bool
  anch : Bool
def aggU (r : Ru) : Value := .agg #[.int .i64 r.act, .string r.pat, .bool r.dir, .bool r.anch]
def encU (r : Ru) : List Value := [.int .i64 r.act, .string r.pat, .bool r.dir, .bool r.anch]
def encUs (l : List Ru) : List Value := l.flatMap encU
def badP (l : List UInt8) : Bool := decide (l = []) || (l[0]? == some 47 || (l[l.length - 1]? == some 47 || decide ((10 : UInt8) ∈ l)))
def actOk (a : Int) : Bool := decide (1 ≤ a) && decide (a ≤ 4)
/-- What checking a rule tells. -/
def chkU (r : Ru) : Int := if actOk r.act = false then 2 else if badP r.pat.data.toList = true then 5 else chkF r.pat
def okU (r : Ru) : Bool := chkU r == 0
def TellN (a : Int) (e : Ending) : Prop := ∃ v : Int, e = .returned (.int .u8 v) ∧ (v == 0) = !actOk a
set_option maxRecDepth 100000 in
set_option maxHeartbeats 1000000 in
theorem sign_any (a : Int) (w : World) : Calls Try.prog 66 #[.int .i64 a] w fun e w' => TellN a e ∧ w' = w := by
  go_enter Try.func66, Try.ntmps66
  rcases Int.lt_or_le a 1 with h | h
  · have h0 : decide (a ≤ 0) = true := by rw [decide_eq_true_eq]; omega
    have h0' : a ≤ 0 := by omega
    have K := Lib.hid (show actOk a = false by unfold actOk; rw [decide_eq_false (by omega)]; rfl)
    clear h
    go_wp2_with fail
    go_ret
    exact ⟨⟨0, rfl, by rw [K.out]; rfl⟩, by trivial⟩
  rcases Int.lt_or_le 4 a with h4 | h4
  · have h0' : ¬ a ≤ 0 := by omega
    have K := Lib.hid (show actOk a = false by unfold actOk; rw [decide_eq_false (p := a ≤ 4) (by omega)]; simp)
    clear h
    go_wp2_with fail
    go_ret
    exact ⟨⟨0, rfl, by rw [K.out]; rfl⟩, by trivial⟩
  have h5 : a = 1 ∨ a = 2 ∨ a = 3 ∨ a = 4 := by omega
  clear h h4
  rcases h5 with rfl | rfl | rfl | rfl
  · have hix : (Instr.index 92 (.agg #[.int .u8 0, .int .u8 43, .int .u8 45, .int .u8 80, .int .u8 82]) (.int .i64 1)).run Try.prog w = .ok (.int .u8 43) w := by kernel_rfl
    go_wp2_with fail
    go_ret
    exact ⟨⟨43, rfl, rfl⟩, by trivial⟩
  · have hix : (Instr.index 92 (.agg #[.int .u8 0, .int .u8 43, .int .u8 45, .int .u8 80, .int .u8 82]) (.int .i64 2)).run Try.prog w = .ok (.int .u8 45) w := by kernel_rfl
    go_wp2_with fail
    go_ret
    exact ⟨⟨45, rfl, rfl⟩, by trivial⟩
  · have hix : (Instr.index 92 (.agg #[.int .u8 0, .int .u8 43, .int .u8 45, .int .u8 80, .int .u8 82]) (.int .i64 3)).run Try.prog w = .ok (.int .u8 80) w := by kernel_rfl
    go_wp2_with fail
    go_ret
    exact ⟨⟨80, rfl, rfl⟩, by trivial⟩
  · have hix : (Instr.index 92 (.agg #[.int .u8 0, .int .u8 43, .int .u8 45, .int .u8 80, .int .u8 82]) (.int .i64 4)).run Try.prog w = .ok (.int .u8 82) w := by kernel_rfl
    go_wp2_with fail
    go_ret
    exact ⟨⟨82, rfl, rfl⟩, by trivial⟩
end Go.Proofs.Ytcagonpnjionhaa

/-! May a rule be? Both sides. -/
set_option linter.unusedVariables false
set_option linter.unusedSimpArgs false
namespace Go.Proofs.Ytcagonpnjionhaa
open Go.RowKit
attribute [local go_sem] str_toList

theorem size_len (s : ByteArray) : s.data.toList.length = s.size := by rw [Array.length_toList]; rfl
theorem badP_nil : badP [] = true := rfl
theorem badP_of {s : ByteArray} {n : Nat} (hm : s.size = n + 1) (h0 : 0 < s.size) (hn : n < s.size) : badP s.data.toList = ((s[0]'h0) == 47 || ((s[n]'hn) == 47 || decide ((10 : UInt8) ∈ s.data.toList))) := by
  unfold badP
  have hl := size_len s
  rw [decide_eq_false (by intro e; rw [e] at hl; simp at hl; omega), Bool.false_or, data_at s 0 h0, hl, hm, show n + 1 - 1 = n by omega, data_at s n hn]
  rfl
theorem u8_47 (c : UInt8) : ((c.toNat : Int) == 47) = (c == 47) := by
  by_cases h : c = 47
  · subst h; rfl
  · rw [show (c == 47) = false from by simpa using h, beq_eq_false_iff_ne]
    intro e
    exact h (UInt8.toNat_inj.1 (by rw [show (47 : UInt8).toNat = 47 from rfl]; omega))
set_option maxRecDepth 100000 in
set_option maxHeartbeats 2000000 in
theorem check1_any (r : Ru) (w : World) (hp : r.pat.size ≤ 140737488355328) :
    Calls Try.prog 57 #[aggU r] w fun e w' => e = .returned (.int .i64 (chkU r)) ∧ Below w.heap.size w w' := by
  obtain ⟨a, s, d, an⟩ := r
  obtain ⟨X, hX⟩ : ∃ X, chkU ⟨a, s, d, an⟩ = X := ⟨_, rfl⟩
  have HX0 : Hid ((if actOk a = false then 2 else if badP s.data.toList = true then 5 else chkF s) = X) := Lib.hid hX
  rw [hX]
  clear hX
  have hp : s.size ≤ 140737488355328 := hp
  unfold aggU
  have HBA := Lib.hid ((Below.refl w.heap.size w).alloc (Nat.le_refl _) (.cells #[.int .i64 a, .string s, .bool d, .bool an] 48))
  go_enter Try.func57, Try.ntmps57
  go_wp2_with fail
  refine (sign_any _ _).mono ?_
  rintro e w1 ⟨⟨v, rfl, hv⟩, rfl⟩
  cases ha : actOk a with
  | false =>
    rw [ha] at hv
    have hv : (v == 0) = true := hv
    have K := Lib.hid (show X = 2 by rw [← HX0.out, if_pos ha])
    clear ha
    go_wp2_with fail
    go_ret
    exact ⟨by rw [K.out]; rfl, HBA.out⟩
  | true =>
    rw [ha] at hv
    have hv : (v == 0) = false := hv
    have HX1 : Hid ((if badP s.data.toList = true then 5 else chkF s) = X) := Lib.hid (by have h := HX0.out; rw [if_neg (by rw [ha]; decide)] at h; exact h)
    clear ha
    by_cases h0 : s.size = 0
    · obtain rfl : s = ⟨#[]⟩ := by
        obtain ⟨⟨l⟩⟩ := s
        cases l with
        | nil => rfl
        | cons a l => simp [ByteArray.size] at h0
      have K := Lib.hid (show X = 5 by rw [← HX1.out]; exact if_pos rfl)
      clear h0
      go_wp2_with fail
      go_ret
      exact ⟨by rw [K.out]; rfl, HBA.out⟩
    have hne := nil_toList s h0
    obtain ⟨n, hm⟩ : ∃ n, s.size = n + 1 := ⟨s.size - 1, by omega⟩
    have q0 : 0 < s.size := by omega
    have qn : n < s.size := by omega
    have KB := Lib.hid (badP_of hm q0 qn)
    have k0 := u8_47 (s[0]'q0)
    have kn := u8_47 (s[n]'qn)
    have pw : IntKind.i64.wrap (n : Int) = (n : Int) := by rw [IntKind.wrap_i64]; omega
    have pw2 : IntKind.i64.wrap ((n : Int) + 1) = (n : Int) + 1 := by rw [IntKind.wrap_i64]; omega
    have pe : (n : Int) + 1 - 1 = (n : Int) := by omega
    have HM := Lib.hid hm
    clear h0
    cases b0 : (s[0]'q0) == 47 with
    | true =>
      rw [b0] at k0
      have K := Lib.hid (show X = 5 by rw [← HX1.out]; exact if_pos (by rw [KB.out, b0]; rfl))
      clear b0
      go_wp2_with fail
      go_ret
      exact ⟨by rw [K.out]; rfl, HBA.out⟩
    | false =>
      rw [b0] at k0
      cases bn : (s[n]'qn) == 47 with
      | true =>
        rw [bn] at kn
        have K := Lib.hid (show X = 5 by rw [← HX1.out]; exact if_pos (by rw [KB.out, b0, bn]; rfl))
        clear b0 bn
        go_wp2_with fail
        go_ret
        exact ⟨by rw [K.out]; rfl, HBA.out⟩
      | false =>
        rw [bn] at kn
        have KB2 := Lib.hid (show badP s.data.toList = decide ((10 : UInt8) ∈ s.data.toList) by rw [KB.out, b0, bn]; rfl)
        have HM := Lib.hid (indexByte_mem s.data.toList 10)
        clear b0 bn
        go_wp2_with fail
        refine (contains_one s 10 _).mono ?_
        rintro e w2 ⟨rfl, rfl⟩
        by_cases h10 : (10 : UInt8) ∈ s.data.toList
        · rw [decide_eq_true (HM.out.2 h10)]
          have K := Lib.hid (show X = 5 by rw [← HX1.out]; exact if_pos (by rw [KB2.out, decide_eq_true h10]))
          clear h10
          go_wp2_with fail
          go_ret
          exact ⟨by rw [K.out]; rfl, HBA.out⟩
        · rw [decide_eq_false (fun h => h10 (HM.out.1 h))]
          have K := Lib.hid (show X = chkF s by rw [← HX1.out]; exact if_neg (by rw [KB2.out, decide_eq_false h10]; decide))
          clear h10
          go_wp2_with fail
          refine (check_any s _ hp).mono ?_
          rintro e w3 ⟨rfl, hb3⟩
          have HB3 := Lib.hid (HBA.out.trans (hb3.mono HBA.out.size))
          clear hb3
          go_wp2_with fail
          go_ret
          exact ⟨by rw [K.out]; rfl, HB3.out⟩
end Go.Proofs.Ytcagonpnjionhaa

/-! May a rule be? The document's. -/
set_option linter.unusedVariables false
set_option linter.unusedSimpArgs false
namespace Go.Proofs.Ytcagonpnjionhaa
open Go.RowKit
attribute [local go_sem] str_toList

theorem mem_at {l : List UInt8} {c : UInt8} {i : Nat} (h : l[i]? = some c) : c ∈ l := List.mem_of_getElem? h
theorem not_mem_of {l : List UInt8} {c : UInt8} (h : ∀ j, j < l.length → l[j]? ≠ some c) : c ∉ l := by
  intro hm
  obtain ⟨j, hj, he⟩ := List.getElem_of_mem hm
  exact h j hj (by rw [List.getElem?_eq_getElem hj, he])
theorem u8_10 (c : UInt8) : ((c.toNat : Int) == 10) = (c == 10) := by
  by_cases h : c = 10
  · subst h; rfl
  · rw [show (c == 10) = false from by simpa using h, beq_eq_false_iff_ne]
    intro e
    exact h (UInt8.toNat_inj.1 (by rw [show (10 : UInt8).toNat = 10 from rfl]; omega))
set_option maxRecDepth 100000 in
set_option maxHeartbeats 2000000 in
theorem refOne_any (r : Ru) (w : World) (hp : r.pat.size ≤ 140737488355328) :
    Calls Try.prog 78 #[aggU r] w fun e w' => e = .returned (.int .i64 (chkU r)) ∧ Below w.heap.size w w' := by
  obtain ⟨a, s, d, an⟩ := r
  obtain ⟨X, hX⟩ : ∃ X, chkU ⟨a, s, d, an⟩ = X := ⟨_, rfl⟩
  have HX0 : Hid ((if actOk a = false then 2 else if badP s.data.toList = true then 5 else chkF s) = X) := Lib.hid hX
  rw [hX]
  clear hX
  have hp : s.size ≤ 140737488355328 := hp
  unfold aggU
  have HBA := Lib.hid ((Below.refl w.heap.size w).alloc (Nat.le_refl _) (.cells #[.int .i64 a, .string s, .bool d, .bool an] 48))
  go_enter Try.func78, Try.ntmps78
  rcases Int.lt_or_le a 1 with h | h
  · have K := Lib.hid (show X = 2 by rw [← HX0.out]; exact if_pos (by unfold actOk; rw [decide_eq_false (by omega)]; rfl))
    go_wp2_with fail
    go_ret
    exact ⟨by rw [K.out]; rfl, HBA.out⟩
  have hn : ¬ a < 1 := by omega
  rcases Int.lt_or_le 4 a with h4 | h4
  · have K := Lib.hid (show X = 2 by rw [← HX0.out]; exact if_pos (by unfold actOk; rw [decide_eq_false (p := a ≤ 4) (by omega)]; simp))
    clear h
    go_wp2_with fail
    go_ret
    exact ⟨by rw [K.out]; rfl, HBA.out⟩
  have hn4 : ¬ 4 < a := by omega
  have HX1 : Hid ((if badP s.data.toList = true then 5 else chkF s) = X) := Lib.hid (by
    have h9 := HX0.out
    rw [if_neg (by unfold actOk; rw [decide_eq_true h, decide_eq_true h4]; decide)] at h9; exact h9)
  clear h h4
  by_cases h0 : s.size = 0
  · obtain rfl : s = ⟨#[]⟩ := by
      obtain ⟨⟨l⟩⟩ := s
      cases l with
      | nil => rfl
      | cons a l => simp [ByteArray.size] at h0
    have K := Lib.hid (show X = 5 by rw [← HX1.out]; exact if_pos rfl)
    clear h0
    go_wp2_with fail
    go_ret
    exact ⟨by rw [K.out]; rfl, HBA.out⟩
  obtain ⟨n, hm⟩ : ∃ n, s.size = n + 1 := ⟨s.size - 1, by omega⟩
  have q0 : 0 < s.size := by omega
  have qn : n < s.size := by omega
  have KB := Lib.hid (badP_of hm q0 qn)
  have k0 := u8_47 (s[0]'q0)
  have kn := u8_47 (s[n]'qn)
  have pw : IntKind.i64.wrap (n : Int) = (n : Int) := by rw [IntKind.wrap_i64]; omega
  have pw2 : IntKind.i64.wrap ((n : Int) + 1) = (n : Int) + 1 := by rw [IntKind.wrap_i64]; omega
  have pe : (n : Int) + 1 - 1 = (n : Int) := by omega
  have pz : ((n : Int) + 1 == 0) = false := by rw [beq_eq_false_iff_ne]; omega
  have HM := Lib.hid hm
  clear h0
  cases b0 : (s[0]'q0) == 47 with
  | true =>
    rw [b0] at k0
    have K := Lib.hid (show X = 5 by rw [← HX1.out]; exact if_pos (by rw [KB.out, b0]; rfl))
    clear b0
    go_wp2_with fail
    go_ret
    exact ⟨by rw [K.out]; rfl, HBA.out⟩
  | false =>
    rw [b0] at k0
    cases bn : (s[n]'qn) == 47 with
    | true =>
      rw [bn] at kn
      have K := Lib.hid (show X = 5 by rw [← HX1.out]; exact if_pos (by rw [KB.out, b0, bn]; rfl))
      clear b0 bn
      go_wp2_with fail
      go_ret
      exact ⟨by rw [K.out]; rfl, HBA.out⟩
    | false =>
      rw [bn] at kn
      have KB2 := Lib.hid (show badP s.data.toList = decide ((10 : UInt8) ∈ s.data.toList) by rw [KB.out, b0, bn]; rfl)
      clear b0 bn
      go_wp2_with fail
      clear k0 kn pz pe
      obtain ⟨W, hW⟩ : ∃ W, w.alloc (.cells #[.int .i64 a, .string s, .bool d, .bool an] 48) = W := ⟨_, rfl⟩
      have k1 : W.cell? ⟨w.heap.size, 1, none⟩ = some (.string s) := by rw [← hW]; exact (Blk.new w 48 [.int .i64 a, .string s, .bool d, .bool an]).cell 1
      rw [hW]
      rw [hW] at HBA
      clear hW
      go_loopw [4] (fun v wr => ∃ i : Nat, v = .int .i64 i ∧ i ≤ n + 1 ∧ (∀ j, j < i → s.data.toList[j]? ≠ some 10) ∧ wr = W) (fun v _ => n + 1 - (intOf v).toNat)
      case atStart => exact ⟨0, rfl, Nat.zero_le _, fun j hj => absurd hj (Nat.not_lt_zero _), rfl⟩
      case round =>
        obtain ⟨i, rfl, hi, hno, rfl⟩ := hrel
        have HNO := Lib.hid hno
        clear hno
        rcases Nat.lt_or_ge i (n + 1) with h | h
        · have qi : i < s.size := by omega
          have h10 := u8_10 (s[i]'qi)
          cases bi : (s[i]'qi) == 10 with
          | true =>
            rw [bi] at h10
            have K := Lib.hid (show X = 5 by
              rw [← HX1.out]
              exact if_pos (by rw [KB2.out, decide_eq_true_eq]; exact mem_at (i := i) (by rw [data_at s i qi]; exact congrArg some (by simpa using bi))))
            clear bi
            go_wp2_with fail
            go_ret
            exact ⟨by rw [K.out]; rfl, HBA.out⟩
          | false =>
            rw [bi] at h10
            have HNI := Lib.hid (show s.data.toList[i]? ≠ some 10 by rw [data_at s i qi]; intro e; have := Option.some.inj e; rw [this] at bi; simp at bi)
            clear bi
            go_wp2_with fail
            go_roundw
            case rel => exact ⟨i + 1, by go_num, by omega, fun j hj => by
              rcases Nat.lt_or_ge j i with h' | h'
              · exact HNO.out j h'
              · obtain rfl : j = i := by omega
                exact HNI.out, trivial⟩
            case measure => simp [intOf] <;> omega
        · obtain rfl : i = n + 1 := by omega
          have K := Lib.hid (show X = chkF s by
            rw [← HX1.out]
            refine if_neg ?_
            rw [KB2.out, decide_eq_false (not_mem_of fun j hj => HNO.out j (by rw [size_len, HM.out] at hj; exact hj))]; decide)
          clear hi h
          have ql : ¬ ((n : Int) + 1 < (n : Int) + 1) := by omega
          go_wp2_with fail
          refine (refGlobCheck_any s _ hp).mono ?_
          rintro e w3 ⟨rfl, hb3⟩
          have HB3 := Lib.hid (HBA.out.trans (hb3.mono HBA.out.size))
          clear hb3
          go_wp2_with fail
          go_ret
          exact ⟨by rw [K.out]; rfl, HB3.out⟩
end Go.Proofs.Ytcagonpnjionhaa

/-! Does a rule match? The program's. -/
set_option linter.unusedVariables false
set_option linter.unusedSimpArgs false
namespace Go.Proofs.Ytcagonpnjionhaa
open Go.RowKit
attribute [local go_sem] str_toList

def wholeU (r : Ru) : Bool := r.anch || decide ((47 : UInt8) ∈ r.pat.data.toList)
def mG (pat s : List UInt8) : Bool := decide (pat.length ≤ 100) && ((patF pat).map (matchF · s)).getD false
def matchesU (r : Ru) (p : List UInt8) (dir : Bool) : Bool :=
  okU r && (!(p == []) && (rightB p && (!(r.dir && !dir) && (if wholeU r = true then mG r.pat.data.toList p else mG r.pat.data.toList (baseB p)))))
theorem mG_of2 (p : ByteArray) (l : List UInt8) : (decide (p.size ≤ 100) && ((patF p.data.toList).map (matchF · l)).getD false) = mG p.data.toList l := by unfold mG; rw [size_len]
theorem mG_of (p s : ByteArray) : (decide (p.size ≤ 100) && ((patF p.data.toList).map (matchF · s.data.toList)).getD false) = mG p.data.toList s.data.toList := by unfold mG; rw [size_len]
set_option maxRecDepth 100000 in
set_option maxHeartbeats 4000000 in
theorem matches_any (r : Ru) (p : ByteArray) (dir : Bool) (w : World) (hr : r.pat.size ≤ 140737488355328) (hp : p.size ≤ 2097152) :
    Calls Try.prog 45 #[aggU r, .string p, .bool dir] w fun e w' => e = .returned (.bool (matchesU r p.data.toList dir)) ∧ Below w.heap.size w w' := by
  obtain ⟨X, hX⟩ : ∃ X, matchesU r p.data.toList dir = X := ⟨_, rfl⟩
  have HX0 : Hid ((okU r && (!(p.data.toList == []) && (rightB p.data.toList && (!(r.dir && !dir) && (if wholeU r = true then mG r.pat.data.toList p.data.toList else mG r.pat.data.toList (baseB p.data.toList)))))) = X) := Lib.hid hX
  rw [hX]
  clear hX
  have HCK := Lib.hid (fun w => check1_any r w hr)
  have HOK := Lib.hid (show okU r = (chkU r == 0) from rfl)
  have HWH := Lib.hid (show wholeU r = (r.anch || decide ((47 : UInt8) ∈ r.pat.data.toList)) from rfl)
  generalize okU r = ok at *
  generalize chkU r = ck at *
  generalize wholeU r = wh at *
  obtain ⟨a, s, d, an⟩ := r
  have hr : s.size ≤ 140737488355328 := hr
  have HWH : Hid (wh = (an || decide ((47 : UInt8) ∈ s.data.toList))) := HWH
  have HX0 : Hid ((ok && (!(p.data.toList == []) && (rightB p.data.toList && (!(d && !dir) && (if wh = true then mG s.data.toList p.data.toList else mG s.data.toList (baseB p.data.toList)))))) = X) := HX0
  unfold aggU at *
  have HCK : Hid (∀ w, Calls Try.prog 57 #[.agg #[.int .i64 a, .string s, .bool d, .bool an]] w fun e w' => e = .returned (.int .i64 ck) ∧ Below w.heap.size w w') := HCK
  have hW := (Below.refl w.heap.size w).alloc (Nat.le_refl _) (.cells #[.int .i64 a, .string s, .bool d, .bool an] 48)
  have n0 := Blk.new w 48 [.int .i64 a, .string s, .bool d, .bool an]
  have HW := Lib.hid hW
  have HN := Lib.hid n0
  clear hW n0
  go_enter Try.func45, Try.ntmps45
  go_wp2_with fail
  refine (HCK.out _).mono ?_
  rintro e w1 ⟨rfl, hb1⟩
  have N1 := Lib.hid (HN.out.below hb1)
  have B1 := Lib.hid (HW.out.trans (hb1.mono HW.out.size))
  clear hb1 HN HW HCK
  cases ok with
  | false =>
    have K := Lib.hid (show X = false by rw [← HX0.out]; rfl)
    have h1 : (ck != 0) = true := by have := HOK.out; simpa using this
    go_wp2_with fail
    go_ret
    exact ⟨by rw [K.out]; rfl, B1.out⟩
  | true =>
    obtain rfl : ck = 0 := by have := HOK.out; simpa using this.symm
    by_cases h0 : p.size = 0
    · obtain rfl : p = ⟨#[]⟩ := by
        obtain ⟨⟨l⟩⟩ := p
        cases l with
        | nil => rfl
        | cons a l => simp [ByteArray.size] at h0
      have K := Lib.hid (show X = false by rw [← HX0.out]; rfl)
      clear h0
      go_wp2_with fail
      go_ret
      exact ⟨by rw [K.out]; rfl, B1.out⟩
    have hne := nil_toList p h0
    have HX1 : Hid ((rightB p.data.toList && (!(d && !dir) && (if wh = true then mG s.data.toList p.data.toList else mG s.data.toList (baseB p.data.toList)))) = X) := Lib.hid (by
      have h9 := HX0.out
      rw [show (p.data.toList == []) = false from by rw [← ByteArray.toList_eq]; exact hne] at h9
      simpa using h9)
    clear h0
    go_wp2_with fail
    refine (right_any p _ _ rfl hp).mono ?_
    rintro e w2 ⟨rfl, hb2⟩
    have N2 := Lib.hid (N1.out.below hb2)
    have B2 := Lib.hid (B1.out.trans (hb2.mono B1.out.size))
    clear hb2
    cases hrt : rightB p.data.toList with
    | false =>
      have K := Lib.hid (show X = false by rw [← HX1.out, hrt]; rfl)
      clear hrt
      go_wp2_with fail
      go_ret
      exact ⟨by rw [K.out]; rfl, B2.out⟩
    | true =>
      have HX2 : Hid ((!(d && !dir) && (if wh = true then mG s.data.toList p.data.toList else mG s.data.toList (baseB p.data.toList))) = X) := Lib.hid (by
        have h9 := HX1.out
        rw [hrt] at h9
        simpa using h9)
      clear hrt
      have c1 := N2.out.cell 1
      have c2 := N2.out.cell 2
      have c3 := N2.out.cell 3
      rw [show ([.int .i64 a, .string s, .bool d, .bool an] : List Value)[1]? = some (.string s) from rfl] at c1
      rw [show ([.int .i64 a, .string s, .bool d, .bool an] : List Value)[2]? = some (.bool d) from rfl] at c2
      rw [show ([.int .i64 a, .string s, .bool d, .bool an] : List Value)[3]? = some (.bool an) from rfl] at c3
      cases hdd : d && !dir with
      | true =>
        obtain ⟨rfl, rfl⟩ : d = true ∧ dir = false := by revert hdd; cases d <;> cases dir <;> simp
        have K := Lib.hid (show X = false by rw [← HX2.out]; rfl)
        clear hdd
        go_wp2_with fail
        go_ret
        exact ⟨by rw [K.out]; rfl, B2.out⟩
      | false =>
        have HX3 : Hid ((if wh = true then mG s.data.toList p.data.toList else mG s.data.toList (baseB p.data.toList)) = X) := Lib.hid (by
          have h9 := HX2.out
          rw [hdd] at h9
          simpa using h9)
        have hd2 : d = false ∨ dir = true := by revert hdd; cases d <;> cases dir <;> simp
        rcases hd2 with rfl | rfl
        · clear hdd
          cases an with
          | true =>
            have K := Lib.hid (show X = mG s.data.toList p.data.toList by rw [← HX3.out]; exact if_pos (by rw [HWH.out]; rfl))
            skip
            go_wp2_with fail
            refine (match_any s p _ hr (by omega)).mono ?_
            rintro e w3 ⟨rfl, hb3⟩
            rw [mG_of]
            have B3 := Lib.hid (B2.out.trans (hb3.mono B2.out.size))
            clear hb3
            generalize mG s.data.toList p.data.toList = Y at *
            go_wp2_with fail
            go_ret
            exact ⟨by rw [K.out]; rfl, B3.out⟩
          | false =>
            have HM := Lib.hid (indexByte_mem s.data.toList 47)
            go_wp2_with fail
            refine (contains_one s 47 _).mono ?_
            rintro e w3 ⟨rfl, rfl⟩
            by_cases h47 : (47 : UInt8) ∈ s.data.toList
            · rw [decide_eq_true (HM.out.2 h47)]
              have K := Lib.hid (show X = mG s.data.toList p.data.toList by rw [← HX3.out]; exact if_pos (by rw [HWH.out, decide_eq_true h47]; rfl))
              clear h47
              go_wp2_with fail
              refine (match_any s p _ hr (by omega)).mono ?_
              rintro e w4 ⟨rfl, hb3⟩
              rw [mG_of]
              have B3 := Lib.hid (B2.out.trans (hb3.mono B2.out.size))
              clear hb3
              generalize mG s.data.toList p.data.toList = Y at *
              go_wp2_with fail
              go_ret
              exact ⟨by rw [K.out]; rfl, B3.out⟩
            · rw [decide_eq_false (fun h => h47 (HM.out.1 h))]
              have K := Lib.hid (show X = mG s.data.toList (baseB p.data.toList) by rw [← HX3.out]; exact if_neg (by rw [HWH.out, decide_eq_false h47]; decide))
              clear h47
              have hbl : (str (baseB p.data.toList)).size ≤ 140737488355328 := by
                rw [str_size]; unfold baseB; rw [List.length_drop, size_len]; omega
              have hbs : (str (baseB p.data.toList)).data.toList = baseB p.data.toList := str_data _
              go_wp2_with fail
              refine wp_region_held_drew (S := fun w' => Below (w3.drew).heap.size (w3.drew) w') (by kernel_rfl) (Below.refl _ _) (fun hHeld => ?_)
              refine wpAnyH_take (i := 0) (oi := ?oi1) (v := ?v1) ?hi1 ?hs1 ?hf1 ?hr1 ?hQ1 (Or.inl ⟨?hg1, ?hy1⟩) hHeld ?rest1
              case hi1 => simp only [List.getElem?_toArray, List.getElem?_cons_succ, List.getElem?_cons_zero]; rfl
              case hs1 => kernel_rfl
              case hf1 => kernel_rfl
              case hr1 => kernel_rfl
              case hg1 => rfl
              case hy1 => (intro w hSw; first | (go_simp; done) | (go_simp; with_reducible rfl))
              case hQ1 => exact fun _ _ _ h => h
              try simp only [Act.put, List.setIfInBounds_toArray, List.set_cons_zero, List.set_cons_succ]
              refine wpAnyH_take (i := 1) (oi := ?oi2) (v := ?v2) ?hi2 ?hs2 ?hf2 ?hr2 ?hQ2 (Or.inl ⟨?hg2, ?hy2⟩) hHeld ?rest2
              case hi2 => simp only [List.getElem?_toArray, List.getElem?_cons_succ, List.getElem?_cons_zero]; rfl
              case hs2 => kernel_rfl
              case hf2 => kernel_rfl
              case hr2 => kernel_rfl
              case hg2 => rfl
              case hy2 => (intro w hSw; have x0 := cell_below c1 ((Below.refl _ _).drew.trans hSw); first | (go_simp; done) | (go_simp; with_reducible rfl))
              case hQ2 => exact fun _ _ _ h => h
              try simp only [Act.put, List.setIfInBounds_toArray, List.set_cons_zero, List.set_cons_succ]
              refine wpAnyH_take (i := 2) (oi := ?oi3) (v := ?v3) ?hi3 ?hs3 ?hf3 ?hr3 ?hQ3 (Or.inl ⟨?hg3, ?hy3⟩) hHeld ?rest3
              case hi3 => simp only [List.getElem?_toArray, List.getElem?_cons_succ, List.getElem?_cons_zero]; rfl
              case hs3 => kernel_rfl
              case hf3 => kernel_rfl
              case hr3 => kernel_rfl
              case hg3 => rfl
              case hy3 => (intro w hSw; first | (go_simp; done) | (go_simp; with_reducible rfl))
              case hQ3 => exact fun _ _ _ h => h
              try simp only [Act.put, List.setIfInBounds_toArray, List.set_cons_zero, List.set_cons_succ]
              refine wpAnyH_ready (rs := [3]) (by kernel_rfl) (by simp) ?_
              refine AllReadyH.cons (o := ?oi4) ?hi4 (fun K hK => ?_) AllReadyH.nil
              case hi4 => simp only [List.getElem?_toArray, List.getElem?_cons_succ, List.getElem?_cons_zero]; rfl
              go_simp; go_at_call 60; refine (base_any p _ (by omega)).mono ?_; rintro e w5 ⟨rfl, rfl⟩; go_wp2_with fail
              refine hK.out _ _ ((Below.refl _ _)) (fun hHeld2 => ?_)
              clear hK K hHeld
              have hHeld := hHeld2
              clear hHeld2
              try simp only [Act.put, List.setIfInBounds_toArray, List.set_cons_zero, List.set_cons_succ]
              refine wpAnyH_ready (rs := [4]) (by kernel_rfl) (by simp) ?_
              refine AllReadyH.cons (o := ?oi5) ?hi5 (fun K hK => ?_) AllReadyH.nil
              case hi5 => simp only [List.getElem?_toArray, List.getElem?_cons_succ, List.getElem?_cons_zero]; rfl
              go_simp; go_at_call 59; refine (match_any s (str (baseB p.data.toList)) _ hr hbl).mono ?_; rintro e w6 ⟨rfl, hb6⟩; go_wp2_with fail
              refine hK.out _ _ (hb6) (fun _ => ?_)
              clear hK K hHeld
              refine wpAnyH_change (S' := fun w' => Below (w6).heap.size (w6) w') (fun w' h => (hb6).trans (h.mono (hb6).size)) _ _ _ _ ?_
              have hHeld : Below (w6).heap.size (w6) (w6) := Below.refl _ _
              try simp only [Act.put, List.setIfInBounds_toArray, List.set_cons_zero, List.set_cons_succ]
              have B6 := Lib.hid (B2.out.drew.trans (hb6.mono B2.out.size))
              clear hb6
              refine wpAnyH_take (i := 5) (oi := ?oi6) (v := ?v6) ?hi6 ?hs6 ?hf6 ?hr6 ?hQ6 (Or.inl ⟨?hg6, ?hy6⟩) hHeld ?rest6
              case hi6 => simp only [List.getElem?_toArray, List.getElem?_cons_succ, List.getElem?_cons_zero]; rfl
              case hs6 => kernel_rfl
              case hf6 => kernel_rfl
              case hr6 => kernel_rfl
              case hg6 => rfl
              case hy6 => (intro w hSw; first | (go_simp; done) | (go_simp; with_reducible rfl))
              case hQ6 => exact fun _ _ _ h => h
              try simp only [Act.put, List.setIfInBounds_toArray, List.set_cons_zero, List.set_cons_succ]
              refine wpAnyH_done (by kernel_rfl) ?_ _
              clear hHeld
              rw [mG_of2]
              generalize mG s.data.toList (baseB p.data.toList) = Y at *
              go_wp2_with fail
              go_ret
              exact ⟨by rw [K.out]; rfl, B6.out⟩
        · clear hdd
          cases d with
          | false =>
            cases an with
            | true =>
              have K := Lib.hid (show X = mG s.data.toList p.data.toList by rw [← HX3.out]; exact if_pos (by rw [HWH.out]; rfl))
              skip
              go_wp2_with fail
              refine (match_any s p _ hr (by omega)).mono ?_
              rintro e w3 ⟨rfl, hb3⟩
              rw [mG_of]
              have B3 := Lib.hid (B2.out.trans (hb3.mono B2.out.size))
              clear hb3
              generalize mG s.data.toList p.data.toList = Y at *
              go_wp2_with fail
              go_ret
              exact ⟨by rw [K.out]; rfl, B3.out⟩
            | false =>
              have HM := Lib.hid (indexByte_mem s.data.toList 47)
              go_wp2_with fail
              refine (contains_one s 47 _).mono ?_
              rintro e w3 ⟨rfl, rfl⟩
              by_cases h47 : (47 : UInt8) ∈ s.data.toList
              · rw [decide_eq_true (HM.out.2 h47)]
                have K := Lib.hid (show X = mG s.data.toList p.data.toList by rw [← HX3.out]; exact if_pos (by rw [HWH.out, decide_eq_true h47]; rfl))
                clear h47
                go_wp2_with fail
                refine (match_any s p _ hr (by omega)).mono ?_
                rintro e w4 ⟨rfl, hb3⟩
                rw [mG_of]
                have B3 := Lib.hid (B2.out.trans (hb3.mono B2.out.size))
                clear hb3
                generalize mG s.data.toList p.data.toList = Y at *
                go_wp2_with fail
                go_ret
                exact ⟨by rw [K.out]; rfl, B3.out⟩
              · rw [decide_eq_false (fun h => h47 (HM.out.1 h))]
                have K := Lib.hid (show X = mG s.data.toList (baseB p.data.toList) by rw [← HX3.out]; exact if_neg (by rw [HWH.out, decide_eq_false h47]; decide))
                clear h47
                have hbl : (str (baseB p.data.toList)).size ≤ 140737488355328 := by
                  rw [str_size]; unfold baseB; rw [List.length_drop, size_len]; omega
                have hbs : (str (baseB p.data.toList)).data.toList = baseB p.data.toList := str_data _
                go_wp2_with fail
                refine wp_region_held_drew (S := fun w' => Below (w3.drew).heap.size (w3.drew) w') (by kernel_rfl) (Below.refl _ _) (fun hHeld => ?_)
                refine wpAnyH_take (i := 0) (oi := ?oi7) (v := ?v7) ?hi7 ?hs7 ?hf7 ?hr7 ?hQ7 (Or.inl ⟨?hg7, ?hy7⟩) hHeld ?rest7
                case hi7 => simp only [List.getElem?_toArray, List.getElem?_cons_succ, List.getElem?_cons_zero]; rfl
                case hs7 => kernel_rfl
                case hf7 => kernel_rfl
                case hr7 => kernel_rfl
                case hg7 => rfl
                case hy7 => (intro w hSw; first | (go_simp; done) | (go_simp; with_reducible rfl))
                case hQ7 => exact fun _ _ _ h => h
                try simp only [Act.put, List.setIfInBounds_toArray, List.set_cons_zero, List.set_cons_succ]
                refine wpAnyH_take (i := 1) (oi := ?oi8) (v := ?v8) ?hi8 ?hs8 ?hf8 ?hr8 ?hQ8 (Or.inl ⟨?hg8, ?hy8⟩) hHeld ?rest8
                case hi8 => simp only [List.getElem?_toArray, List.getElem?_cons_succ, List.getElem?_cons_zero]; rfl
                case hs8 => kernel_rfl
                case hf8 => kernel_rfl
                case hr8 => kernel_rfl
                case hg8 => rfl
                case hy8 => (intro w hSw; have x0 := cell_below c1 ((Below.refl _ _).drew.trans hSw); first | (go_simp; done) | (go_simp; with_reducible rfl))
                case hQ8 => exact fun _ _ _ h => h
                try simp only [Act.put, List.setIfInBounds_toArray, List.set_cons_zero, List.set_cons_succ]
                refine wpAnyH_take (i := 2) (oi := ?oi9) (v := ?v9) ?hi9 ?hs9 ?hf9 ?hr9 ?hQ9 (Or.inl ⟨?hg9, ?hy9⟩) hHeld ?rest9
                case hi9 => simp only [List.getElem?_toArray, List.getElem?_cons_succ, List.getElem?_cons_zero]; rfl
                case hs9 => kernel_rfl
                case hf9 => kernel_rfl
                case hr9 => kernel_rfl
                case hg9 => rfl
                case hy9 => (intro w hSw; first | (go_simp; done) | (go_simp; with_reducible rfl))
                case hQ9 => exact fun _ _ _ h => h
                try simp only [Act.put, List.setIfInBounds_toArray, List.set_cons_zero, List.set_cons_succ]
                refine wpAnyH_ready (rs := [3]) (by kernel_rfl) (by simp) ?_
                refine AllReadyH.cons (o := ?oi10) ?hi10 (fun K hK => ?_) AllReadyH.nil
                case hi10 => simp only [List.getElem?_toArray, List.getElem?_cons_succ, List.getElem?_cons_zero]; rfl
                go_simp; go_at_call 60; refine (base_any p _ (by omega)).mono ?_; rintro e w5 ⟨rfl, rfl⟩; go_wp2_with fail
                refine hK.out _ _ ((Below.refl _ _)) (fun hHeld2 => ?_)
                clear hK K hHeld
                have hHeld := hHeld2
                clear hHeld2
                try simp only [Act.put, List.setIfInBounds_toArray, List.set_cons_zero, List.set_cons_succ]
                refine wpAnyH_ready (rs := [4]) (by kernel_rfl) (by simp) ?_
                refine AllReadyH.cons (o := ?oi11) ?hi11 (fun K hK => ?_) AllReadyH.nil
                case hi11 => simp only [List.getElem?_toArray, List.getElem?_cons_succ, List.getElem?_cons_zero]; rfl
                go_simp; go_at_call 59; refine (match_any s (str (baseB p.data.toList)) _ hr hbl).mono ?_; rintro e w6 ⟨rfl, hb6⟩; go_wp2_with fail
                refine hK.out _ _ (hb6) (fun _ => ?_)
                clear hK K hHeld
                refine wpAnyH_change (S' := fun w' => Below (w6).heap.size (w6) w') (fun w' h => (hb6).trans (h.mono (hb6).size)) _ _ _ _ ?_
                have hHeld : Below (w6).heap.size (w6) (w6) := Below.refl _ _
                try simp only [Act.put, List.setIfInBounds_toArray, List.set_cons_zero, List.set_cons_succ]
                have B6 := Lib.hid (B2.out.drew.trans (hb6.mono B2.out.size))
                clear hb6
                refine wpAnyH_take (i := 5) (oi := ?oi12) (v := ?v12) ?hi12 ?hs12 ?hf12 ?hr12 ?hQ12 (Or.inl ⟨?hg12, ?hy12⟩) hHeld ?rest12
                case hi12 => simp only [List.getElem?_toArray, List.getElem?_cons_succ, List.getElem?_cons_zero]; rfl
                case hs12 => kernel_rfl
                case hf12 => kernel_rfl
                case hr12 => kernel_rfl
                case hg12 => rfl
                case hy12 => (intro w hSw; first | (go_simp; done) | (go_simp; with_reducible rfl))
                case hQ12 => exact fun _ _ _ h => h
                try simp only [Act.put, List.setIfInBounds_toArray, List.set_cons_zero, List.set_cons_succ]
                refine wpAnyH_done (by kernel_rfl) ?_ _
                clear hHeld
                rw [mG_of2]
                generalize mG s.data.toList (baseB p.data.toList) = Y at *
                go_wp2_with fail
                go_ret
                exact ⟨by rw [K.out]; rfl, B6.out⟩
          | true =>
            cases an with
            | true =>
              have K := Lib.hid (show X = mG s.data.toList p.data.toList by rw [← HX3.out]; exact if_pos (by rw [HWH.out]; rfl))
              skip
              go_wp2_with fail
              refine (match_any s p _ hr (by omega)).mono ?_
              rintro e w3 ⟨rfl, hb3⟩
              rw [mG_of]
              have B3 := Lib.hid (B2.out.trans (hb3.mono B2.out.size))
              clear hb3
              generalize mG s.data.toList p.data.toList = Y at *
              go_wp2_with fail
              go_ret
              exact ⟨by rw [K.out]; rfl, B3.out⟩
            | false =>
              have HM := Lib.hid (indexByte_mem s.data.toList 47)
              go_wp2_with fail
              refine (contains_one s 47 _).mono ?_
              rintro e w3 ⟨rfl, rfl⟩
              by_cases h47 : (47 : UInt8) ∈ s.data.toList
              · rw [decide_eq_true (HM.out.2 h47)]
                have K := Lib.hid (show X = mG s.data.toList p.data.toList by rw [← HX3.out]; exact if_pos (by rw [HWH.out, decide_eq_true h47]; rfl))
                clear h47
                go_wp2_with fail
                refine (match_any s p _ hr (by omega)).mono ?_
                rintro e w4 ⟨rfl, hb3⟩
                rw [mG_of]
                have B3 := Lib.hid (B2.out.trans (hb3.mono B2.out.size))
                clear hb3
                generalize mG s.data.toList p.data.toList = Y at *
                go_wp2_with fail
                go_ret
                exact ⟨by rw [K.out]; rfl, B3.out⟩
              · rw [decide_eq_false (fun h => h47 (HM.out.1 h))]
                have K := Lib.hid (show X = mG s.data.toList (baseB p.data.toList) by rw [← HX3.out]; exact if_neg (by rw [HWH.out, decide_eq_false h47]; decide))
                clear h47
                have hbl : (str (baseB p.data.toList)).size ≤ 140737488355328 := by
                  rw [str_size]; unfold baseB; rw [List.length_drop, size_len]; omega
                have hbs : (str (baseB p.data.toList)).data.toList = baseB p.data.toList := str_data _
                go_wp2_with fail
                refine wp_region_held_drew (S := fun w' => Below (w3.drew).heap.size (w3.drew) w') (by kernel_rfl) (Below.refl _ _) (fun hHeld => ?_)
                refine wpAnyH_take (i := 0) (oi := ?oi13) (v := ?v13) ?hi13 ?hs13 ?hf13 ?hr13 ?hQ13 (Or.inl ⟨?hg13, ?hy13⟩) hHeld ?rest13
                case hi13 => simp only [List.getElem?_toArray, List.getElem?_cons_succ, List.getElem?_cons_zero]; rfl
                case hs13 => kernel_rfl
                case hf13 => kernel_rfl
                case hr13 => kernel_rfl
                case hg13 => rfl
                case hy13 => (intro w hSw; first | (go_simp; done) | (go_simp; with_reducible rfl))
                case hQ13 => exact fun _ _ _ h => h
                try simp only [Act.put, List.setIfInBounds_toArray, List.set_cons_zero, List.set_cons_succ]
                refine wpAnyH_take (i := 1) (oi := ?oi14) (v := ?v14) ?hi14 ?hs14 ?hf14 ?hr14 ?hQ14 (Or.inl ⟨?hg14, ?hy14⟩) hHeld ?rest14
                case hi14 => simp only [List.getElem?_toArray, List.getElem?_cons_succ, List.getElem?_cons_zero]; rfl
                case hs14 => kernel_rfl
                case hf14 => kernel_rfl
                case hr14 => kernel_rfl
                case hg14 => rfl
                case hy14 => (intro w hSw; have x0 := cell_below c1 ((Below.refl _ _).drew.trans hSw); first | (go_simp; done) | (go_simp; with_reducible rfl))
                case hQ14 => exact fun _ _ _ h => h
                try simp only [Act.put, List.setIfInBounds_toArray, List.set_cons_zero, List.set_cons_succ]
                refine wpAnyH_take (i := 2) (oi := ?oi15) (v := ?v15) ?hi15 ?hs15 ?hf15 ?hr15 ?hQ15 (Or.inl ⟨?hg15, ?hy15⟩) hHeld ?rest15
                case hi15 => simp only [List.getElem?_toArray, List.getElem?_cons_succ, List.getElem?_cons_zero]; rfl
                case hs15 => kernel_rfl
                case hf15 => kernel_rfl
                case hr15 => kernel_rfl
                case hg15 => rfl
                case hy15 => (intro w hSw; first | (go_simp; done) | (go_simp; with_reducible rfl))
                case hQ15 => exact fun _ _ _ h => h
                try simp only [Act.put, List.setIfInBounds_toArray, List.set_cons_zero, List.set_cons_succ]
                refine wpAnyH_ready (rs := [3]) (by kernel_rfl) (by simp) ?_
                refine AllReadyH.cons (o := ?oi16) ?hi16 (fun K hK => ?_) AllReadyH.nil
                case hi16 => simp only [List.getElem?_toArray, List.getElem?_cons_succ, List.getElem?_cons_zero]; rfl
                go_simp; go_at_call 60; refine (base_any p _ (by omega)).mono ?_; rintro e w5 ⟨rfl, rfl⟩; go_wp2_with fail
                refine hK.out _ _ ((Below.refl _ _)) (fun hHeld2 => ?_)
                clear hK K hHeld
                have hHeld := hHeld2
                clear hHeld2
                try simp only [Act.put, List.setIfInBounds_toArray, List.set_cons_zero, List.set_cons_succ]
                refine wpAnyH_ready (rs := [4]) (by kernel_rfl) (by simp) ?_
                refine AllReadyH.cons (o := ?oi17) ?hi17 (fun K hK => ?_) AllReadyH.nil
                case hi17 => simp only [List.getElem?_toArray, List.getElem?_cons_succ, List.getElem?_cons_zero]; rfl
                go_simp; go_at_call 59; refine (match_any s (str (baseB p.data.toList)) _ hr hbl).mono ?_; rintro e w6 ⟨rfl, hb6⟩; go_wp2_with fail
                refine hK.out _ _ (hb6) (fun _ => ?_)
                clear hK K hHeld
                refine wpAnyH_change (S' := fun w' => Below (w6).heap.size (w6) w') (fun w' h => (hb6).trans (h.mono (hb6).size)) _ _ _ _ ?_
                have hHeld : Below (w6).heap.size (w6) (w6) := Below.refl _ _
                try simp only [Act.put, List.setIfInBounds_toArray, List.set_cons_zero, List.set_cons_succ]
                have B6 := Lib.hid (B2.out.drew.trans (hb6.mono B2.out.size))
                clear hb6
                refine wpAnyH_take (i := 5) (oi := ?oi18) (v := ?v18) ?hi18 ?hs18 ?hf18 ?hr18 ?hQ18 (Or.inl ⟨?hg18, ?hy18⟩) hHeld ?rest18
                case hi18 => simp only [List.getElem?_toArray, List.getElem?_cons_succ, List.getElem?_cons_zero]; rfl
                case hs18 => kernel_rfl
                case hf18 => kernel_rfl
                case hr18 => kernel_rfl
                case hg18 => rfl
                case hy18 => (intro w hSw; first | (go_simp; done) | (go_simp; with_reducible rfl))
                case hQ18 => exact fun _ _ _ h => h
                try simp only [Act.put, List.setIfInBounds_toArray, List.set_cons_zero, List.set_cons_succ]
                refine wpAnyH_done (by kernel_rfl) ?_ _
                clear hHeld
                rw [mG_of2]
                generalize mG s.data.toList (baseB p.data.toList) = Y at *
                go_wp2_with fail
                go_ret
                exact ⟨by rw [K.out]; rfl, B6.out⟩
end Go.Proofs.Ytcagonpnjionhaa

/-! Does a rule match? The document's. -/
set_option linter.unusedVariables false
set_option linter.unusedSimpArgs false
namespace Go.Proofs.Ytcagonpnjionhaa
open Go.RowKit
attribute [local go_sem] str_toList

set_option maxRecDepth 100000 in
set_option maxHeartbeats 2000000 in
theorem refWhole_any (r : Ru) (w : World) (hp : r.pat.size ≤ 140737488355328) :
    Calls Try.prog 79 #[aggU r] w fun e w' => e = .returned (.bool (wholeU r)) ∧ Below w.heap.size w w' := by
  obtain ⟨a, s, d, an⟩ := r
  obtain ⟨X, hX⟩ : ∃ X, wholeU ⟨a, s, d, an⟩ = X := ⟨_, rfl⟩
  have HX0 : Hid ((an || decide ((47 : UInt8) ∈ s.data.toList)) = X) := Lib.hid hX
  rw [hX]
  clear hX
  have hp : s.size ≤ 140737488355328 := hp
  unfold aggU
  have HBA := Lib.hid ((Below.refl w.heap.size w).alloc (Nat.le_refl _) (.cells #[.int .i64 a, .string s, .bool d, .bool an] 48))
  go_enter Try.func79, Try.ntmps79
  go_wp2_with fail
  obtain ⟨W, hW⟩ : ∃ W, w.alloc (.cells #[.int .i64 a, .string s, .bool d, .bool an] 48) = W := ⟨_, rfl⟩
  have k1 : W.cell? ⟨w.heap.size, 1, none⟩ = some (.string s) := by rw [← hW]; exact (Blk.new w 48 [.int .i64 a, .string s, .bool d, .bool an]).cell 1
  have k3 : W.cell? ⟨w.heap.size, 3, none⟩ = some (.bool an) := by rw [← hW]; exact (Blk.new w 48 [.int .i64 a, .string s, .bool d, .bool an]).cell 3
  rw [hW]
  rw [hW] at HBA
  clear hW
  go_loopw [3] (fun v wr => ∃ i : Nat, v = .int .i64 i ∧ i ≤ s.size ∧ (∀ j, j < i → s.data.toList[j]? ≠ some 47) ∧ wr = W) (fun v _ => s.size - (intOf v).toNat)
  case atStart => exact ⟨0, rfl, Nat.zero_le _, fun j hj => absurd hj (Nat.not_lt_zero _), rfl⟩
  case round =>
    obtain ⟨i, rfl, hi, hno, rfl⟩ := hrel
    have HNO := Lib.hid hno
    clear hno
    rcases Nat.lt_or_ge i s.size with h | h
    · have h10 := u8_47 (s[i]'h)
      cases bi : (s[i]'h) == 47 with
      | true =>
        rw [bi] at h10
        have K := Lib.hid (show X = true by
          rw [← HX0.out, decide_eq_true (mem_at (i := i) (by rw [data_at s i h]; exact congrArg some (by simpa using bi)))]
          simp)
        clear bi
        go_wp2_with fail
        go_ret
        exact ⟨by rw [K.out]; rfl, HBA.out⟩
      | false =>
        rw [bi] at h10
        have HNI := Lib.hid (show s.data.toList[i]? ≠ some 47 by rw [data_at s i h]; intro e; have := Option.some.inj e; rw [this] at bi; simp at bi)
        clear bi
        go_wp2_with fail
        go_roundw
        case rel => exact ⟨i + 1, by go_num, by omega, fun j hj => by
          rcases Nat.lt_or_ge j i with h' | h'
          · exact HNO.out j h'
          · obtain rfl : j = i := by omega
            exact HNI.out, trivial⟩
        case measure => simp [intOf] <;> omega
    · obtain rfl : i = s.size := by omega
      have K := Lib.hid (show X = an by
        rw [← HX0.out, decide_eq_false (not_mem_of fun j hj => HNO.out j (by rw [size_len] at hj; exact hj))]
        simp)
      clear hi h
      go_wp2_with fail
      go_ret
      exact ⟨by rw [K.out]; rfl, HBA.out⟩
set_option maxRecDepth 100000 in
set_option maxHeartbeats 4000000 in
theorem refMatches_any (r : Ru) (p : ByteArray) (dir : Bool) (w : World) (hr : r.pat.size ≤ 140737488355328) (hp : p.size ≤ 2097152) :
    Calls Try.prog 74 #[aggU r, .string p, .bool dir] w fun e w' => e = .returned (.bool (matchesU r p.data.toList dir)) ∧ Below w.heap.size w w' := by
  obtain ⟨X, hX⟩ : ∃ X, matchesU r p.data.toList dir = X := ⟨_, rfl⟩
  have HX0 : Hid ((okU r && (!(p.data.toList == []) && (rightB p.data.toList && (!(r.dir && !dir) && (if wholeU r = true then mG r.pat.data.toList p.data.toList else mG r.pat.data.toList (baseB p.data.toList)))))) = X) := Lib.hid hX
  rw [hX]
  clear hX
  have HCK := Lib.hid (fun w => refOne_any r w hr)
  have HWL := Lib.hid (fun w => refWhole_any r w hr)
  have HOK := Lib.hid (show okU r = (chkU r == 0) from rfl)
  have HWH := Lib.hid (show wholeU r = (r.anch || decide ((47 : UInt8) ∈ r.pat.data.toList)) from rfl)
  generalize okU r = ok at *
  generalize chkU r = ck at *
  generalize wholeU r = wh at *
  obtain ⟨a, s, d, an⟩ := r
  have hr : s.size ≤ 140737488355328 := hr
  have HWH : Hid (wh = (an || decide ((47 : UInt8) ∈ s.data.toList))) := HWH
  have HWL : Hid (∀ w, Calls Try.prog 79 #[aggU ⟨a, s, d, an⟩] w fun e w' => e = .returned (.bool wh) ∧ Below w.heap.size w w') := HWL
  have HX0 : Hid ((ok && (!(p.data.toList == []) && (rightB p.data.toList && (!(d && !dir) && (if wh = true then mG s.data.toList p.data.toList else mG s.data.toList (baseB p.data.toList)))))) = X) := HX0
  unfold aggU at *
  have HCK : Hid (∀ w, Calls Try.prog 78 #[.agg #[.int .i64 a, .string s, .bool d, .bool an]] w fun e w' => e = .returned (.int .i64 ck) ∧ Below w.heap.size w w') := HCK
  have hW := (Below.refl w.heap.size w).alloc (Nat.le_refl _) (.cells #[.int .i64 a, .string s, .bool d, .bool an] 48)
  have n0 := Blk.new w 48 [.int .i64 a, .string s, .bool d, .bool an]
  have HW := Lib.hid hW
  have HN := Lib.hid n0
  clear hW n0
  go_enter Try.func74, Try.ntmps74
  go_wp2_with fail
  refine (HCK.out _).mono ?_
  rintro e w1 ⟨rfl, hb1⟩
  have N1 := Lib.hid (HN.out.below hb1)
  have B1 := Lib.hid (HW.out.trans (hb1.mono HW.out.size))
  clear hb1 HN HW HCK
  cases ok with
  | false =>
    have K := Lib.hid (show X = false by rw [← HX0.out]; rfl)
    have h1 : (ck != 0) = true := by have := HOK.out; simpa using this
    go_wp2_with fail
    go_ret
    exact ⟨by rw [K.out]; rfl, B1.out⟩
  | true =>
    obtain rfl : ck = 0 := by have := HOK.out; simpa using this.symm
    have HX1 : Hid ((!(p.data.toList == []) && (rightB p.data.toList && (!(d && !dir) && (if wh = true then mG s.data.toList p.data.toList else mG s.data.toList (baseB p.data.toList))))) = X) := Lib.hid (by
      have h9 := HX0.out
      simpa using h9)
    go_wp2_with fail
    refine (refRight_any p _ _ rfl hp).mono ?_
    rintro e w2 ⟨rfl, hb2⟩
    have N2 := Lib.hid (N1.out.below hb2)
    have B2 := Lib.hid (B1.out.trans (hb2.mono B1.out.size))
    clear hb2
    cases hrt : rightB p.data.toList with
    | false =>
      have K := Lib.hid (show X = false by rw [← HX1.out, hrt]; simp)
      clear hrt
      go_wp2_with fail
      go_ret
      exact ⟨by rw [K.out]; rfl, B2.out⟩
    | true =>
      by_cases h0 : p.size = 0
      · obtain rfl : p = ⟨#[]⟩ := by
          obtain ⟨⟨l⟩⟩ := p
          cases l with
          | nil => rfl
          | cons a l => simp [ByteArray.size] at h0
        have K := Lib.hid (show X = false by rw [← HX1.out]; rfl)
        clear h0 hrt
        go_wp2_with fail
        go_ret
        exact ⟨by rw [K.out]; rfl, B2.out⟩
      have hne := nil_toList p h0
      have HX2 : Hid ((!(d && !dir) && (if wh = true then mG s.data.toList p.data.toList else mG s.data.toList (baseB p.data.toList))) = X) := Lib.hid (by
        have h9 := HX1.out
        rw [hrt, show (p.data.toList == []) = false from by rw [← ByteArray.toList_eq]; exact hne] at h9
        simpa using h9)
      clear hrt h0
      have c0 := N2.out.cell 0
      rw [show ([.int .i64 a, .string s, .bool d, .bool an] : List Value)[0]? = some (.int .i64 a) from rfl] at c0
      have c1 := N2.out.cell 1
      have c2 := N2.out.cell 2
      have c3 := N2.out.cell 3
      rw [show ([.int .i64 a, .string s, .bool d, .bool an] : List Value)[1]? = some (.string s) from rfl] at c1
      rw [show ([.int .i64 a, .string s, .bool d, .bool an] : List Value)[2]? = some (.bool d) from rfl] at c2
      rw [show ([.int .i64 a, .string s, .bool d, .bool an] : List Value)[3]? = some (.bool an) from rfl] at c3
      cases hdd : d && !dir with
      | true =>
        obtain ⟨rfl, rfl⟩ : d = true ∧ dir = false := by revert hdd; cases d <;> cases dir <;> simp
        have K := Lib.hid (show X = false by rw [← HX2.out]; rfl)
        clear hdd
        go_wp2_with fail
        go_ret
        exact ⟨by rw [K.out]; rfl, B2.out⟩
      | false =>
        have HX3 : Hid ((if wh = true then mG s.data.toList p.data.toList else mG s.data.toList (baseB p.data.toList)) = X) := Lib.hid (by
          have h9 := HX2.out
          rw [hdd] at h9
          simpa using h9)
        have hd2 : d = false ∨ dir = true := by revert hdd; cases d <;> cases dir <;> simp
        rcases hd2 with rfl | rfl
        · clear hdd
          go_wp2_with fail
          refine (HWL.out _).mono ?_
          rintro e w3 ⟨rfl, hb3⟩
          have N3 := Lib.hid (N2.out.below hb3)
          have B3 := Lib.hid (B2.out.trans (hb3.mono B2.out.size))
          clear hb3 c0 c1 c2 c3
          have c1 := N3.out.cell 1
          rw [show ([.int .i64 a, .string s, .bool false, .bool an] : List Value)[1]? = some (.string s) from rfl] at c1
          cases wh with
          | true =>
            have K := Lib.hid (show X = mG s.data.toList p.data.toList by rw [← HX3.out]; exact if_pos rfl)
            go_wp2_with fail
            refine (refMatch_any s p _ hr (by omega)).mono ?_
            rintro e w4 ⟨rfl, hb4⟩
            rw [mG_of]
            have B4 := Lib.hid (B3.out.trans (hb4.mono B3.out.size))
            clear hb4
            generalize mG s.data.toList p.data.toList = Y at *
            go_wp2_with fail
            go_ret
            exact ⟨by rw [K.out]; rfl, B4.out⟩
          | false =>
            have K := Lib.hid (show X = mG s.data.toList (baseB p.data.toList) by rw [← HX3.out]; exact if_neg (by decide))
            have hbl : (str (baseB p.data.toList)).size ≤ 140737488355328 := by
              rw [str_size]; unfold baseB; rw [List.length_drop, size_len]; omega
            have hbs : (str (baseB p.data.toList)).data.toList = baseB p.data.toList := str_data _
            go_wp2_with fail
            refine wp_region_held_drew (S := fun w' => Below (w3.drew).heap.size (w3.drew) w') (by kernel_rfl) (Below.refl _ _) (fun hHeld => ?_)
            refine wpAnyH_take (i := 0) (oi := ?oi1) (v := ?v1) ?hi1 ?hs1 ?hf1 ?hr1 ?hQ1 (Or.inl ⟨?hg1, ?hy1⟩) hHeld ?rest1
            case hi1 => simp only [List.getElem?_toArray, List.getElem?_cons_succ, List.getElem?_cons_zero]; rfl
            case hs1 => kernel_rfl
            case hf1 => kernel_rfl
            case hr1 => kernel_rfl
            case hg1 => rfl
            case hy1 => (intro w hSw; first | (go_simp; done) | (go_simp; with_reducible rfl))
            case hQ1 => exact fun _ _ _ h => h
            try simp only [Act.put, List.setIfInBounds_toArray, List.set_cons_zero, List.set_cons_succ]
            refine wpAnyH_take (i := 1) (oi := ?oi2) (v := ?v2) ?hi2 ?hs2 ?hf2 ?hr2 ?hQ2 (Or.inl ⟨?hg2, ?hy2⟩) hHeld ?rest2
            case hi2 => simp only [List.getElem?_toArray, List.getElem?_cons_succ, List.getElem?_cons_zero]; rfl
            case hs2 => kernel_rfl
            case hf2 => kernel_rfl
            case hr2 => kernel_rfl
            case hg2 => rfl
            case hy2 => (intro w hSw; have x0 := cell_below c1 ((Below.refl _ _).drew.trans hSw); first | (go_simp; done) | (go_simp; with_reducible rfl))
            case hQ2 => exact fun _ _ _ h => h
            try simp only [Act.put, List.setIfInBounds_toArray, List.set_cons_zero, List.set_cons_succ]
            refine wpAnyH_take (i := 2) (oi := ?oi3) (v := ?v3) ?hi3 ?hs3 ?hf3 ?hr3 ?hQ3 (Or.inl ⟨?hg3, ?hy3⟩) hHeld ?rest3
            case hi3 => simp only [List.getElem?_toArray, List.getElem?_cons_succ, List.getElem?_cons_zero]; rfl
            case hs3 => kernel_rfl
            case hf3 => kernel_rfl
            case hr3 => kernel_rfl
            case hg3 => rfl
            case hy3 => (intro w hSw; first | (go_simp; done) | (go_simp; with_reducible rfl))
            case hQ3 => exact fun _ _ _ h => h
            try simp only [Act.put, List.setIfInBounds_toArray, List.set_cons_zero, List.set_cons_succ]
            refine wpAnyH_ready (rs := [3]) (by kernel_rfl) (by simp) ?_
            refine AllReadyH.cons (o := ?oi4) ?hi4 (fun K hK => ?_) AllReadyH.nil
            case hi4 => simp only [List.getElem?_toArray, List.getElem?_cons_succ, List.getElem?_cons_zero]; rfl
            go_simp; go_at_call 81; refine (refBase_any p _ _ rfl hp).mono ?_; rintro e w5 ⟨rfl, hb5⟩; go_wp2_with fail
            refine hK.out _ _ (hb5) (fun _ => ?_)
            clear hK K hHeld
            refine wpAnyH_change (S' := fun w' => Below (w5).heap.size (w5) w') (fun w' h => (hb5).trans (h.mono (hb5).size)) _ _ _ _ ?_
            have hHeld : Below (w5).heap.size (w5) (w5) := Below.refl _ _
            try simp only [Act.put, List.setIfInBounds_toArray, List.set_cons_zero, List.set_cons_succ]
            have B5 := Lib.hid (B3.out.drew.trans (hb5.mono B3.out.size))
            clear hb5
            refine wpAnyH_ready (rs := [4]) (by kernel_rfl) (by simp) ?_
            refine AllReadyH.cons (o := ?oi5) ?hi5 (fun K hK => ?_) AllReadyH.nil
            case hi5 => simp only [List.getElem?_toArray, List.getElem?_cons_succ, List.getElem?_cons_zero]; rfl
            go_simp; go_at_call 80; refine (refMatch_any s (str (baseB p.data.toList)) _ hr hbl).mono ?_; rintro e w6 ⟨rfl, hb6⟩; go_wp2_with fail
            refine hK.out _ _ (hb6) (fun _ => ?_)
            clear hK K hHeld
            refine wpAnyH_change (S' := fun w' => Below (w6).heap.size (w6) w') (fun w' h => (hb6).trans (h.mono (hb6).size)) _ _ _ _ ?_
            have hHeld : Below (w6).heap.size (w6) (w6) := Below.refl _ _
            try simp only [Act.put, List.setIfInBounds_toArray, List.set_cons_zero, List.set_cons_succ]
            have B6 := Lib.hid (B5.out.trans (hb6.mono B5.out.size))
            clear hb6
            refine wpAnyH_take (i := 5) (oi := ?oi6) (v := ?v6) ?hi6 ?hs6 ?hf6 ?hr6 ?hQ6 (Or.inl ⟨?hg6, ?hy6⟩) hHeld ?rest6
            case hi6 => simp only [List.getElem?_toArray, List.getElem?_cons_succ, List.getElem?_cons_zero]; rfl
            case hs6 => kernel_rfl
            case hf6 => kernel_rfl
            case hr6 => kernel_rfl
            case hg6 => rfl
            case hy6 => (intro w hSw; first | (go_simp; done) | (go_simp; with_reducible rfl))
            case hQ6 => exact fun _ _ _ h => h
            try simp only [Act.put, List.setIfInBounds_toArray, List.set_cons_zero, List.set_cons_succ]
            refine wpAnyH_done (by kernel_rfl) ?_ _
            clear hHeld
            rw [mG_of2]
            generalize mG s.data.toList (baseB p.data.toList) = Y at *
            go_wp2_with fail
            go_ret
            exact ⟨by rw [K.out]; rfl, B6.out⟩
        · clear hdd
          cases d with
          | false =>
            go_wp2_with fail
            refine (HWL.out _).mono ?_
            rintro e w3 ⟨rfl, hb3⟩
            have N3 := Lib.hid (N2.out.below hb3)
            have B3 := Lib.hid (B2.out.trans (hb3.mono B2.out.size))
            clear hb3 c0 c1 c2 c3
            have c1 := N3.out.cell 1
            rw [show ([.int .i64 a, .string s, .bool false, .bool an] : List Value)[1]? = some (.string s) from rfl] at c1
            cases wh with
            | true =>
              have K := Lib.hid (show X = mG s.data.toList p.data.toList by rw [← HX3.out]; exact if_pos rfl)
              go_wp2_with fail
              refine (refMatch_any s p _ hr (by omega)).mono ?_
              rintro e w4 ⟨rfl, hb4⟩
              rw [mG_of]
              have B4 := Lib.hid (B3.out.trans (hb4.mono B3.out.size))
              clear hb4
              generalize mG s.data.toList p.data.toList = Y at *
              go_wp2_with fail
              go_ret
              exact ⟨by rw [K.out]; rfl, B4.out⟩
            | false =>
              have K := Lib.hid (show X = mG s.data.toList (baseB p.data.toList) by rw [← HX3.out]; exact if_neg (by decide))
              have hbl : (str (baseB p.data.toList)).size ≤ 140737488355328 := by
                rw [str_size]; unfold baseB; rw [List.length_drop, size_len]; omega
              have hbs : (str (baseB p.data.toList)).data.toList = baseB p.data.toList := str_data _
              go_wp2_with fail
              refine wp_region_held_drew (S := fun w' => Below (w3.drew).heap.size (w3.drew) w') (by kernel_rfl) (Below.refl _ _) (fun hHeld => ?_)
              refine wpAnyH_take (i := 0) (oi := ?oi7) (v := ?v7) ?hi7 ?hs7 ?hf7 ?hr7 ?hQ7 (Or.inl ⟨?hg7, ?hy7⟩) hHeld ?rest7
              case hi7 => simp only [List.getElem?_toArray, List.getElem?_cons_succ, List.getElem?_cons_zero]; rfl
              case hs7 => kernel_rfl
              case hf7 => kernel_rfl
              case hr7 => kernel_rfl
              case hg7 => rfl
              case hy7 => (intro w hSw; first | (go_simp; done) | (go_simp; with_reducible rfl))
              case hQ7 => exact fun _ _ _ h => h
              try simp only [Act.put, List.setIfInBounds_toArray, List.set_cons_zero, List.set_cons_succ]
              refine wpAnyH_take (i := 1) (oi := ?oi8) (v := ?v8) ?hi8 ?hs8 ?hf8 ?hr8 ?hQ8 (Or.inl ⟨?hg8, ?hy8⟩) hHeld ?rest8
              case hi8 => simp only [List.getElem?_toArray, List.getElem?_cons_succ, List.getElem?_cons_zero]; rfl
              case hs8 => kernel_rfl
              case hf8 => kernel_rfl
              case hr8 => kernel_rfl
              case hg8 => rfl
              case hy8 => (intro w hSw; have x0 := cell_below c1 ((Below.refl _ _).drew.trans hSw); first | (go_simp; done) | (go_simp; with_reducible rfl))
              case hQ8 => exact fun _ _ _ h => h
              try simp only [Act.put, List.setIfInBounds_toArray, List.set_cons_zero, List.set_cons_succ]
              refine wpAnyH_take (i := 2) (oi := ?oi9) (v := ?v9) ?hi9 ?hs9 ?hf9 ?hr9 ?hQ9 (Or.inl ⟨?hg9, ?hy9⟩) hHeld ?rest9
              case hi9 => simp only [List.getElem?_toArray, List.getElem?_cons_succ, List.getElem?_cons_zero]; rfl
              case hs9 => kernel_rfl
              case hf9 => kernel_rfl
              case hr9 => kernel_rfl
              case hg9 => rfl
              case hy9 => (intro w hSw; first | (go_simp; done) | (go_simp; with_reducible rfl))
              case hQ9 => exact fun _ _ _ h => h
              try simp only [Act.put, List.setIfInBounds_toArray, List.set_cons_zero, List.set_cons_succ]
              refine wpAnyH_ready (rs := [3]) (by kernel_rfl) (by simp) ?_
              refine AllReadyH.cons (o := ?oi10) ?hi10 (fun K hK => ?_) AllReadyH.nil
              case hi10 => simp only [List.getElem?_toArray, List.getElem?_cons_succ, List.getElem?_cons_zero]; rfl
              go_simp; go_at_call 81; refine (refBase_any p _ _ rfl hp).mono ?_; rintro e w5 ⟨rfl, hb5⟩; go_wp2_with fail
              refine hK.out _ _ (hb5) (fun _ => ?_)
              clear hK K hHeld
              refine wpAnyH_change (S' := fun w' => Below (w5).heap.size (w5) w') (fun w' h => (hb5).trans (h.mono (hb5).size)) _ _ _ _ ?_
              have hHeld : Below (w5).heap.size (w5) (w5) := Below.refl _ _
              try simp only [Act.put, List.setIfInBounds_toArray, List.set_cons_zero, List.set_cons_succ]
              have B5 := Lib.hid (B3.out.drew.trans (hb5.mono B3.out.size))
              clear hb5
              refine wpAnyH_ready (rs := [4]) (by kernel_rfl) (by simp) ?_
              refine AllReadyH.cons (o := ?oi11) ?hi11 (fun K hK => ?_) AllReadyH.nil
              case hi11 => simp only [List.getElem?_toArray, List.getElem?_cons_succ, List.getElem?_cons_zero]; rfl
              go_simp; go_at_call 80; refine (refMatch_any s (str (baseB p.data.toList)) _ hr hbl).mono ?_; rintro e w6 ⟨rfl, hb6⟩; go_wp2_with fail
              refine hK.out _ _ (hb6) (fun _ => ?_)
              clear hK K hHeld
              refine wpAnyH_change (S' := fun w' => Below (w6).heap.size (w6) w') (fun w' h => (hb6).trans (h.mono (hb6).size)) _ _ _ _ ?_
              have hHeld : Below (w6).heap.size (w6) (w6) := Below.refl _ _
              try simp only [Act.put, List.setIfInBounds_toArray, List.set_cons_zero, List.set_cons_succ]
              have B6 := Lib.hid (B5.out.trans (hb6.mono B5.out.size))
              clear hb6
              refine wpAnyH_take (i := 5) (oi := ?oi12) (v := ?v12) ?hi12 ?hs12 ?hf12 ?hr12 ?hQ12 (Or.inl ⟨?hg12, ?hy12⟩) hHeld ?rest12
              case hi12 => simp only [List.getElem?_toArray, List.getElem?_cons_succ, List.getElem?_cons_zero]; rfl
              case hs12 => kernel_rfl
              case hf12 => kernel_rfl
              case hr12 => kernel_rfl
              case hg12 => rfl
              case hy12 => (intro w hSw; first | (go_simp; done) | (go_simp; with_reducible rfl))
              case hQ12 => exact fun _ _ _ h => h
              try simp only [Act.put, List.setIfInBounds_toArray, List.set_cons_zero, List.set_cons_succ]
              refine wpAnyH_done (by kernel_rfl) ?_ _
              clear hHeld
              rw [mG_of2]
              generalize mG s.data.toList (baseB p.data.toList) = Y at *
              go_wp2_with fail
              go_ret
              exact ⟨by rw [K.out]; rfl, B6.out⟩
          | true =>
            go_wp2_with fail
            refine (HWL.out _).mono ?_
            rintro e w3 ⟨rfl, hb3⟩
            have N3 := Lib.hid (N2.out.below hb3)
            have B3 := Lib.hid (B2.out.trans (hb3.mono B2.out.size))
            clear hb3 c0 c1 c2 c3
            have c1 := N3.out.cell 1
            rw [show ([.int .i64 a, .string s, .bool true, .bool an] : List Value)[1]? = some (.string s) from rfl] at c1
            cases wh with
            | true =>
              have K := Lib.hid (show X = mG s.data.toList p.data.toList by rw [← HX3.out]; exact if_pos rfl)
              go_wp2_with fail
              refine (refMatch_any s p _ hr (by omega)).mono ?_
              rintro e w4 ⟨rfl, hb4⟩
              rw [mG_of]
              have B4 := Lib.hid (B3.out.trans (hb4.mono B3.out.size))
              clear hb4
              generalize mG s.data.toList p.data.toList = Y at *
              go_wp2_with fail
              go_ret
              exact ⟨by rw [K.out]; rfl, B4.out⟩
            | false =>
              have K := Lib.hid (show X = mG s.data.toList (baseB p.data.toList) by rw [← HX3.out]; exact if_neg (by decide))
              have hbl : (str (baseB p.data.toList)).size ≤ 140737488355328 := by
                rw [str_size]; unfold baseB; rw [List.length_drop, size_len]; omega
              have hbs : (str (baseB p.data.toList)).data.toList = baseB p.data.toList := str_data _
              go_wp2_with fail
              refine wp_region_held_drew (S := fun w' => Below (w3.drew).heap.size (w3.drew) w') (by kernel_rfl) (Below.refl _ _) (fun hHeld => ?_)
              refine wpAnyH_take (i := 0) (oi := ?oi13) (v := ?v13) ?hi13 ?hs13 ?hf13 ?hr13 ?hQ13 (Or.inl ⟨?hg13, ?hy13⟩) hHeld ?rest13
              case hi13 => simp only [List.getElem?_toArray, List.getElem?_cons_succ, List.getElem?_cons_zero]; rfl
              case hs13 => kernel_rfl
              case hf13 => kernel_rfl
              case hr13 => kernel_rfl
              case hg13 => rfl
              case hy13 => (intro w hSw; first | (go_simp; done) | (go_simp; with_reducible rfl))
              case hQ13 => exact fun _ _ _ h => h
              try simp only [Act.put, List.setIfInBounds_toArray, List.set_cons_zero, List.set_cons_succ]
              refine wpAnyH_take (i := 1) (oi := ?oi14) (v := ?v14) ?hi14 ?hs14 ?hf14 ?hr14 ?hQ14 (Or.inl ⟨?hg14, ?hy14⟩) hHeld ?rest14
              case hi14 => simp only [List.getElem?_toArray, List.getElem?_cons_succ, List.getElem?_cons_zero]; rfl
              case hs14 => kernel_rfl
              case hf14 => kernel_rfl
              case hr14 => kernel_rfl
              case hg14 => rfl
              case hy14 => (intro w hSw; have x0 := cell_below c1 ((Below.refl _ _).drew.trans hSw); first | (go_simp; done) | (go_simp; with_reducible rfl))
              case hQ14 => exact fun _ _ _ h => h
              try simp only [Act.put, List.setIfInBounds_toArray, List.set_cons_zero, List.set_cons_succ]
              refine wpAnyH_take (i := 2) (oi := ?oi15) (v := ?v15) ?hi15 ?hs15 ?hf15 ?hr15 ?hQ15 (Or.inl ⟨?hg15, ?hy15⟩) hHeld ?rest15
              case hi15 => simp only [List.getElem?_toArray, List.getElem?_cons_succ, List.getElem?_cons_zero]; rfl
              case hs15 => kernel_rfl
              case hf15 => kernel_rfl
              case hr15 => kernel_rfl
              case hg15 => rfl
              case hy15 => (intro w hSw; first | (go_simp; done) | (go_simp; with_reducible rfl))
              case hQ15 => exact fun _ _ _ h => h
              try simp only [Act.put, List.setIfInBounds_toArray, List.set_cons_zero, List.set_cons_succ]
              refine wpAnyH_ready (rs := [3]) (by kernel_rfl) (by simp) ?_
              refine AllReadyH.cons (o := ?oi16) ?hi16 (fun K hK => ?_) AllReadyH.nil
              case hi16 => simp only [List.getElem?_toArray, List.getElem?_cons_succ, List.getElem?_cons_zero]; rfl
              go_simp; go_at_call 81; refine (refBase_any p _ _ rfl hp).mono ?_; rintro e w5 ⟨rfl, hb5⟩; go_wp2_with fail
              refine hK.out _ _ (hb5) (fun _ => ?_)
              clear hK K hHeld
              refine wpAnyH_change (S' := fun w' => Below (w5).heap.size (w5) w') (fun w' h => (hb5).trans (h.mono (hb5).size)) _ _ _ _ ?_
              have hHeld : Below (w5).heap.size (w5) (w5) := Below.refl _ _
              try simp only [Act.put, List.setIfInBounds_toArray, List.set_cons_zero, List.set_cons_succ]
              have B5 := Lib.hid (B3.out.drew.trans (hb5.mono B3.out.size))
              clear hb5
              refine wpAnyH_ready (rs := [4]) (by kernel_rfl) (by simp) ?_
              refine AllReadyH.cons (o := ?oi17) ?hi17 (fun K hK => ?_) AllReadyH.nil
              case hi17 => simp only [List.getElem?_toArray, List.getElem?_cons_succ, List.getElem?_cons_zero]; rfl
              go_simp; go_at_call 80; refine (refMatch_any s (str (baseB p.data.toList)) _ hr hbl).mono ?_; rintro e w6 ⟨rfl, hb6⟩; go_wp2_with fail
              refine hK.out _ _ (hb6) (fun _ => ?_)
              clear hK K hHeld
              refine wpAnyH_change (S' := fun w' => Below (w6).heap.size (w6) w') (fun w' h => (hb6).trans (h.mono (hb6).size)) _ _ _ _ ?_
              have hHeld : Below (w6).heap.size (w6) (w6) := Below.refl _ _
              try simp only [Act.put, List.setIfInBounds_toArray, List.set_cons_zero, List.set_cons_succ]
              have B6 := Lib.hid (B5.out.trans (hb6.mono B5.out.size))
              clear hb6
              refine wpAnyH_take (i := 5) (oi := ?oi18) (v := ?v18) ?hi18 ?hs18 ?hf18 ?hr18 ?hQ18 (Or.inl ⟨?hg18, ?hy18⟩) hHeld ?rest18
              case hi18 => simp only [List.getElem?_toArray, List.getElem?_cons_succ, List.getElem?_cons_zero]; rfl
              case hs18 => kernel_rfl
              case hf18 => kernel_rfl
              case hr18 => kernel_rfl
              case hg18 => rfl
              case hy18 => (intro w hSw; first | (go_simp; done) | (go_simp; with_reducible rfl))
              case hQ18 => exact fun _ _ _ h => h
              try simp only [Act.put, List.setIfInBounds_toArray, List.set_cons_zero, List.set_cons_succ]
              refine wpAnyH_done (by kernel_rfl) ?_ _
              clear hHeld
              rw [mG_of2]
              generalize mG s.data.toList (baseB p.data.toList) = Y at *
              go_wp2_with fail
              go_ret
              exact ⟨by rw [K.out]; rfl, B6.out⟩
end Go.Proofs.Ytcagonpnjionhaa

/-! What the first rule that matches says. Both sides. -/
set_option linter.unusedVariables false
set_option linter.unusedSimpArgs false
namespace Go.Proofs.Ytcagonpnjionhaa
open Go.RowKit

def gateU (drop : Bool) (r : Ru) : Bool := drop || (r.act == 1 || r.act == 2)
def actU : List Ru → List UInt8 → Bool → Bool → Int
  | [], _, _, _ => 0
  | r :: l, p, dir, drop => if (gateU drop r && matchesU r p dir) = true then r.act else actU l p dir drop
theorem encUs_at : ∀ {L : List Ru} {i : Nat} {x : Ru}, L[i]? = some x → ∀ j v, (encU x)[j]? = some v → (encUs L)[i * 4 + j]? = some v
  | [], _, _, h, _, _, _ => by simp at h
  | y :: L, 0, x, h, j, v, hv => by
    simp only [List.getElem?_cons_zero, Option.some.injEq] at h
    subst h
    show (encU y ++ encUs L)[0 * 4 + j]? = _
    rw [Nat.zero_mul, Nat.zero_add, List.getElem?_append_left (List.getElem?_eq_some_iff.1 hv).1]
    exact hv
  | y :: L, i+1, x, h, j, v, hv => by
    simp only [List.getElem?_cons_succ] at h
    show (encU y ++ encUs L)[(i + 1) * 4 + j]? = _
    have hl : (encU y).length = 4 := rfl
    rw [List.getElem?_append_right (by omega), hl, show (i + 1) * 4 + j - 4 = i * 4 + j by omega]
    exact encUs_at h j v hv
theorem encUs_len (L : List Ru) : (encUs L).length = L.length * 4 := by
  induction L with
  | nil => rfl
  | cons y L ih =>
    show (encU y ++ encUs L).length = _
    rw [List.length_append, ih, List.length_cons, show (encU y).length = 4 from rfl]; omega
theorem Sl.ruRow {w : World} {A : Option Addr} {n : Nat} {L : List Ru} (h : Sl 4 w A n (encUs L)) {i : Nat} (hi : i < n) :
    ∃ (b o : Nat) (x : Ru), A = some ⟨b, o, none⟩ ∧ L[i]? = some x ∧ SgAt w b (o + i * 4) (encU x) := by
  have hl : L.length = n := by have := h.len; rw [encUs_len] at this; omega
  have hx : L[i]? = some (L[i]'(by omega)) := List.getElem?_eq_getElem (by omega)
  rcases h.at_ with h0 | ⟨b, o, rfl, hc⟩
  · have : (encUs L).length = 0 := by rw [h0]; rfl
    rw [encUs_len] at this; omega
  · exact ⟨b, o, _, rfl, hx, fun j v hv => by have := hc _ v (encUs_at hx j v hv); rwa [← Nat.add_assoc] at this⟩
theorem actU_drop {L : List Ru} {i : Nat} {r : Ru} {p : List UInt8} {dir drop : Bool} (h : L[i]? = some r) : actU (L.drop i) p dir drop = if (gateU drop r && matchesU r p dir) = true then r.act else actU (L.drop (i + 1)) p dir drop := by
  obtain ⟨hi, he⟩ := List.getElem?_eq_some_iff.1 h
  rw [List.drop_eq_getElem_cons hi, he, actU]
theorem actU_end {L : List Ru} {i : Nat} {p : List UInt8} {dir drop : Bool} (h : L.length ≤ i) : actU (L.drop i) p dir drop = 0 := by rw [List.drop_of_length_le h]; rfl
theorem matchesU_act {r : Ru} {p : List UInt8} {dir : Bool} (h : matchesU r p dir = true) : 1 ≤ r.act ∧ r.act ≤ 4 := by
  unfold matchesU at h
  cases hk : okU r with
  | false => rw [hk] at h; cases h
  | true =>
    unfold okU chkU at hk
    cases ha : actOk r.act with
    | false => rw [ha] at hk; cases hk
    | true =>
      unfold actOk at ha
      rw [Bool.and_eq_true, decide_eq_true_eq, decide_eq_true_eq] at ha
      exact ha
set_option maxRecDepth 100000 in
set_option maxHeartbeats 4000000 in
theorem act_any (A : Option Addr) (n c : Nat) (L : List Ru) (p : ByteArray) (dir drop : Bool) (w : World) (hs : Sl 4 w A n (encUs L)) (hL : ∀ r ∈ L, r.pat.size ≤ 140737488355328) (hp : p.size ≤ 2097152) :
    Calls Try.prog 31 #[.slice A n c, .string p, .bool dir, .bool drop] w fun e w' => e = .returned (.int .i64 (actU L p.data.toList dir drop)) ∧ Below w.heap.size w w' := by
  obtain ⟨X, hX⟩ : ∃ X, actU L p.data.toList dir drop = X := ⟨_, rfl⟩
  have HX := Lib.hid hX
  rw [hX]
  clear hX
  have HS := Lib.hid hs
  have HL := Lib.hid hL
  have hln : L.length = n := by have := hs.len; rw [encUs_len] at this; omega
  have HLN := Lib.hid hln
  have hnm := hs.max
  clear hs hL hln
  go_enter Try.func31, Try.ntmps31
  go_wp2_with fail
  go_loopw [13] (fun v wr => ∃ i : Nat, v = .int .i64 i ∧ i ≤ n ∧ actU (L.drop i) p.data.toList dir drop = X ∧ Below w.heap.size w wr) (fun v _ => n - (intOf v).toNat)
  case atStart => exact ⟨0, rfl, Nat.zero_le _, HX.out, Below.refl _ _⟩
  case round =>
    obtain ⟨i, rfl, hi, hat, hb⟩ := hrel
    have HAT := Lib.hid hat
    have HB := Lib.hid hb
    clear hat
    rcases Nat.lt_or_ge i n with h | h
    · obtain ⟨b, o, r, hA, hr, hsg⟩ := (HS.out.below hb).ruRow h
      have KD := Lib.hid (actU_drop (p := p.data.toList) (dir := dir) (drop := drop) hr)
      have HMT := Lib.hid (fun w => matches_any r p dir w (HL.out r (List.mem_of_getElem? hr)) hp)
      have HMA := Lib.hid (fun h => matchesU_act (r := r) (p := p.data.toList) (dir := dir) h)
      generalize hmt : matchesU r p.data.toList dir = mt at *
      clear hmt hr
      obtain ⟨a, s, d, an⟩ := r
      have HMT : Hid (∀ w, Calls Try.prog 45 #[.agg #[.int .i64 a, .string s, .bool d, .bool an], .string p, .bool dir] w fun e w' => e = .returned (.bool mt) ∧ Below w.heap.size w w') := HMT
      have KD : Hid (actU (L.drop i) p.data.toList dir drop = if ((drop || (a == 1 || a == 2)) && mt) = true then a else actU (L.drop (i + 1)) p.data.toList dir drop) := KD
      have HMA : Hid (mt = true → 1 ≤ a ∧ a ≤ 4) := HMA
      have k0 : wr.cell? ⟨b, o + i * 4, none⟩ = some (.int .i64 a) := hsg 0 _ rfl
      have k1 : wr.cell? ⟨b, o + i * 4 + 1, none⟩ = some (.string s) := hsg 1 _ rfl
      have k2 : wr.cell? ⟨b, o + i * 4 + 2, none⟩ = some (.bool d) := hsg 2 _ rfl
      have k3 : wr.cell? ⟨b, o + i * 4 + 3, none⟩ = some (.bool an) := hsg 3 _ rfl
      have hi2 : (i : Int) < (n : Int) := by omega
      rw [hA]
      clear hsg hA
      have n2 := Blk.newA wr 48 #[.int .i64 a, .string s, .bool d, .bool an]
      have N3 := Lib.hid n2
      have hb3 : Below wr.heap.size wr (wr.alloc (.cells #[.int .i64 a, .string s, .bool d, .bool an] 48)) := (Below.refl _ _).alloc (Nat.le_refl _) _
      have B3 := Lib.hid (HB.out.trans (hb3.mono HB.out.size))
      clear n2 hb3 hb
      cases drop with
      | true =>
        go_wp2_with fail
        refine (HMT.out _).mono ?_
        rintro e w4 ⟨rfl, hb4⟩
        have N4 := Lib.hid (N3.out.below hb4)
        have B4 := Lib.hid (B3.out.trans (hb4.mono B3.out.size))
        clear hb4
        have c0 := N4.out.cell 0
        rw [show ([.int .i64 a, .string s, .bool d, .bool an] : List Value)[0]? = some (.int .i64 a) from rfl] at c0
        clear k0 k1 k2 k3
        cases mt with
        | true =>
          have K := Lib.hid (show X = a by rw [← HAT.out, KD.out]; exact if_pos (by rfl))
          go_wp2_with fail
          go_ret
          exact ⟨by rw [K.out]; rfl, B4.out⟩
        | false =>
          have K := Lib.hid (show actU (L.drop (i + 1)) p.data.toList dir true = X by rw [← HAT.out, KD.out]; exact (if_neg (by rw [Bool.and_false]; decide)).symm)
          go_wp2_with fail
          go_roundw
          case rel => exact ⟨i + 1, by go_num, by omega, K.out, B4.out⟩
          case measure => simp [intOf] <;> omega
      | false =>
        by_cases q1 : a = 1
        · subst q1
          go_wp2_with fail
          refine (HMT.out _).mono ?_
          rintro e w4 ⟨rfl, hb4⟩
          have N4 := Lib.hid (N3.out.below hb4)
          have B4 := Lib.hid (B3.out.trans (hb4.mono B3.out.size))
          clear hb4
          have c0 := N4.out.cell 0
          rw [show ([.int .i64 1, .string s, .bool d, .bool an] : List Value)[0]? = some (.int .i64 1) from rfl] at c0
          clear k0 k1 k2 k3
          cases mt with
          | true =>
            have K := Lib.hid (show X = 1 by rw [← HAT.out, KD.out]; exact if_pos (by rfl))
            go_wp2_with fail
            go_ret
            exact ⟨by rw [K.out]; rfl, B4.out⟩
          | false =>
            have K := Lib.hid (show actU (L.drop (i + 1)) p.data.toList dir false = X by rw [← HAT.out, KD.out]; exact (if_neg (by rw [Bool.and_false]; decide)).symm)
            go_wp2_with fail
            go_roundw
            case rel => exact ⟨i + 1, by go_num, by omega, K.out, B4.out⟩
            case measure => simp [intOf] <;> omega
        by_cases q2 : a = 2
        · subst q2
          go_wp2_with fail
          refine (HMT.out _).mono ?_
          rintro e w4 ⟨rfl, hb4⟩
          have N4 := Lib.hid (N3.out.below hb4)
          have B4 := Lib.hid (B3.out.trans (hb4.mono B3.out.size))
          clear hb4
          have c0 := N4.out.cell 0
          rw [show ([.int .i64 2, .string s, .bool d, .bool an] : List Value)[0]? = some (.int .i64 2) from rfl] at c0
          clear k0 k1 k2 k3
          cases mt with
          | true =>
            have K := Lib.hid (show X = 2 by rw [← HAT.out, KD.out]; exact if_pos (by rfl))
            go_wp2_with fail
            go_ret
            exact ⟨by rw [K.out]; rfl, B4.out⟩
          | false =>
            have K := Lib.hid (show actU (L.drop (i + 1)) p.data.toList dir false = X by rw [← HAT.out, KD.out]; exact (if_neg (by rw [Bool.and_false]; decide)).symm)
            go_wp2_with fail
            go_roundw
            case rel => exact ⟨i + 1, by go_num, by omega, K.out, B4.out⟩
            case measure => simp [intOf] <;> omega
        have y1 : (a == 1) = false := by rw [beq_eq_false_iff_ne]; exact q1
        have y2 : (a == 2) = false := by rw [beq_eq_false_iff_ne]; exact q2
        clear q1 q2
        have K := Lib.hid (show actU (L.drop (i + 1)) p.data.toList dir false = X by rw [← HAT.out, KD.out]; exact (if_neg (by rw [y1, y2]; simp)).symm)
        have c0 := N3.out.cell 0
        rw [show ([.int .i64 a, .string s, .bool d, .bool an] : List Value)[0]? = some (.int .i64 a) from rfl] at c0
        go_wp2_with fail
        go_roundw
        case rel => exact ⟨i + 1, by go_num, by omega, K.out, B3.out⟩
        case measure => simp [intOf] <;> omega
    · obtain rfl : i = n := by omega
      have K := Lib.hid (show X = 0 by rw [← HAT.out]; exact actU_end (by rw [HLN.out]; exact Nat.le_refl _))
      have hin : ¬ ((i : Int) < (i : Int)) := by omega
      clear hi h hb
      go_wp2_with fail
      go_ret
      exact ⟨by rw [K.out]; rfl, HB.out⟩
set_option maxRecDepth 100000 in
set_option maxHeartbeats 4000000 in
theorem refAct_any (A : Option Addr) (n c : Nat) (L : List Ru) (p : ByteArray) (dir drop : Bool) (w : World) (hs : Sl 4 w A n (encUs L)) (hL : ∀ r ∈ L, r.pat.size ≤ 140737488355328) (hp : p.size ≤ 2097152) :
    Calls Try.prog 63 #[.slice A n c, .string p, .bool dir, .bool drop] w fun e w' => e = .returned (.int .i64 (actU L p.data.toList dir drop)) ∧ Below w.heap.size w w' := by
  obtain ⟨X, hX⟩ : ∃ X, actU L p.data.toList dir drop = X := ⟨_, rfl⟩
  have HX := Lib.hid hX
  rw [hX]
  clear hX
  have HS := Lib.hid hs
  have HL := Lib.hid hL
  have hln : L.length = n := by have := hs.len; rw [encUs_len] at this; omega
  have HLN := Lib.hid hln
  have hnm := hs.max
  clear hs hL hln
  go_enter Try.func63, Try.ntmps63
  go_wp2_with fail
  go_loopw [13] (fun v wr => ∃ i : Nat, v = .int .i64 i ∧ i ≤ n ∧ actU (L.drop i) p.data.toList dir drop = X ∧ Below w.heap.size w wr) (fun v _ => n - (intOf v).toNat)
  case atStart => exact ⟨0, rfl, Nat.zero_le _, HX.out, Below.refl _ _⟩
  case round =>
    obtain ⟨i, rfl, hi, hat, hb⟩ := hrel
    have HAT := Lib.hid hat
    have HB := Lib.hid hb
    clear hat
    rcases Nat.lt_or_ge i n with h | h
    · obtain ⟨b, o, r, hA, hr, hsg⟩ := (HS.out.below hb).ruRow h
      have KD := Lib.hid (actU_drop (p := p.data.toList) (dir := dir) (drop := drop) hr)
      have HMT := Lib.hid (fun w => refMatches_any r p dir w (HL.out r (List.mem_of_getElem? hr)) hp)
      have HMA := Lib.hid (fun h => matchesU_act (r := r) (p := p.data.toList) (dir := dir) h)
      generalize hmt : matchesU r p.data.toList dir = mt at *
      clear hmt hr
      obtain ⟨a, s, d, an⟩ := r
      have HMT : Hid (∀ w, Calls Try.prog 74 #[.agg #[.int .i64 a, .string s, .bool d, .bool an], .string p, .bool dir] w fun e w' => e = .returned (.bool mt) ∧ Below w.heap.size w w') := HMT
      have KD : Hid (actU (L.drop i) p.data.toList dir drop = if ((drop || (a == 1 || a == 2)) && mt) = true then a else actU (L.drop (i + 1)) p.data.toList dir drop) := KD
      have HMA : Hid (mt = true → 1 ≤ a ∧ a ≤ 4) := HMA
      have k0 : wr.cell? ⟨b, o + i * 4, none⟩ = some (.int .i64 a) := hsg 0 _ rfl
      have k1 : wr.cell? ⟨b, o + i * 4 + 1, none⟩ = some (.string s) := hsg 1 _ rfl
      have k2 : wr.cell? ⟨b, o + i * 4 + 2, none⟩ = some (.bool d) := hsg 2 _ rfl
      have k3 : wr.cell? ⟨b, o + i * 4 + 3, none⟩ = some (.bool an) := hsg 3 _ rfl
      have hi2 : (i : Int) < (n : Int) := by omega
      rw [hA]
      clear hsg hA
      have n2 := Blk.newA wr 48 #[.int .i64 a, .string s, .bool d, .bool an]
      have N3 := Lib.hid n2
      have hb3 : Below wr.heap.size wr (wr.alloc (.cells #[.int .i64 a, .string s, .bool d, .bool an] 48)) := (Below.refl _ _).alloc (Nat.le_refl _) _
      have B3 := Lib.hid (HB.out.trans (hb3.mono HB.out.size))
      clear n2 hb3 hb
      cases drop with
      | true =>
        go_wp2_with fail
        refine (HMT.out _).mono ?_
        rintro e w4 ⟨rfl, hb4⟩
        have N4 := Lib.hid (N3.out.below hb4)
        have B4 := Lib.hid (B3.out.trans (hb4.mono B3.out.size))
        clear hb4
        have c0 := N4.out.cell 0
        rw [show ([.int .i64 a, .string s, .bool d, .bool an] : List Value)[0]? = some (.int .i64 a) from rfl] at c0
        clear k0 k1 k2 k3
        cases mt with
        | true =>
          have K := Lib.hid (show X = a by rw [← HAT.out, KD.out]; exact if_pos (by rfl))
          go_wp2_with fail
          go_ret
          exact ⟨by rw [K.out]; rfl, B4.out⟩
        | false =>
          have K := Lib.hid (show actU (L.drop (i + 1)) p.data.toList dir true = X by rw [← HAT.out, KD.out]; exact (if_neg (by rw [Bool.and_false]; decide)).symm)
          go_wp2_with fail
          go_roundw
          case rel => exact ⟨i + 1, by go_num, by omega, K.out, B4.out⟩
          case measure => simp [intOf] <;> omega
      | false =>
        rcases Int.lt_or_le a 3 with q1 | q1
        · have GT := Lib.hid (show mt = true → ((false || (a == 1 || a == 2)) && mt) = true from fun h => by
            have := HMA.out h
            have h12 : a = 1 ∨ a = 2 := by omega
            rw [h]; rcases h12 with h | h <;> rw [h] <;> rfl)
          go_wp2_with fail
          refine (HMT.out _).mono ?_
          rintro e w4 ⟨rfl, hb4⟩
          have N4 := Lib.hid (N3.out.below hb4)
          have B4 := Lib.hid (B3.out.trans (hb4.mono B3.out.size))
          clear hb4
          have c0 := N4.out.cell 0
          rw [show ([.int .i64 a, .string s, .bool d, .bool an] : List Value)[0]? = some (.int .i64 a) from rfl] at c0
          clear k0 k1 k2 k3
          cases mt with
          | true =>
            have K := Lib.hid (show X = a by rw [← HAT.out, KD.out]; exact if_pos (GT.out rfl))
            go_wp2_with fail
            go_ret
            exact ⟨by rw [K.out]; rfl, B4.out⟩
          | false =>
            have K := Lib.hid (show actU (L.drop (i + 1)) p.data.toList dir false = X by rw [← HAT.out, KD.out]; exact (if_neg (by simp)).symm)
            go_wp2_with fail
            go_roundw
            case rel => exact ⟨i + 1, by go_num, by omega, K.out, B4.out⟩
            case measure => simp [intOf] <;> omega
        have y1 : ¬ a < 3 := by omega
        have K := Lib.hid (show actU (L.drop (i + 1)) p.data.toList dir false = X by rw [← HAT.out, KD.out]; exact (if_neg (by rw [show (a == 1) = false from by rw [beq_eq_false_iff_ne]; omega, show (a == 2) = false from by rw [beq_eq_false_iff_ne]; omega]; simp)).symm)
        clear q1
        have c0 := N3.out.cell 0
        rw [show ([.int .i64 a, .string s, .bool d, .bool an] : List Value)[0]? = some (.int .i64 a) from rfl] at c0
        go_wp2_with fail
        go_roundw
        case rel => exact ⟨i + 1, by go_num, by omega, K.out, B3.out⟩
        case measure => simp [intOf] <;> omega
    · obtain rfl : i = n := by omega
      have K := Lib.hid (show X = 0 by rw [← HAT.out]; exact actU_end (by rw [HLN.out]; exact Nat.le_refl _))
      have hin : ¬ ((i : Int) < (i : Int)) := by omega
      clear hi h hb
      go_wp2_with fail
      go_ret
      exact ⟨by rw [K.out]; rfl, HB.out⟩
end Go.Proofs.Ytcagonpnjionhaa

/-! Hidden and safe paths. Both sides. -/
set_option linter.unusedVariables false
set_option linter.unusedSimpArgs false
namespace Go.Proofs.Ytcagonpnjionhaa
open Go.RowKit

def hidN (L : List Ru) : Nat → List UInt8 → Bool → Bool
  | 0, _, _ => false
  | k+1, p, dir => if p = [] then false else if actU L p dir false = 2 then true else hidN L k (parentB p) true
def hidU (L : List Ru) (p : List UInt8) (dir : Bool) : Bool := hidN L p.length p dir
def hiddenU (L : List Ru) (p : List UInt8) (dir : Bool) : Bool := rightB p && hidU L p dir
def safeU (L : List Ru) (p : List UInt8) (dir : Bool) : Bool := actU L p dir true == 3
theorem parentB_lt {p : List UInt8} (h : p ≠ []) : (parentB p).length < p.length := by
  have h1 := lastB_le p
  have h2 : 0 < p.length := List.length_pos_iff.2 h
  unfold parentB
  rw [List.length_take]; omega
theorem hidN_fuel (L : List Ru) : ∀ (k j : Nat) (p : List UInt8) (d : Bool), p.length ≤ k → p.length ≤ j → hidN L k p d = hidN L j p d
  | 0, 0, _, _, _, _ => rfl
  | 0, j+1, p, d, h, _ => by
    have : p = [] := List.length_eq_zero_iff.1 (by omega)
    subst this; rfl
  | k+1, 0, p, d, _, h => by
    have : p = [] := List.length_eq_zero_iff.1 (by omega)
    subst this; rfl
  | k+1, j+1, p, d, h1, h2 => by
    rw [hidN, hidN]
    split
    · rfl
    · rename_i hp
      have := parentB_lt hp
      rw [hidN_fuel L k j (parentB p) true (by omega) (by omega)]
theorem hidU_nil (L : List Ru) (d : Bool) : hidU L [] d = false := rfl
theorem hidU_step {L : List Ru} {p : List UInt8} {d : Bool} (h : p ≠ []) : hidU L p d = if actU L p d false = 2 then true else hidU L (parentB p) true := by
  obtain ⟨k, hk⟩ : ∃ k, p.length = k + 1 := ⟨p.length - 1, by have := List.length_pos_iff.2 h; omega⟩
  have h1 := parentB_lt h
  unfold hidU
  rw [hk, hidN, if_neg h, hidN_fuel L k (parentB p).length (parentB p) true (by omega) (by omega)]
def strSize : Value → Nat
  | .string s => s.size
  | _ => 0
theorem parentB_size (s : ByteArray) : (str (parentB s.data.toList)).size ≤ s.size := by
  show (parentB s.data.toList).toArray.size ≤ s.size
  have : (parentB s.data.toList).length ≤ s.data.toList.length := by unfold parentB; rw [List.length_take]; omega
  rw [Array.length_toList] at this
  simpa using this
theorem parentB_size_lt {s : ByteArray} (h : s.data.toList ≠ []) : (str (parentB s.data.toList)).size < s.size := by
  show (parentB s.data.toList).toArray.size < s.size
  have := parentB_lt h
  rw [Array.length_toList] at this
  simpa using this
set_option maxRecDepth 100000 in
set_option maxHeartbeats 4000000 in
theorem hidden_any (A : Option Addr) (n c : Nat) (L : List Ru) (p : ByteArray) (dir : Bool) (w : World) (hs : Sl 4 w A n (encUs L)) (hL : ∀ r ∈ L, r.pat.size ≤ 140737488355328) (hp : p.size ≤ 2097152) :
    Calls Try.prog 16 #[.slice A n c, .string p, .bool dir] w fun e w' => e = .returned (.bool (hiddenU L p.data.toList dir)) ∧ Below w.heap.size w w' := by
  obtain ⟨X, hX⟩ : ∃ X, hiddenU L p.data.toList dir = X := ⟨_, rfl⟩
  have HX : Hid ((rightB p.data.toList && hidU L p.data.toList dir) = X) := Lib.hid hX
  rw [hX]
  clear hX
  have HS := Lib.hid hs
  have HL := Lib.hid hL
  have HR := Lib.hid (fun w => right_any p _ w rfl hp)
  generalize rightB p.data.toList = rb at *
  clear hs hL
  go_enter Try.func16, Try.ntmps16
  go_wp2_with fail
  refine (HR.out _).mono ?_
  rintro e w1 ⟨rfl, hb1⟩
  have B1 := Lib.hid hb1
  clear hb1 HR
  cases rb with
  | false =>
    have K := Lib.hid (show X = false by rw [← HX.out]; rfl)
    go_wp2_with fail
    go_ret
    exact ⟨by rw [K.out]; rfl, B1.out⟩
  | true =>
    have HX : Hid (hidU L p.data.toList dir = X) := HX
    go_wp2_with fail
    go_loopw [1, 2] (fun v u wr => ∃ (q : ByteArray) (d : Bool), v = .string q ∧ u = .bool d ∧ q.size ≤ 2097152 ∧ hidU L q.data.toList d = X ∧ Below w.heap.size w wr) (fun v _ _ => strSize v)
    case atStart => exact ⟨p, dir, rfl, rfl, hp, HX.out, B1.out⟩
    case round =>
      clear B1
      obtain ⟨q, d, rfl, rfl, hq, hat, hb⟩ := hrel
      have HAT := Lib.hid hat
      have HB := Lib.hid hb
      clear hat
      by_cases q0 : q.size = 0
      · obtain rfl : q = ⟨#[]⟩ := ByteArray.ext (Array.size_eq_zero_iff.1 q0)
        have K := Lib.hid (show X = false by rw [← HAT.out]; exact hidU_nil L d)
        clear hq q0
        go_wp2_with fail
        go_ret
        exact ⟨by rw [K.out]; rfl, HB.out⟩
      · have hnil := nil_toList q q0
        have hne : q.data.toList ≠ [] := fun h => q0 (by have : q.data.toList.length = 0 := by rw [h]; rfl
                                                         rwa [Array.length_toList] at this)
        have KS := Lib.hid (hidU_step (L := L) (d := d) hne)
        have KM := Lib.hid (parentB_size_lt hne)
        have HA := Lib.hid (fun w hw => act_any A n c L q d false w (HS.out.below hw) HL.out hq)
        generalize hac : actU L q.data.toList d false = ac at *
        clear hac hb hne
        go_wp2_with fail
        refine (HA.out _ HB.out).mono ?_
        rintro e w4 ⟨rfl, hb4⟩
        have B4 := Lib.hid (HB.out.trans (hb4.mono HB.out.size))
        clear hb4 HA
        by_cases q2 : ac = 2
        · subst q2
          have K := Lib.hid (show X = true by rw [← HAT.out, KS.out]; exact if_pos rfl)
          go_wp2_with fail
          go_ret
          exact ⟨by rw [K.out]; rfl, B4.out⟩
        have y2 : (ac == 2) = false := by rw [beq_eq_false_iff_ne]; exact q2
        have K := Lib.hid (show hidU L (str (parentB q.data.toList)).data.toList true = X by rw [← HAT.out, KS.out, if_neg q2]; rfl)
        clear q2
        go_wp2_with fail
        refine (parent_any q w4 (by omega)).mono ?_
        rintro e w5 ⟨rfl, rfl⟩
        have B5 := Lib.hid B4.out
        go_wp2_with fail
        go_roundw
        case rel => exact ⟨_, true, rfl, rfl, Nat.le_trans (Nat.le_of_lt KM.out) hq, K.out, B5.out⟩
        case measure => exact KM.out
set_option maxRecDepth 100000 in
theorem safe_any (A : Option Addr) (n c : Nat) (L : List Ru) (p : ByteArray) (dir : Bool) (w : World) (hs : Sl 4 w A n (encUs L)) (hL : ∀ r ∈ L, r.pat.size ≤ 140737488355328) (hp : p.size ≤ 2097152) :
    Calls Try.prog 17 #[.slice A n c, .string p, .bool dir] w fun e w' => e = .returned (.bool (safeU L p.data.toList dir)) ∧ Below w.heap.size w w' := by
  have HA := Lib.hid (act_any A n c L p dir true w hs hL hp)
  obtain ⟨X, hX⟩ : ∃ X, safeU L p.data.toList dir = X := ⟨_, rfl⟩
  have HX : Hid ((actU L p.data.toList dir true == 3) = X) := Lib.hid hX
  rw [hX]
  clear hX hs hL
  generalize actU L p.data.toList dir true = ac at *
  go_enter Try.func17, Try.ntmps17
  go_wp2_with fail
  refine HA.out.mono ?_
  rintro e w1 ⟨rfl, hb1⟩
  have B1 := Lib.hid hb1
  clear hb1 HA
  by_cases q : ac = 3
  · subst q
    have K := Lib.hid (show X = true by rw [← HX.out]; rfl)
    go_wp2_with fail
    go_ret
    exact ⟨by rw [K.out]; rfl, B1.out⟩
  have y : (ac == 3) = false := by rw [beq_eq_false_iff_ne]; exact q
  have K := Lib.hid (show X = false by rw [← HX.out]; exact y)
  clear q
  go_wp2_with fail
  go_ret
  exact ⟨by rw [K.out]; rfl, B1.out⟩
set_option maxRecDepth 100000 in
set_option maxHeartbeats 4000000 in
theorem refHidden_any (A : Option Addr) (n c : Nat) (L : List Ru) (p : ByteArray) (dir : Bool) (w : World) (hs : Sl 4 w A n (encUs L)) (hL : ∀ r ∈ L, r.pat.size ≤ 140737488355328) (hp : p.size ≤ 2097152) :
    Calls Try.prog 49 #[.slice A n c, .string p, .bool dir] w fun e w' => e = .returned (.bool (hiddenU L p.data.toList dir)) ∧ Below w.heap.size w w' := by
  obtain ⟨X, hX⟩ : ∃ X, hiddenU L p.data.toList dir = X := ⟨_, rfl⟩
  have HX : Hid ((rightB p.data.toList && hidU L p.data.toList dir) = X) := Lib.hid hX
  rw [hX]
  clear hX
  have HS := Lib.hid hs
  have HL := Lib.hid hL
  have HR := Lib.hid (fun w => refRight_any p _ w rfl hp)
  generalize rightB p.data.toList = rb at *
  clear hs hL
  go_enter Try.func49, Try.ntmps49
  go_wp2_with fail
  refine (HR.out _).mono ?_
  rintro e w1 ⟨rfl, hb1⟩
  have B1 := Lib.hid hb1
  clear hb1 HR
  cases rb with
  | false =>
    have K := Lib.hid (show X = false by rw [← HX.out]; rfl)
    go_wp2_with fail
    go_ret
    exact ⟨by rw [K.out]; rfl, B1.out⟩
  | true =>
    have HX : Hid (hidU L p.data.toList dir = X) := HX
    go_wp2_with fail
    go_loopw [1, 2] (fun v u wr => ∃ (q : ByteArray) (d : Bool), v = .string q ∧ u = .bool d ∧ q.size ≤ 2097152 ∧ hidU L q.data.toList d = X ∧ Below w.heap.size w wr) (fun v _ _ => strSize v)
    case atStart => exact ⟨p, dir, rfl, rfl, hp, HX.out, B1.out⟩
    case round =>
      clear B1
      obtain ⟨q, d, rfl, rfl, hq, hat, hb⟩ := hrel
      have HAT := Lib.hid hat
      have HB := Lib.hid hb
      clear hat
      by_cases q0 : q.size = 0
      · obtain rfl : q = ⟨#[]⟩ := ByteArray.ext (Array.size_eq_zero_iff.1 q0)
        have K := Lib.hid (show X = false by rw [← HAT.out]; exact hidU_nil L d)
        clear hq q0
        go_wp2_with fail
        go_ret
        exact ⟨by rw [K.out]; rfl, HB.out⟩
      · have hnil := nil_toList q q0
        have hne : q.data.toList ≠ [] := fun h => q0 (by have : q.data.toList.length = 0 := by rw [h]; rfl
                                                         rwa [Array.length_toList] at this)
        have KS := Lib.hid (hidU_step (L := L) (d := d) hne)
        have KM := Lib.hid (parentB_size_lt hne)
        have HA := Lib.hid (fun w hw => refAct_any A n c L q d false w (HS.out.below hw) HL.out hq)
        generalize hac : actU L q.data.toList d false = ac at *
        clear hac hb hne
        go_wp2_with fail
        refine (HA.out _ HB.out).mono ?_
        rintro e w4 ⟨rfl, hb4⟩
        have B4 := Lib.hid (HB.out.trans (hb4.mono HB.out.size))
        clear hb4 HA
        by_cases q2 : ac = 2
        · subst q2
          have K := Lib.hid (show X = true by rw [← HAT.out, KS.out]; exact if_pos rfl)
          go_wp2_with fail
          go_ret
          exact ⟨by rw [K.out]; rfl, B4.out⟩
        have y2 : (ac == 2) = false := by rw [beq_eq_false_iff_ne]; exact q2
        have K := Lib.hid (show hidU L (str (parentB q.data.toList)).data.toList true = X by rw [← HAT.out, KS.out, if_neg q2]; rfl)
        clear q2
        go_wp2_with fail
        refine (refParent_any q _ w4 rfl (by omega)).mono ?_
        rintro e w5 ⟨rfl, hb5⟩
        have B5 := Lib.hid (B4.out.trans (hb5.mono B4.out.size))
        clear hb5
        go_wp2_with fail
        go_roundw
        case rel => exact ⟨_, true, rfl, rfl, Nat.le_trans (Nat.le_of_lt KM.out) hq, K.out, B5.out⟩
        case measure => exact KM.out
set_option maxRecDepth 100000 in
theorem refSafe_any (A : Option Addr) (n c : Nat) (L : List Ru) (p : ByteArray) (dir : Bool) (w : World) (hs : Sl 4 w A n (encUs L)) (hL : ∀ r ∈ L, r.pat.size ≤ 140737488355328) (hp : p.size ≤ 2097152) :
    Calls Try.prog 50 #[.slice A n c, .string p, .bool dir] w fun e w' => e = .returned (.bool (safeU L p.data.toList dir)) ∧ Below w.heap.size w w' := by
  have HA := Lib.hid (refAct_any A n c L p dir true w hs hL hp)
  obtain ⟨X, hX⟩ : ∃ X, safeU L p.data.toList dir = X := ⟨_, rfl⟩
  have HX : Hid ((actU L p.data.toList dir true == 3) = X) := Lib.hid hX
  rw [hX]
  clear hX hs hL
  generalize actU L p.data.toList dir true = ac at *
  go_enter Try.func50, Try.ntmps50
  go_wp2_with fail
  refine HA.out.mono ?_
  rintro e w1 ⟨rfl, hb1⟩
  have B1 := Lib.hid hb1
  clear hb1 HA
  by_cases q : ac = 3
  · subst q
    have K := Lib.hid (show X = true by rw [← HX.out]; rfl)
    go_wp2_with fail
    go_ret
    exact ⟨by rw [K.out]; rfl, B1.out⟩
  have y : (ac == 3) = false := by rw [beq_eq_false_iff_ne]; exact q
  have K := Lib.hid (show X = false by rw [← HX.out]; exact y)
  clear q
  go_wp2_with fail
  go_ret
  exact ⟨by rw [K.out]; rfl, B1.out⟩
end Go.Proofs.Ytcagonpnjionhaa
