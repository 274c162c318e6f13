import Derived.Test.YtcagonpnjionhaaQa
import Derived.Lib.Strings
import Derived.Lib.Slices
import Derived.Lib.Walk
import Derived.Lib.Bytealg
import Derived.Lib.AppendStr
/-! Paths: plain laws: what stands ahead of the last slash, and behind it; right paths; their order. -/
set_option linter.unusedVariables false
set_option linter.unusedSimpArgs false
namespace Go.Proofs.Ytcagonpnjionhaa
open Go.RowKit

/-- The place behind the last slash. -/
def lastB (l : List UInt8) : Nat := (cutN l l.length).2
def parentB (l : List UInt8) : List UInt8 := l.take (lastB l - 1)
def baseB (l : List UInt8) : List UInt8 := l.drop (lastB l)
/-- Parts, with a slash between. -/
def glueB : List (List UInt8) → List UInt8
  | [] => []
  | [x] => x
  | x :: y :: r => x ++ 47 :: glueB (y :: r)
theorem glueB_snoc : ∀ (L : List (List UInt8)) (x : List UInt8), L ≠ [] → glueB (L ++ [x]) = glueB L ++ 47 :: x
  | [], _, h => absurd rfl h
  | [a], x, _ => rfl
  | a :: b :: r, x, _ => by
    have := glueB_snoc (b :: r) x (by simp)
    simp only [List.cons_append, glueB] at this ⊢
    rw [this]; simp
theorem cutN_inv (l : List UInt8) : ∀ i, i ≤ l.length → ((cutN l i).1 = [] ↔ (cutN l i).2 = 0) ∧ (0 < (cutN l i).2 → l[(cutN l i).2 - 1]? = some 47) ∧ glueB (cutN l i).1 = l.take ((cutN l i).2 - 1)
  | 0, _ => ⟨by simp [cutN], by simp [cutN], by simp [cutN, glueB]⟩
  | i+1, h => by
    obtain ⟨h1, h2, h3⟩ := cutN_inv l i (by omega)
    obtain ⟨hle, _⟩ := cutN_le l i
    rw [cutN]
    split
    · rename_i h47
      refine ⟨by simp, fun _ => by simpa using h47, ?_⟩
      simp only [Nat.add_sub_cancel]
      by_cases hL : (cutN l i).1 = []
      · rw [hL, h1.1 hL]; simp [glueB]
      · rw [glueB_snoc _ _ hL, h3]
        have hpos : 0 < (cutN l i).2 := Nat.pos_of_ne_zero fun e => hL (h1.2 e)
        have h47' := h2 hpos
        generalize (cutN l i).2 = f at *
        have e1 : l.take i = l.take (f - 1) ++ (l.drop (f - 1)).take (i - (f - 1)) := by
          rw [← List.take_add, show f - 1 + (i - (f - 1)) = i by omega]
        rw [e1]
        congr 1
        have hf1 : f - 1 < l.length := (List.getElem?_eq_some_iff.1 h47').1
        have e2 : l.drop (f - 1) = 47 :: l.drop f := by
          rw [List.drop_eq_getElem_cons hf1, show f - 1 + 1 = f by omega]
          congr 1
          exact Option.some.inj ((List.getElem?_eq_getElem hf1).symm.trans h47')
        rw [e2, show i - (f - 1) = (i - f) + 1 by omega]; rfl
    · exact ⟨h1, h2, h3⟩
theorem splitB_ne {l : List UInt8} (h : l ≠ []) : splitB l = (cutN l l.length).1 ++ [baseB l] := by unfold splitB; rw [if_neg h]; rfl
theorem splitB_nil : splitB [] = [] := rfl
/-- The document's Parent is the program's. -/
theorem parent_glue (l : List UInt8) : (if (splitB l).length < 2 then [] else glueB ((splitB l).take ((splitB l).length - 1))) = parentB l := by
  by_cases h : l = []
  · subst h; rfl
  · obtain ⟨h1, h2, h3⟩ := cutN_inv l l.length (Nat.le_refl _)
    rw [splitB_ne h]
    have e : ((cutN l l.length).1 ++ [baseB l]).take (((cutN l l.length).1 ++ [baseB l]).length - 1) = (cutN l l.length).1 := by simp
    rw [e, h3]
    unfold parentB lastB
    split
    · rename_i h4
      have : (cutN l l.length).1 = [] := by
        cases hc : (cutN l l.length).1 with
        | nil => rfl
        | cons a r => rw [hc] at h4; simp at h4; omega
      rw [h1.1 this]; simp
    · rfl
/-- The document's Base is the program's. -/
theorem base_last (l : List UInt8) : (splitB l).getLast?.getD [] = baseB l := by
  by_cases h : l = []
  · subst h; rfl
  · rw [splitB_ne h]; simp
theorem lastB_le (l : List UInt8) : lastB l ≤ l.length := (cutN_le l l.length).1
/-- The place behind the last slash, by its two marks. -/
theorem lastB_slash {l : List UInt8} {r : Nat} (h : l[r]? = some 47) (hn : ∀ j : Nat, r < j → l[j]? ≠ some 47) : lastB l = r + 1 := by
  have hr : r < l.length := (List.getElem?_eq_some_iff.1 h).1
  have := cutN_skip l (r + 1) (l.length - (r + 1)) (fun j h1 _ => hn j (by omega))
  unfold lastB
  rw [show l.length = r + 1 + (l.length - (r + 1)) by omega, this, cutN_slash h]
theorem lastB_none {l : List UInt8} (hn : ∀ j : Nat, l[j]? ≠ some 47) : lastB l = 0 := by
  have := cutN_skip l 0 l.length (fun j _ _ => hn j)
  unfold lastB
  rw [Nat.zero_add] at this
  rw [this]; rfl

/-- May a text be a part? -/
def partOk (s : List UInt8) : Bool := decide (s ≠ []) && (decide (s.length ≤ 48) && (decide (s ≠ [46]) && (decide (s ≠ [46, 46]) && decide ((0 : UInt8) ∉ s))))
/-- Is a text a path? -/
def rightB (l : List UInt8) : Bool := (splitB l).all partOk && (decide ((splitB l).length ≤ 12) && decide (l.length ≤ 200))
theorem rightB_len {l : List UInt8} (h : rightB l = true) : l.length ≤ 200 := by
  unfold rightB at h
  simp only [Bool.and_eq_true, decide_eq_true_eq] at h
  exact h.2.2
end Go.Proofs.Ytcagonpnjionhaa

/-! Go's strings: IndexByte, Contains at one byte (laid off the shelf's templates), LastIndexByte. -/
set_option linter.unusedVariables false
set_option linter.unusedSimpArgs false
namespace Go.Proofs.Ytcagonpnjionhaa
open Go.RowKit

set_option maxHeartbeats 1000000 in
set_option maxRecDepth 100000 in
theorem slIndexByte_any (s : ByteArray) (c : Int) (w : World) :
    Calls Try.prog 65 #[.string s, .int .u8 c] w fun e w' => e = .returned (.int .i64 (Lib.indexByte s.data.toList c.toNat.toUInt8)) ∧ w' = w := by
  go_enter Try.func65, Try.ntmps65
  go_wp2
  rw [run_callFunc_extern Try.func75 (by kernel_rfl) (by kernel_rfl) (by kernel_rfl) (e := Extern.BytealgIndexByte.indexByte) (by kernel_rfl), Lib.run_indexByteString]
  simp only [Result.andThen]
  rw [Oper.upon_value]
  go_wp2
  go_ret
  exact ⟨rfl, rfl⟩
set_option maxHeartbeats 1000000 in
theorem indexByte_any (s : ByteArray) (c : Int) (w : World) :
    Calls Try.prog 56 #[.string s, .int .u8 c] w fun e w' => e = .returned (.int .i64 (Lib.indexByte s.data.toList c.toNat.toUInt8)) ∧ w' = w := by
  go_enter Try.func56, Try.ntmps56
  go_wp2_with (go_at_call 65; refine (slIndexByte_any _ _ _).mono ?_; rintro e w' ⟨rfl, rfl⟩)
  go_ret
  exact ⟨rfl, rfl⟩
set_option maxHeartbeats 2000000 in
set_option maxRecDepth 100000 in
theorem slIndex_one (s : ByteArray) (c : UInt8) (w : World) :
    Calls Try.prog 76 #[.string s, .string ⟨#[c]⟩] w fun e w' => e = .returned (.int .i64 (Lib.indexByte s.data.toList c)) ∧ w' = w := by
  go_enter Try.func76, Try.ntmps76
  go_wp2_with (go_at_call 65; refine (slIndexByte_any _ _ _).mono ?_; rintro e w' ⟨rfl, rfl⟩)
  · have h : ([c] == s.toList) = true := by assumption
    go_ret
    refine ⟨?_, rfl⟩
    have e : s.data.toList = [c] := by rw [← Lib.toList_data]; exact (beq_iff_eq.1 h).symm
    rw [e]
    simp [Lib.indexByte]
  · go_ret
    exact ⟨rfl, rfl⟩
set_option maxHeartbeats 1000000 in
theorem contains_one (s : ByteArray) (c : UInt8) (w : World) :
    Calls Try.prog 58 #[.string s, .string ⟨#[c]⟩] w fun e w' => e = .returned (.bool (decide (0 ≤ Lib.indexByte s.data.toList c))) ∧ w' = w := by
  have hi : Calls Try.prog 68 #[.string s, .string ⟨#[c]⟩] w fun e w' => e = .returned (.int .i64 (Lib.indexByte s.data.toList c)) ∧ w' = w := by
    go_enter Try.func68, Try.ntmps68
    go_wp2_with (go_at_call 76; refine (slIndex_one _ _ _).mono ?_; rintro e w' ⟨rfl, rfl⟩)
    go_ret
    exact ⟨rfl, rfl⟩
  go_enter Try.func58, Try.ntmps58
  go_wp2_with (go_at_call 68; refine hi.mono ?_; rintro e w' ⟨rfl, rfl⟩)
  go_ret
  exact ⟨rfl, rfl⟩
/-- A byte's place is told just where it stands. -/
theorem indexByte_mem (l : List UInt8) (c : UInt8) : 0 ≤ Lib.indexByte l c ↔ c ∈ l := by
  induction l with
  | nil => simp [Lib.indexByte]
  | cons b r ih =>
    simp only [Lib.indexByte, List.mem_cons]
    by_cases h : b == c
    · rw [if_pos h]; simp [(beq_iff_eq.1 h)]
    · rw [if_neg h]
      have hbc : c ≠ b := fun e => h (by rw [e]; simp)
      by_cases h2 : Lib.indexByte r c == -1
      · rw [if_pos h2]
        have h3 : Lib.indexByte r c = -1 := beq_iff_eq.1 h2
        rw [← ih, h3]; simp [hbc]
      · rw [if_neg h2]
        have h3 : ¬ Lib.indexByte r c = -1 := fun e => h2 (by rw [e]; rfl)
        have h4 : -1 ≤ Lib.indexByte r c := by
          clear ih h h2 h3
          induction r with
          | nil => simp [Lib.indexByte]
          | cons x r ih => simp only [Lib.indexByte]; split <;> (try split) <;> omega
        rw [← ih]; constructor
        · intro h5; exact .inr (by omega)
        · rintro (h5 | h5)
          · exact absurd h5 hbc
          · omega
set_option maxRecDepth 100000 in
set_option maxHeartbeats 1000000 in
theorem lastIndex_any (s : ByteArray) (w : World) (hs : s.size ≤ 9223372036854775807) :
    Calls Try.prog 43 #[.string s, .int .u8 47] w fun e w' => e = .returned (.int .i64 ((lastB s.data.toList : Int) - 1)) ∧ w' = w := by
  have key : Calls Try.prog 55 #[.string s, .int .u8 47] w fun e w' => e = .returned (.int .i64 ((lastB s.data.toList : Int) - 1)) ∧ w' = w := by
    go_enter Try.func55, Try.ntmps55
    go_wp2_with fail
    go_loopw [5] (fun a wr => ∃ i : Nat, a = .int .i64 ((i : Int) - 1) ∧ i ≤ s.size ∧ (∀ j : Nat, i ≤ j → s.data.toList[j]? ≠ some 47) ∧ wr = w) (fun a _ => (intOf a + 1).toNat)
    case atStart => exact ⟨s.size, rfl, Nat.le_refl _, fun j hj h => by
      have := (List.getElem?_eq_some_iff.1 h).1
      rw [Array.length_toList] at this
      have h2 : s.data.size = s.size := rfl
      omega, rfl⟩
    case round =>
      obtain ⟨i, rfl, hi, hn, rfl⟩ := hrel
      have HN := Lib.hid hn
      clear hn
      cases i with
      | zero =>
        go_wp2_with fail
        go_ret
        exact ⟨by rw [lastB_none (fun j => HN.out j (Nat.zero_le _))]; rfl, rfl⟩
      | succ i =>
        have hii : ((i + 1 : Nat) : Int) - 1 = (i : Int) := by omega
        rw [hii]
        clear hii
        have hlt : i < s.size := by omega
        by_cases hq : (s[i]'hlt).toNat = 47
        · have h47 : s.data.toList[i]? = some 47 := by
            rw [data_at s i hlt]; congr 1; exact UInt8.toNat_inj.1 (by rw [hq]; rfl)
          have hq2 : (((s[i]'hlt).toNat : Int) == 47) = true := by simp [hq]
          have HL := Lib.hid (lastB_slash h47 (fun j hj => HN.out j (by omega)))
          clear hq h47
          go_wp2_with fail
          go_ret
          exact ⟨by rw [HL.out, show ((i + 1 : Nat) : Int) - 1 = i by omega]; rfl, rfl⟩
        · have hq2 : (((s[i]'hlt).toNat : Int) == 47) = false := by simp; omega
          have HQ := Lib.hid (show s.data.toList[i]? ≠ some 47 from by
            rw [data_at s i hlt]; intro e; exact hq (by rw [Option.some.inj e]; rfl))
          clear hq
          go_wp2_with fail
          go_roundw
          case rel => exact ⟨i, by go_num, by omega, fun j hj => by
            rcases Nat.lt_or_ge i j with h | h
            · exact HN.out j h
            · obtain rfl : j = i := by omega
              exact HQ.out, by trivial⟩
          case measure => simp [intOf]
  go_enter Try.func43, Try.ntmps43
  go_wp2_with fail
  refine key.mono ?_
  rintro e w' ⟨rfl, rfl⟩
  go_wp2_with fail
  go_ret
  exact ⟨rfl, rfl⟩
end Go.Proofs.Ytcagonpnjionhaa

/-! Paths: Right, Parent, Base, the program's and the document's. -/
set_option linter.unusedVariables false
set_option linter.unusedSimpArgs false
namespace Go.Proofs.Ytcagonpnjionhaa
open Go.RowKit
attribute [local go_sem] str_toList max2_I max_two_I

theorem size_toList (l : List UInt8) : (str l).size = l.length := str_size l
set_option maxRecDepth 100000 in
set_option maxHeartbeats 1000000 in
theorem part_any (x : List UInt8) (w : World) :
    Calls Try.prog 44 #[.string (str x)] w fun e w' => e = .returned (.bool (partOk x)) ∧ w' = w := by
  have HZ := Lib.hid (str_size x)
  have HM := Lib.hid (indexByte_mem x 0)
  have hd : (str x).data.toList = x := str_data x
  by_cases h1 : x = []
  · subst h1
    go_enter Try.func44, Try.ntmps44
    go_wp2_with fail
    go_ret
    exact ⟨rfl, rfl⟩
  by_cases h3 : x = [46]
  · subst h3
    go_enter Try.func44, Try.ntmps44
    go_wp2_with fail
    go_ret
    exact ⟨rfl, rfl⟩
  by_cases h4 : x = [46, 46]
  · subst h4
    go_enter Try.func44, Try.ntmps44
    go_wp2_with fail
    go_ret
    exact ⟨rfl, rfl⟩
  have K1 := Lib.hid (show decide (x ≠ []) = true by simpa using h1)
  have K3 := Lib.hid (show decide (x ≠ [46]) = true by simpa using h3)
  have K4 := Lib.hid (show decide (x ≠ [46, 46]) = true by simpa using h4)
  have KP : Hid (partOk x = (decide (x.length ≤ 48) && decide ((0 : UInt8) ∉ x))) := Lib.hid (by unfold partOk; rw [K1.out, K3.out, K4.out]; simp)
  have KV : Hid ((!x.isEmpty && !x == [46] && !x == [46, 46]) = true) := Lib.hid (by simp [h1, h3, h4])
  go_enter Try.func44, Try.ntmps44
  rcases Nat.lt_or_ge 48 x.length with h2 | h2
  · have q2 : ¬ (((str x).size : Int) ≤ 48) := by rw [HZ.out]; omega
    have K := Lib.hid (show decide (x.length ≤ 48) = false by simp; omega)
    clear h2
    go_wp2_with fail
    go_ret
    exact ⟨by rw [KP.out, K.out]; rfl, rfl⟩
  have q2 : ((str x).size : Int) ≤ 48 := by rw [HZ.out]; omega
  have K2 := Lib.hid (show decide (x.length ≤ 48) = true by simpa using h2)
  clear h2
  go_wp2_with fail
  refine (indexByte_any (str x) 0 w).mono ?_
  rintro e w' ⟨rfl, rfl⟩
  rw [hd, show (0 : Int).toNat.toUInt8 = (0 : UInt8) from rfl]
  by_cases h5 : (0 : UInt8) ∈ x
  · have q5 : ¬ Lib.indexByte x 0 < 0 := by have := HM.out.2 h5; omega
    have K := Lib.hid (show decide ((0 : UInt8) ∉ x) = false by simpa using h5)
    clear h5
    go_wp2_with fail
    go_ret
    refine ⟨congrArg (fun b => Ending.returned (.bool b)) (a₁ := (!x.isEmpty && !x == [46] && !x == [46, 46] && decide (Lib.indexByte x 0 < 0))) ?_, rfl⟩
    rw [KV.out, KP.out, K2.out, K.out]; simp; omega
  · have q5 : Lib.indexByte x 0 < 0 := by
      rcases Int.lt_or_le (Lib.indexByte x 0) 0 with h | h
      · exact h
      · exact absurd (HM.out.1 h) h5
    have K := Lib.hid (show decide ((0 : UInt8) ∉ x) = true by simpa using h5)
    clear h5
    go_wp2_with fail
    go_ret
    refine ⟨congrArg (fun b => Ending.returned (.bool b)) (a₁ := (!x.isEmpty && !x == [46] && !x == [46, 46])) ?_, rfl⟩
    rw [KV.out, KP.out, K2.out, K.out]; rfl

theorem all_false {L : List (List UInt8)} {i : Nat} {x : List UInt8} (h : L[i]? = some x) (hp : partOk x = false) : L.all partOk = false := by
  rw [List.all_eq_false]
  exact ⟨x, List.mem_of_getElem? h, by rw [hp]; simp⟩
theorem all_true {L : List (List UInt8)} (h : ∀ (i : Nat) x, L[i]? = some x → partOk x = true) : L.all partOk = true := by
  rw [List.all_eq_true]
  intro x hx
  obtain ⟨i, hi⟩ := List.getElem?_of_mem hx
  exact h i x hi
set_option maxRecDepth 100000 in
set_option maxHeartbeats 1000000 in
theorem right_any (p : ByteArray) (X : List (List UInt8)) (w : World) (hX : splitB p.data.toList = X) (hp : p.size ≤ 2097152) :
    Calls Try.prog 30 #[.string p] w fun e w' => e = .returned (.bool (rightB p.data.toList)) ∧ Below w.heap.size w w' := by
  have HX0 := Lib.hid hX
  have hlen : p.data.toList.length = p.size := by rw [Array.length_toList]; rfl
  have HR : Hid (rightB p.data.toList = (X.all partOk && (decide (X.length ≤ 12) && decide (p.size ≤ 200)))) := Lib.hid (by unfold rightB; rw [hX, hlen])
  clear hX hlen
  go_enter Try.func30, Try.ntmps30
  go_wp2_with fail
  refine (pathSplit_any p _ hp).mono ?_
  rintro e w1 ⟨⟨A, n, c, rfl, hn, hnc, hsA⟩, hb1⟩
  rw [HX0.out] at hn hsA
  have HB1 := Lib.hid hb1
  have HSA := Lib.hid hsA
  have HN := Lib.hid hn
  have hmx := hsA.max
  clear hb1 hsA hn
  go_wp2_with fail
  go_loopw [10] (fun a wr => ∃ i : Nat, a = .int .i64 i ∧ i ≤ n ∧ (∀ j x, j < i → X[j]? = some x → partOk x = true) ∧ wr = w1) (fun a _ => n - (intOf a).toNat)
  case atStart => exact ⟨0, rfl, by omega, fun j x h => by omega, rfl⟩
  case round =>
    obtain ⟨i, rfl, hin, hall, rfl⟩ := hrel
    have HA := Lib.hid hall
    clear hall
    rcases Nat.lt_or_ge i n with h | h
    · obtain ⟨b1, o1, x, hA1, hr1, c1⟩ := HSA.out.strRow h
      subst hA1
      have HR1 := Lib.hid hr1
      clear hr1
      go_wp2_with fail
      refine (part_any x _).mono ?_
      rintro e w' ⟨rfl, rfl⟩
      cases hpo : partOk x with
      | false =>
        have K := Lib.hid (all_false HR1.out hpo)
        clear hpo
        go_wp2_with fail
        go_ret
        exact ⟨by rw [HR.out, K.out]; rfl, HB1.out⟩
      | true =>
        have K := Lib.hid hpo
        clear hpo
        go_wp2_with fail
        go_roundw
        case rel => exact ⟨i+1, by go_num, by omega, fun j y hj hy => by
          rcases Nat.lt_or_ge j i with h' | h'
          · exact HA.out j y h' hy
          · obtain rfl : j = i := by omega
            rw [HR1.out] at hy; cases hy; exact K.out, by trivial⟩
        case measure => simp [intOf]; omega
    · obtain rfl : i = n := by omega
      have KA := Lib.hid (all_true (L := X) fun j x hx => HA.out j x (by rw [HN.out]; exact (List.getElem?_eq_some_iff.1 hx).1) hx)
      by_cases h1 : i ≤ 12
      · have q1 : decide ((i : Int) ≤ 12) = true := by simp; omega
        have K1 := Lib.hid (show decide (X.length ≤ 12) = true by rw [← HN.out]; simpa using h1)
        by_cases h2 : p.size ≤ 200
        · have q2 : decide ((p.size : Int) ≤ 200) = true := by simp; omega
          have K2 := Lib.hid (show decide (p.size ≤ 200) = true by simpa using h2)
          clear h1 h2
          go_wp2_with fail
          go_ret
          exact ⟨by rw [HR.out, KA.out, K1.out, K2.out]; rfl, HB1.out⟩
        · have q2 : decide ((p.size : Int) ≤ 200) = false := by simp; omega
          have K2 := Lib.hid (show decide (p.size ≤ 200) = false by simpa using h2)
          clear h1 h2
          go_wp2_with fail
          go_ret
          exact ⟨by rw [HR.out, KA.out, K1.out, K2.out]; rfl, HB1.out⟩
      · have q1 : decide ((i : Int) ≤ 12) = false := by simp; omega
        have K1 := Lib.hid (show decide (X.length ≤ 12) = false by rw [← HN.out]; simpa using h1)
        clear h1
        go_wp2_with fail
        go_ret
        exact ⟨by rw [HR.out, KA.out, K1.out]; rfl, HB1.out⟩
set_option maxRecDepth 100000 in
theorem parent_any (p : ByteArray) (w : World) (hp : p.size ≤ 9223372036854775807) :
    Calls Try.prog 29 #[.string p] w fun e w' => e = .returned (.string (str (parentB p.data.toList))) ∧ w' = w := by
  have hle : lastB p.data.toList ≤ p.size := by have := lastB_le p.data.toList; rwa [Array.length_toList] at this
  go_enter Try.func29, Try.ntmps29
  go_wp2_with fail
  refine (lastIndex_any p w hp).mono ?_
  rintro e w' ⟨rfl, rfl⟩
  have hmx : mxI ((lastB p.data.toList : Int) - 1) 0 = ((lastB p.data.toList - 1 : Nat) : Int) := by unfold mxI; split <;> omega
  have hx : p.extract 0 (lastB p.data.toList - 1) = str (parentB p.data.toList) := by
    rw [extract_str p 0 _ (Nat.zero_le _) (by omega)]; rfl
  have HX := Lib.hid hx
  have hlt : lastB p.data.toList - 1 ≤ p.size := by omega
  clear hx hle
  generalize lastB p.data.toList = m at *
  go_wp2_with fail
  go_ret
  exact ⟨by rw [← HX.out]; rfl, rfl⟩
set_option maxRecDepth 100000 in
theorem base_any (p : ByteArray) (w : World) (hp : p.size ≤ 9223372036854775807) :
    Calls Try.prog 60 #[.string p] w fun e w' => e = .returned (.string (str (baseB p.data.toList))) ∧ w' = w := by
  have hle : lastB p.data.toList ≤ p.size := by have := lastB_le p.data.toList; rwa [Array.length_toList] at this
  go_enter Try.func60, Try.ntmps60
  go_wp2_with fail
  refine (lastIndex_any p w hp).mono ?_
  rintro e w' ⟨rfl, rfl⟩
  have hx : p.extract (lastB p.data.toList) p.size = str (baseB p.data.toList) := by
    rw [extract_str p _ _ hle (Nat.le_refl _), List.take_of_length_le (by rw [List.length_drop, Array.length_toList]; exact Nat.le_refl _)]; rfl
  have HX := Lib.hid hx
  clear hx
  generalize lastB p.data.toList = m at *
  go_wp2_with fail
  go_ret
  exact ⟨by rw [← HX.out]; rfl, rfl⟩
end Go.Proofs.Ytcagonpnjionhaa

/-! Paths in order: cmp.Compare, slices.Compare, Less, the program's and the document's. -/
set_option linter.unusedVariables false
set_option linter.unusedSimpArgs false
namespace Go.Proofs.Ytcagonpnjionhaa
open Go.RowKit
attribute [local go_sem] str_toList

theorem bless_irr : ∀ a : List UInt8, Op.bytesLess a a = false
  | [] => rfl
  | x :: a => by simp only [Op.bytesLess, bless_irr a]; simp
/-- Does one list of parts come ahead of another? -/
def lessP : List (List UInt8) → List (List UInt8) → Bool
  | [], [] => false
  | [], _ :: _ => true
  | _ :: _, [] => false
  | x :: X, y :: Y => if x = y then lessP X Y else Op.bytesLess x y
theorem lessP_drop : ∀ (i : Nat) (X Y : List (List UInt8)), X.take i = Y.take i → i ≤ X.length → i ≤ Y.length → lessP X Y = lessP (X.drop i) (Y.drop i)
  | 0, _, _, _, _, _ => rfl
  | i+1, [], _, _, h, _ => by simp at h
  | i+1, _ :: _, [], _, _, h => by simp at h
  | i+1, x :: X, y :: Y, h, h1, h2 => by
    simp only [List.take_succ_cons, List.cons.injEq] at h
    obtain ⟨rfl, h⟩ := h
    rw [lessP, if_pos rfl, List.drop_succ_cons, List.drop_succ_cons]
    exact lessP_drop i X Y h (by simpa using h1) (by simpa using h2)
theorem lessP_ne {X Y : List (List UInt8)} {i : Nat} {x y : List UInt8} (h : X.take i = Y.take i) (hx : X[i]? = some x) (hy : Y[i]? = some y) (hne : x ≠ y) : lessP X Y = Op.bytesLess x y := by
  have h1 := (List.getElem?_eq_some_iff.1 hx)
  have h2 := (List.getElem?_eq_some_iff.1 hy)
  obtain ⟨h1, e1⟩ := h1
  obtain ⟨h2, e2⟩ := h2
  rw [lessP_drop i X Y h (by omega) (by omega), List.drop_eq_getElem_cons h1, List.drop_eq_getElem_cons h2, e1, e2, lessP, if_neg hne]
theorem lessP_end {X Y : List (List UInt8)} {i : Nat} (h : X.take i = Y.take i) (hx : i ≤ X.length) (hy : i ≤ Y.length) (he : i = X.length ∨ i = Y.length) : lessP X Y = decide (X.length < Y.length) := by
  rw [lessP_drop i X Y h hx hy]
  rcases he with rfl | rfl
  · rw [List.drop_of_length_le (Nat.le_refl _)]
    cases hd : Y.drop X.length with
    | nil =>
      have := congrArg List.length hd
      simp only [List.length_drop, List.length_nil] at this
      simp only [lessP]; rw [decide_eq_false]; omega
    | cons a r =>
      have := congrArg List.length hd
      simp only [List.length_drop, List.length_cons] at this
      simp only [lessP]; rw [decide_eq_true]; omega
  · rw [List.drop_of_length_le (l := Y) (Nat.le_refl _)]
    have : ¬ X.length < Y.length := by omega
    rw [decide_eq_false this]
    cases X.drop Y.length <;> rfl
/-- Which of two texts comes first. -/
def cmpS (a b : List UInt8) : Int := if Op.bytesLess a b then -1 else if a = b then 0 else 1
set_option maxRecDepth 100000 in
theorem cmp_any (a b : List UInt8) (w : World) :
    Calls Try.prog 54 #[.string (str a), .string (str b)] w fun e w' => e = .returned (.int .i64 (cmpS a b)) ∧ w' = w := by
  have nan : ∀ (x : List UInt8) (w : World), Calls Try.prog 64 #[.string (str x)] w fun e w' => e = .returned (.bool false) ∧ w' = w := by
    intro x w
    go_enter Try.func64, Try.ntmps64
    go_wp2_with fail
    go_ret
    exact ⟨rfl, rfl⟩
  go_enter Try.func54, Try.ntmps54
  go_wp2_with fail
  refine (nan a w).mono ?_
  rintro e w' ⟨rfl, rfl⟩
  go_wp2_with fail
  refine (nan b _).mono ?_
  rintro e w' ⟨rfl, rfl⟩
  cases h1 : Op.bytesLess a b with
  | true =>
    have K := Lib.hid (show cmpS a b = -1 by unfold cmpS; rw [if_pos h1])
    go_wp2_with fail
    go_ret
    exact ⟨by rw [K.out]; rfl, rfl⟩
  | false =>
    by_cases h2 : a = b
    · have K := Lib.hid (show cmpS a b = 0 by unfold cmpS; rw [h1, if_neg (by simp), if_pos h2])
      subst h2
      go_wp2_with fail
      go_ret
      exact ⟨by rw [K.out]; rfl, rfl⟩
    · have K := Lib.hid (show cmpS a b = 1 by unfold cmpS; rw [h1, if_neg (by simp), if_neg h2])
      have q : (a == b) = false := by simpa using h2
      go_wp2_with fail
      go_ret
      exact ⟨by rw [K.out]; rfl, rfl⟩
set_option maxRecDepth 100000 in
set_option maxHeartbeats 2000000 in
theorem compare_any (A B : Option Addr) (n c m d : Nat) (X Y : List (List UInt8)) (w : World) (hA : Sl 1 w A n (strs X)) (hB : Sl 1 w B m (strs Y)) :
    Calls Try.prog 42 #[.slice A n c, .slice B m d] w fun e w' => (∃ k : Int, e = .returned (.int .i64 k) ∧ decide (k < 0) = lessP X Y) ∧ w' = w := by
  have HX := Lib.hid hA.strsLen
  have HY := Lib.hid hB.strsLen
  have HA := Lib.hid hA
  have HB := Lib.hid hB
  have ha := hA.max
  have hb := hB.max
  clear hA hB
  go_enter Try.func42, Try.ntmps42
  go_wp2_with fail
  go_loopw [11] (fun a wr => ∃ i : Nat, a = .int .i64 i ∧ i ≤ n ∧ i ≤ m ∧ X.take i = Y.take i ∧ wr = w) (fun a _ => n - (intOf a).toNat)
  case atStart => exact ⟨0, rfl, by omega, by omega, rfl, rfl⟩
  case round =>
    obtain ⟨i, rfl, hin, him, htk, rfl⟩ := hrel
    have HT := Lib.hid htk
    clear htk
    rcases Nat.lt_or_ge i n with h | h
    · obtain ⟨b1, o1, x, hA1, hr1, c1⟩ := HA.out.strRow h
      subst hA1
      have HR1 := Lib.hid hr1
      clear hr1
      rcases Nat.lt_or_ge i m with h' | h'
      · obtain ⟨b2, o2, y, hA2, hr2, c2⟩ := HB.out.strRow h'
        subst hA2
        have HR2 := Lib.hid hr2
        clear hr2
        go_wp2_with fail
        refine (cmp_any x y _).mono ?_
        rintro e w' ⟨rfl, rfl⟩
        by_cases hxy : x = y
        · subst hxy
          rw [show cmpS x x = 0 by unfold cmpS; rw [bless_irr, if_neg (by simp), if_pos rfl]]
          go_wp2_with fail
          go_roundw
          case rel => exact ⟨i+1, by go_num, by omega, by omega, by rw [take_snocS HR1.out, take_snocS HR2.out, HT.out], by trivial⟩
          case measure => simp [intOf]; omega
        · have K := Lib.hid (lessP_ne HT.out HR1.out HR2.out hxy)
          cases hl : Op.bytesLess x y with
          | true =>
            rw [show cmpS x y = -1 by unfold cmpS; rw [if_pos hl]]
            rw [hl] at K
            go_wp2_with fail
            go_ret
            exact ⟨⟨-1, rfl, by rw [K.out]; rfl⟩, rfl⟩
          | false =>
            rw [show cmpS x y = 1 by unfold cmpS; rw [hl, if_neg (by simp), if_neg hxy]]
            rw [hl] at K
            clear hxy
            go_wp2_with fail
            go_ret
            exact ⟨⟨1, rfl, by rw [K.out]; rfl⟩, rfl⟩
      · have K := Lib.hid (lessP_end HT.out (by have := HX.out; omega) (by have := HY.out; omega) (.inr (by have := HY.out; omega)))
        have K2 := Lib.hid (show decide (X.length < Y.length) = false by rw [decide_eq_false]; have := HX.out; have := HY.out; omega)
        go_wp2_with fail
        go_ret
        exact ⟨⟨1, rfl, by rw [K.out, K2.out]; rfl⟩, rfl⟩
    · obtain rfl : i = n := by omega
      have K := Lib.hid (lessP_end HT.out (by have := HX.out; omega) (by have := HY.out; omega) (.inl (by have := HX.out; omega)))
      rcases Nat.lt_or_ge i m with h' | h'
      · have K2 := Lib.hid (show decide (X.length < Y.length) = true by rw [decide_eq_true]; have := HX.out; have := HY.out; omega)
        go_wp2_with fail
        go_ret
        exact ⟨⟨-1, rfl, by rw [K.out, K2.out]; rfl⟩, rfl⟩
      · have K2 := Lib.hid (show decide (X.length < Y.length) = false by rw [decide_eq_false]; have := HX.out; have := HY.out; omega)
        go_wp2_with fail
        go_ret
        exact ⟨⟨0, rfl, by rw [K.out, K2.out]; rfl⟩, rfl⟩
set_option maxRecDepth 100000 in
theorem less_any (p q : ByteArray) (w : World) (hp : p.size ≤ 2097152) (hq : q.size ≤ 2097152) :
    Calls Try.prog 28 #[.string p, .string q] w fun e w' => e = .returned (.bool (lessP (splitB p.data.toList) (splitB q.data.toList))) ∧ Below w.heap.size w w' := by
  have HP := Lib.hid hp
  have HQ := Lib.hid hq
  clear hp hq
  go_enter Try.func28, Try.ntmps28
  go_wp2_with fail
  refine (pathSplit_any p _ HP.out).mono ?_
  rintro e w1 ⟨⟨A, n, c, rfl, hn, hnc, hsA⟩, hb1⟩
  have HB1 := Lib.hid hb1
  have HSA := Lib.hid hsA
  clear hb1 hsA hn
  go_wp2_with fail
  refine (pathSplit_any q _ HQ.out).mono ?_
  rintro e w2 ⟨⟨B, m, d, rfl, hm, hmd, hsB⟩, hb2⟩
  have HB2 := Lib.hid (HB1.out.trans (hb2.mono HB1.out.size))
  have HSA2 := Lib.hid (HSA.out.below hb2)
  have HSB2 := Lib.hid hsB
  clear hb2 hsB hm
  go_wp2_with fail
  refine (compare_any A B n c m d _ _ _ HSA2.out HSB2.out).mono ?_
  rintro e w3 ⟨⟨k, rfl, hk⟩, rfl⟩
  have HK := Lib.hid hk
  clear hk
  go_wp2_with fail
  go_ret
  exact ⟨by rw [← HK.out]; rfl, HB2.out⟩
end Go.Proofs.Ytcagonpnjionhaa

/-! The document's paths: Right, glue, Parent, Base, Less. -/
set_option linter.unusedVariables false
set_option linter.unusedSimpArgs false
namespace Go.Proofs.Ytcagonpnjionhaa
open Go.RowKit
attribute [local go_sem] str_toList

set_option maxRecDepth 100000 in
theorem nought_any (x : List UInt8) (w : World) (hs : x.length ≤ 9223372036854775806) :
    Calls Try.prog 72 #[.string (str x)] w fun e w' => e = .returned (.bool (decide ((0 : UInt8) ∈ x))) ∧ w' = w := by
  obtain ⟨s, hs0⟩ : ∃ s, str x = s := ⟨_, rfl⟩
  have HD := Lib.hid (show s.data.toList = x by rw [← hs0]; exact str_data x)
  have hz : s.size ≤ 9223372036854775806 := by rw [← hs0, str_size]; exact hs
  rw [hs0]
  clear hs0 hs
  go_enter Try.func72, Try.ntmps72
  go_wp2_with fail
  go_loopw [3] (fun a wr => ∃ i : Nat, a = .int .i64 i ∧ i ≤ s.size ∧ (∀ j : Nat, j < i → x[j]? ≠ some 0) ∧ wr = w) (fun a _ => s.size - (intOf a).toNat)
  case atStart => exact ⟨0, rfl, by omega, fun j h => by omega, rfl⟩
  case round =>
    obtain ⟨i, rfl, hin, hall, rfl⟩ := hrel
    have HA := Lib.hid hall
    clear hall
    rcases Nat.lt_or_ge i s.size with h | h
    · by_cases hq : (s[i]'h).toNat = 0
      · have hq2 : (((s[i]'h).toNat : Int) == 0) = true := by simp [hq]
        have K := Lib.hid (show decide ((0 : UInt8) ∈ x) = true from decide_eq_true (by
          have h1 := data_at s i h
          rw [HD.out] at h1
          have h2 : s[i]'h = 0 := UInt8.toNat_inj.1 (by rw [hq]; rfl)
          rw [h2] at h1
          exact List.mem_of_getElem? h1))
        clear hq
        go_wp2_with fail
        go_ret
        exact ⟨by rw [K.out]; rfl, rfl⟩
      · have hq2 : (((s[i]'h).toNat : Int) == 0) = false := by simp; omega
        have K := Lib.hid (show x[i]? ≠ some 0 from fun e => hq (by
          have h1 := data_at s i h
          rw [HD.out, e] at h1
          rw [← Option.some.inj h1]; rfl))
        clear hq
        go_wp2_with fail
        go_roundw
        case rel => exact ⟨i+1, by go_num, by omega, fun j hj => by
          rcases Nat.lt_or_ge j i with h' | h'
          · exact HA.out j h'
          · obtain rfl : j = i := by omega
            exact K.out, by trivial⟩
        case measure => simp [intOf]; omega
    · have K := Lib.hid (show decide ((0 : UInt8) ∈ x) = false from decide_eq_false fun hm => by
        obtain ⟨j, hj⟩ := List.getElem?_of_mem hm
        have hl : x.length = s.size := by rw [← HD.out, Array.length_toList]; rfl
        exact HA.out j (by have := (List.getElem?_eq_some_iff.1 hj).1; omega) hj)
      go_wp2_with fail
      go_ret
      exact ⟨by rw [K.out]; rfl, rfl⟩
theorem partOk_not (x : List UInt8) : partOk x = false ↔ x = [] ∨ x = [46] ∨ x = [46, 46] ∨ 48 < x.length ∨ decide ((0 : UInt8) ∈ x) = true := by
  unfold partOk
  by_cases h1 : x = []
  · simp [h1]
  by_cases h3 : x = [46]
  · simp [h3]
  by_cases h4 : x = [46, 46]
  · simp [h4]
  simp [h1, h3, h4]
  by_cases h2 : x.length ≤ 48
  · simp [h2]; intro h; omega
  · simp [h2]; omega
set_option maxRecDepth 100000 in
set_option maxHeartbeats 2000000 in
theorem refRight_any (p : ByteArray) (X : List (List UInt8)) (w : World) (hX : splitB p.data.toList = X) (hp : p.size ≤ 2097152) :
    Calls Try.prog 61 #[.string p] w fun e w' => e = .returned (.bool (rightB p.data.toList)) ∧ Below w.heap.size w w' := by
  have HX0 := Lib.hid hX
  have hlen : p.data.toList.length = p.size := by rw [Array.length_toList]; rfl
  have HR : Hid (rightB p.data.toList = (X.all partOk && (decide (X.length ≤ 12) && decide (p.size ≤ 200)))) := Lib.hid (by unfold rightB; rw [hX, hlen])
  clear hX hlen
  go_enter Try.func61, Try.ntmps61
  go_wp2_with fail
  refine (refSplit_any p _ hp).mono ?_
  rintro e w1 ⟨⟨A, n, c, rfl, hn, hnc, hsA⟩, hb1⟩
  rw [HX0.out] at hn hsA
  have HB1 := Lib.hid hb1
  have HSA := Lib.hid hsA
  have HN := Lib.hid hn
  have hmx := hsA.max
  clear hb1 hsA hn
  rcases Nat.lt_or_ge 12 n with h1 | h1
  · have q1 : decide ((12 : Int) < n) = true := by simp; omega
    have K1 := Lib.hid (show decide (X.length ≤ 12) = false by rw [← HN.out]; simp; omega)
    clear h1
    go_wp2_with fail
    go_ret
    exact ⟨by rw [HR.out, K1.out]; simp, HB1.out⟩
  rcases Nat.lt_or_ge 200 p.size with h2 | h2
  · have q1 : decide ((12 : Int) < n) = false := by simp; omega
    have q2 : decide ((200 : Int) < p.size) = true := by simp; omega
    have K2 := Lib.hid (show decide (p.size ≤ 200) = false by simp; omega)
    clear h1 h2
    go_wp2_with fail
    go_ret
    exact ⟨by rw [HR.out, K2.out]; simp, HB1.out⟩
  have q1 : decide ((12 : Int) < n) = false := by simp; omega
  have q2 : decide ((200 : Int) < p.size) = false := by simp; omega
  have K1 := Lib.hid (show decide (X.length ≤ 12) = true by rw [← HN.out]; simpa using h1)
  have K2 := Lib.hid (show decide (p.size ≤ 200) = true by simpa using h2)
  clear h1 h2
  go_wp2_with fail
  go_loopw [4] (fun a wr => ∃ i : Nat, a = .int .i64 i ∧ i ≤ n ∧ (∀ (j : Nat) x, j < i → X[j]? = some x → partOk x = true) ∧ wr = w1) (fun a _ => n - (intOf a).toNat)
  case atStart => exact ⟨0, rfl, by omega, fun j x h => by omega, rfl⟩
  case round =>
    obtain ⟨i, rfl, hin, hall, rfl⟩ := hrel
    have HA := Lib.hid hall
    clear hall
    rcases Nat.lt_or_ge i n with h | h
    · obtain ⟨b1, o1, x, hA1, hr1, c1⟩ := HSA.out.strRow h
      subst hA1
      have HR1 := Lib.hid hr1
      clear hr1
      have bad : partOk x = false → Hid (X.all partOk = false) := fun hp => Lib.hid (all_false HR1.out hp)
      have HZ := Lib.hid (str_size x)
      have hxl : x.length ≤ 48 → x.length ≤ 9223372036854775806 := fun h => by omega
      by_cases g1 : x = []
      · have K := bad ((partOk_not x).2 (.inl g1))
        clear bad hxl
        subst g1
        go_wp2_with fail
        go_ret
        exact ⟨by rw [HR.out, K.out]; rfl, HB1.out⟩
      by_cases g2 : x = [46]
      · have K := bad ((partOk_not x).2 (.inr (.inl g2)))
        clear bad hxl
        subst g2
        go_wp2_with fail
        go_ret
        exact ⟨by rw [HR.out, K.out]; rfl, HB1.out⟩
      by_cases g3 : x = [46, 46]
      · have K := bad ((partOk_not x).2 (.inr (.inr (.inl g3))))
        clear bad hxl
        subst g3
        go_wp2_with fail
        go_ret
        exact ⟨by rw [HR.out, K.out]; rfl, HB1.out⟩
      rcases Nat.lt_or_ge 48 x.length with g4 | g4
      · have K := bad ((partOk_not x).2 (.inr (.inr (.inr (.inl g4)))))
        have q4 : decide ((48 : Int) < (str x).size) = true := by rw [HZ.out]; simp; omega
        clear bad hxl g4
        go_wp2_with fail
        go_ret
        exact ⟨by rw [HR.out, K.out]; rfl, HB1.out⟩
      have q4 : decide ((48 : Int) < (str x).size) = false := by rw [HZ.out]; simp; omega
      have KP := Lib.hid (partOk_not x)
      have KG := Lib.hid (show ¬ (x = [] ∨ x = [46] ∨ x = [46, 46] ∨ 48 < x.length) from by rintro (h | h | h | h); exact g1 h; exact g2 h; exact g3 h; omega)
      have hx8 := hxl g4
      have g1b : x.isEmpty = false := by simpa using g1
      have g2b : (x == [46]) = false := by simpa using g2
      have g3b : (x == [46, 46]) = false := by simpa using g3
      clear hxl g4 g1 g2 g3
      go_wp2_with fail
      refine (nought_any x _ hx8).mono ?_
      rintro e w' ⟨rfl, rfl⟩
      cases h5 : decide ((0 : UInt8) ∈ x) with
      | true =>
        have K := bad (KP.out.2 (.inr (.inr (.inr (.inr h5)))))
        clear bad h5
        go_wp2_with fail
        go_ret
        exact ⟨by rw [HR.out, K.out]; rfl, HB1.out⟩
      | false =>
        have K := Lib.hid (show partOk x = true from by
          cases hp : partOk x with
          | true => rfl
          | false =>
            rcases KP.out.1 hp with h | h | h | h | h
            · exact absurd (.inl h) KG.out
            · exact absurd (.inr (.inl h)) KG.out
            · exact absurd (.inr (.inr (.inl h))) KG.out
            · exact absurd (.inr (.inr (.inr h))) KG.out
            · rw [h5] at h; cases h)
        clear bad h5
        go_wp2_with fail
        go_roundw
        case rel => exact ⟨i+1, by go_num, by omega, fun j y hj hy => by
          rcases Nat.lt_or_ge j i with h' | h'
          · exact HA.out j y h' hy
          · obtain rfl : j = i := by omega
            rw [HR1.out] at hy; cases hy; exact K.out, by trivial⟩
        case measure => simp [intOf]; omega
    · obtain rfl : i = n := by omega
      have KA := Lib.hid (all_true (L := X) fun j x hx => HA.out j x (by rw [HN.out]; exact (List.getElem?_eq_some_iff.1 hx).1) hx)
      go_wp2_with fail
      go_ret
      exact ⟨by rw [HR.out, KA.out, K1.out, K2.out]; rfl, HB1.out⟩
end Go.Proofs.Ytcagonpnjionhaa

/-! The document's paths: glue, Parent, Base, Less. -/
set_option linter.unusedVariables false
set_option linter.unusedSimpArgs false
namespace Go.Proofs.Ytcagonpnjionhaa
open Go.RowKit
attribute [local go_sem] str_toList

theorem glueB_take_le : ∀ (X : List (List UInt8)) (i : Nat), (glueB (X.take i)).length ≤ (glueB X).length
  | [], i => by simp
  | [x], 0 => by simp [glueB]
  | [x], i+1 => by simp [glueB]
  | x :: y :: r, 0 => by simp [glueB]
  | x :: y :: r, 1 => by simp [glueB]
  | x :: y :: r, i+2 => by
    have := glueB_take_le (y :: r) (i + 1)
    simp only [List.take_succ_cons, glueB, List.length_append, List.length_cons] at this ⊢
    omega
theorem strCells_str (x : List UInt8) : Lib.strCells (str x) = bys x := by rw [strCells_bys, str_data]
set_option maxRecDepth 100000 in
set_option maxHeartbeats 2000000 in
theorem glue_any (A : Option Addr) (n c : Nat) (X : List (List UInt8)) (w : World) (hA : Sl 1 w A n (strs X)) (hX : (glueB X).length ≤ 4194304) :
    Calls Try.prog 52 #[.slice A n c] w fun e w' => e = .returned (.string (str (glueB X))) ∧ Below w.heap.size w w' := by
  obtain ⟨j0, ji, jz0, jz1, jz2⟩ := info_parts infoB
  have HX := Lib.hid hA.strsLen
  have HA := Lib.hid hA
  have ha := hA.max
  have hx48 : ∀ i, (glueB (X.take i)).length ≤ 4194304 := fun i => Nat.le_trans (glueB_take_le X i) hX
  have HL := Lib.hid hx48
  clear hA hx48
  go_enter Try.func52, Try.ntmps52
  go_wp2_with fail
  go_loopw [3, 4] (fun v a wr => ∃ i : Nat, a = .int .i64 i ∧ i ≤ n ∧ wr.ownsRow w.heap.size 5 1 v (glueB (X.take i)).length (bys (glueB (X.take i))) ∧ Below w.heap.size w wr) (fun _ a _ => n - (intOf a).toNat)
  case atStart => exact ⟨0, rfl, by omega, World.ownsRow_nil _ _ _ _, Below.refl _ _⟩
  case round =>
    obtain ⟨i, rfl, hin, hown, hb⟩ := hrel
    have HB := Lib.hid hb
    rcases Nat.lt_or_ge i n with h | h
    · obtain ⟨b1, o1, x, hA1, hr1, c1⟩ := (HA.out.below hb).strRow h
      have HA1 := Lib.hid hA1
      have htk := take_snocS hr1
      have hl1 := HL.out (i + 1)
      have hl0 := HL.out i
      have hsx := str_size x
      rcases Nat.eq_zero_or_pos i with h0 | h0
      · have e1 : glueB (X.take (i + 1)) = x := by rw [htk, h0]; simp [glueB]
        have e0 : glueB (X.take i) = [] := by rw [h0]; simp [glueB]
        have hz0 : ¬ (0 : Int) < i := by omega
        clear h0
        rw [e1] at hl1
        rw [e0] at hown
        obtain ⟨v4, w4, hap, hown4, hg4, _⟩ := Lib.run_append_own_string (P := Try.prog) (w := wr) w.heap.size 80 9 80 5 j0 Try.underlying80 Try.underlying9 ji jz0 jz1 jz2 _ _ _ hown (str x) (by unfold maxLen; rw [hsx, List.length_nil]; omega) (by rw [hsx, List.length_nil]; omega) hb.size
        rw [strCells_str, List.length_nil, Nat.zero_add, hsx] at hown4
        have hown5 : w4.ownsRow w.heap.size 5 1 v4 (glueB (X.take (i + 1))).length (bys (glueB (X.take (i + 1)))) := by rw [e1]; exact hown4
        have R5 := Lib.hid (And.intro hown5 (hb.grown hg4 hb.size (fun k hk => (hown.lt k hk).1)))
        clear hown hb hown4 hg4 hown5 e1 e0 hl1 hl0 hsx htk hr1 ji jz0 jz1 jz2
        subst hA1
        clear HA1
        go_wp2_with (at_builtin; refine halt_in ?_)
        refine Halted.out (wpList_append_run rfl _ _ _ _ rfl rfl rfl hap ?_)
        clear hap
        go_wp2_with fail
        go_roundw
        case rel => exact ⟨i + 1, by go_num, by omega, R5.out.1, R5.out.2⟩
        case measure => simp [intOf]; omega
      · have hne : X.take i ≠ [] := fun e => by
          have h1 := congrArg List.length e
          have h2 := HX.out
          rw [List.length_take, List.length_nil] at h1
          omega
        have e1 : glueB (X.take (i + 1)) = glueB (X.take i) ++ [47] ++ x := by rw [htk, glueB_snoc _ _ hne]; simp
        have hl2 : (glueB (X.take (i + 1))).length = (glueB (X.take i)).length + 1 + x.length := by rw [e1, List.length_append, List.length_append]; rfl
        obtain ⟨v3, w3, hap3, hown3, hg3, hb3⟩ := run_append_one (P := Try.prog) (w0 := w) w.heap.size 80 80 5 j0 _ 1 1 Try.underlying80 ji jz0 jz1 jz2 rfl (by decide) hown hb [.int .u8 47] rfl (one_int _ _) 1 (by omega) (by omega) hb.size
        obtain ⟨v4, w4, hap, hown4, hg4, _⟩ := Lib.run_append_own_string (P := Try.prog) (w := w3) w.heap.size 80 9 80 5 j0 Try.underlying80 Try.underlying9 ji jz0 jz1 jz2 _ _ _ hown3 (str x) (by unfold maxLen; rw [hsx]; omega) (by rw [hsx]; omega) hb3.size
        rw [strCells_str, hsx] at hown4
        have hown5 : w4.ownsRow w.heap.size 5 1 v4 (glueB (X.take (i + 1))).length (bys (glueB (X.take (i + 1)))) := by
          rw [hl2, e1, bys_append, bys_append]; exact hown4
        have hr3 : Below wr.heap.size wr w3 ∨ True := .inr trivial
        have c1' : w3.cell? ⟨b1, o1 + i, none⟩ = some (.string (str x)) := by
          obtain ⟨b2, o2, x2, hA2, hr2, c2⟩ := (HA.out.below hb3).strRow h
          rw [hA1] at hA2
          cases hA2
          rw [hr1] at hr2
          cases hr2
          exact c2
        have R5 := Lib.hid (And.intro hown5 (hb3.grown hg4 hb3.size (fun k hk => (hown3.lt k hk).1)))
        have hpos : (0 : Int) < i := by omega
        clear hown hb hown3 hown4 hg3 hg4 hb3 hown5 e1 hl1 hl0 hl2 hsx htk hr1 hr3 hne ji jz0 jz1 jz2
        subst hA1
        clear HA1
        go_wp2_with (at_builtin; refine halt_in ?_)
        refine Halted.out (wpList_append_run rfl _ _ _ _ rfl rfl rfl hap3 ?_)
        clear hap3
        go_wp2_with (at_builtin; refine halt_in ?_)
        refine Halted.out (wpList_append_run rfl _ _ _ _ rfl rfl rfl hap ?_)
        clear hap
        go_wp2_with fail
        go_roundw
        case rel => exact ⟨i + 1, by go_num, by omega, R5.out.1, R5.out.2⟩
        case measure => simp [intOf]; omega
    · obtain rfl : i = n := by omega
      have htk : X.take i = X := List.take_of_length_le (by have := HX.out; omega)
      rw [htk] at hown
      obtain ⟨Af, cf, rfl, hcf, hslf, _, _⟩ := own_sl hown
      have hcv2 := run_conv_str (P := Try.prog) (src := 80) Try.underlying80 Try.underlying5 (dst := 9) Try.underlying9 (c := cf) hslf
      clear hown hb hslf htk ji jz0 jz1 jz2
      go_wp2_with fail
      go_ret
      exact ⟨rfl, HB.out⟩
end Go.Proofs.Ytcagonpnjionhaa

/-! The document's paths: Parent, Base, Less. -/
set_option linter.unusedVariables false
set_option linter.unusedSimpArgs false
namespace Go.Proofs.Ytcagonpnjionhaa
open Go.RowKit
attribute [local go_sem] str_toList

theorem parentB_len (l : List UInt8) : (parentB l).length ≤ l.length := by unfold parentB; rw [List.length_take]; omega
set_option maxRecDepth 100000 in
set_option maxHeartbeats 2000000 in
theorem refParent_any (p : ByteArray) (X : List (List UInt8)) (w : World) (hX : splitB p.data.toList = X) (hp : p.size ≤ 2097152) :
    Calls Try.prog 39 #[.string p] w fun e w' => e = .returned (.string (str (parentB p.data.toList))) ∧ Below w.heap.size w w' := by
  obtain ⟨i0, hi, hz0, hz1, hz2⟩ := info_parts infoS
  have HX0 := Lib.hid hX
  have HG := Lib.hid (show (if X.length < 2 then [] else glueB (X.take (X.length - 1))) = parentB p.data.toList by rw [← hX]; exact parent_glue p.data.toList)
  have hpl : (parentB p.data.toList).length ≤ 4194304 := by
    have := parentB_len p.data.toList
    have h2 : p.data.toList.length = p.size := by rw [Array.length_toList]; rfl
    omega
  clear hX
  go_enter Try.func39, Try.ntmps39
  go_wp2_with fail
  refine (refSplit_any p _ hp).mono ?_
  rintro e w1 ⟨⟨A, n, c, rfl, hn, hnc, hsA⟩, hb1⟩
  rw [HX0.out] at hn hsA
  have HB1 := Lib.hid hb1
  have hmx := hsA.max
  rcases Nat.lt_or_ge n 2 with h | h
  · have K := Lib.hid (show [] = parentB p.data.toList by rw [← HG.out, if_pos (by omega)])
    clear hb1 hsA hn hi hz0 hz1 hz2
    go_wp2_with fail
    go_ret
    exact ⟨by rw [← K.out]; rfl, HB1.out⟩
  · have K := Lib.hid (show glueB (X.take (n - 1)) = parentB p.data.toList by rw [← HG.out, if_neg (by omega), hn])
    have HH := Lib.hid (hsA.head (n - 1) c (by omega))
    have hlk : (glueB (X.take (n - 1))).length ≤ 4194304 := by rw [K.out]; exact hpl
    have hsl : ∀ w : World, (Instr.slice 28 (.slice A n c) none (some (.int .i64 ((n : Int) - 1))) none).run Try.prog w = .ok (.slice (subAt A 0 c 1) (n - 1) c) w := fun w => run_slice_to undSt elemSt hi hz1 A n c (n - 1) (by omega) .i64 _ (by omega)
    clear hb1 hsA hn hi hz0 hz1 hz2 hpl
    go_wp2_with fail
    refine (glue_any _ _ _ _ _ HH.out hlk).mono ?_
    rintro e w2 ⟨rfl, hb2⟩
    have HB2 := Lib.hid (HB1.out.trans (hb2.mono HB1.out.size))
    clear hb2 hsl
    rw [K.out]
    go_wp2_with fail
    go_ret
    exact ⟨rfl, HB2.out⟩
set_option maxRecDepth 100000 in
set_option maxHeartbeats 2000000 in
theorem refBase_any (p : ByteArray) (X : List (List UInt8)) (w : World) (hX : splitB p.data.toList = X) (hp : p.size ≤ 2097152) :
    Calls Try.prog 81 #[.string p] w fun e w' => e = .returned (.string (str (baseB p.data.toList))) ∧ Below w.heap.size w w' := by
  have HX0 := Lib.hid hX
  have HG := Lib.hid (show X.getLast?.getD [] = baseB p.data.toList by rw [← hX]; exact base_last p.data.toList)
  clear hX
  go_enter Try.func81, Try.ntmps81
  go_wp2_with fail
  refine (refSplit_any p _ hp).mono ?_
  rintro e w1 ⟨⟨A, n, c, rfl, hn, hnc, hsA⟩, hb1⟩
  rw [HX0.out] at hn hsA
  have HB1 := Lib.hid hb1
  have hmx := hsA.max
  rcases Nat.eq_zero_or_pos n with h | h
  · have K := Lib.hid (show [] = baseB p.data.toList by
      rw [← HG.out]
      have : X = [] := List.eq_nil_of_length_eq_zero (by omega)
      rw [this]; rfl)
    have hz : ((n : Int) == 0) = true := by simp [h]
    clear hb1 hsA hn h
    go_wp2_with fail
    go_ret
    exact ⟨by rw [← K.out]; rfl, HB1.out⟩
  · obtain ⟨b1, o1, x, hA1, hr1, c1⟩ := hsA.strRow (show n - 1 < n by omega)
    subst hA1
    have K := Lib.hid (show x = baseB p.data.toList by
      rw [← HG.out, List.getLast?_eq_getElem?, ← hn, hr1]; rfl)
    have hz : ((n : Int) == 0) = false := by simp; omega
    obtain ⟨m, rfl⟩ : ∃ m, n = m + 1 := ⟨n - 1, by omega⟩
    have c2 : w1.cell? ⟨b1, o1 + m, none⟩ = some (.string (str x)) := c1
    have e1 : ((m + 1 : Nat) : Int) - 1 = (m : Int) := by omega
    clear hb1 hsA hn h hr1 c1
    go_wp2_with fail
    go_ret
    exact ⟨by rw [← K.out]; rfl, HB1.out⟩
set_option maxRecDepth 100000 in
set_option maxHeartbeats 2000000 in
theorem refLess_any (p q : ByteArray) (X Y : List (List UInt8)) (w : World) (hX : splitB p.data.toList = X) (hY : splitB q.data.toList = Y) (hp : p.size ≤ 2097152) (hq : q.size ≤ 2097152) :
    Calls Try.prog 47 #[.string p, .string q] w fun e w' => e = .returned (.bool (lessP X Y)) ∧ Below w.heap.size w w' := by
  have HP := Lib.hid hp
  have HQ := Lib.hid hq
  have HX0 := Lib.hid hX
  have HY0 := Lib.hid hY
  clear hp hq hX hY
  go_enter Try.func47, Try.ntmps47
  go_wp2_with fail
  refine (refSplit_any p _ HP.out).mono ?_
  rintro e w1 ⟨⟨A, n, c, rfl, hn, hnc, hsA⟩, hb1⟩
  rw [HX0.out] at hn hsA
  have HB1 := Lib.hid hb1
  have HSA := Lib.hid hsA
  have HN := Lib.hid hn
  clear hb1 hsA hn
  go_wp2_with fail
  refine (refSplit_any q _ HQ.out).mono ?_
  rintro e w2 ⟨⟨B, m, d, rfl, hm, hmd, hsB⟩, hb2⟩
  rw [HY0.out] at hm hsB
  have HB2 := Lib.hid (HB1.out.trans (hb2.mono HB1.out.size))
  have HSA2 := Lib.hid (HSA.out.below hb2)
  have HSB2 := Lib.hid hsB
  have HM := Lib.hid hm
  clear hb2 hsB hm
  have hmx := HSB2.out.max
  have hmn := HSA2.out.max
  go_wp2_with fail
  go_loopw [7] (fun a wr => ∃ i k : Nat, a = .int .i64 i ∧ i ≤ m ∧ i ≤ n ∧ X.take i = Y.take i ∧ wr = w2.drewN k) (fun a _ => m - (intOf a).toNat)
  case atStart => exact ⟨0, 0, rfl, by omega, by omega, rfl, rfl⟩
  case round =>
    obtain ⟨i, k, rfl, him, hin, htk, rfl⟩ := hrel
    have HT := Lib.hid htk
    clear htk
    have fin : (n ≤ i ∨ m ≤ i) → Hid (lessP X Y = decide (n < m)) := fun h => Lib.hid (by
      have h1 := HN.out
      have h2 := HM.out
      rw [lessP_end HT.out (by omega) (by omega) (by omega), ← h1, ← h2])
    rcases Nat.lt_or_ge i n with h' | h'
    · rcases Nat.lt_or_ge i m with h | h
      · obtain ⟨b2, o2, y, hA2, hr2, c2⟩ := HSB2.out.strRow h
        subst hA2
        have HR2 := Lib.hid hr2
        obtain ⟨b1, o1, x, hA1, hr1, c1⟩ := HSA2.out.strRow h'
        subst hA1
        have HR1 := Lib.hid hr1
        clear hr1 hr2 fin
        by_cases hxy : x = y
        · subst hxy
          go_wp2_with fail
          go_quiet (fail)
          go_wp2_with fail
          go_roundw
          case rel => exact ⟨i+1, _, by go_num, by omega, by omega, by rw [take_snocS HR1.out, take_snocS HR2.out, HT.out], rfl⟩
          case measure => simp [intOf]; omega
        · have hne : (x == y) = false := by simpa using hxy
          have K := Lib.hid (lessP_ne HT.out HR1.out HR2.out hxy)
          clear hxy
          go_wp2_with fail
          go_quiet (fail)
          go_wp2_with fail
          go_quiet (fail)
          go_wp2_with fail
          go_ret
          exact ⟨by rw [K.out]; rfl, HB2.out.trans ⟨rfl, rfl, rfl, Nat.le_refl _, fun _ _ => rfl⟩⟩
      · have K := fin (.inr h)
        clear fin
        go_wp2_with fail
        go_ret
        exact ⟨by rw [K.out]; rfl, HB2.out.trans ⟨rfl, rfl, rfl, Nat.le_refl _, fun _ _ => rfl⟩⟩
    · have K := fin (.inl h')
      clear fin
      go_wp2_with fail
      go_ret
      exact ⟨by rw [K.out]; rfl, HB2.out.trans ⟨rfl, rfl, rfl, Nat.le_refl _, fun _ _ => rfl⟩⟩
end Go.Proofs.Ytcagonpnjionhaa

/-! Patterns: what they are, plain: no program here. -/
set_option linter.unusedVariables false
set_option linter.unusedSimpArgs false
namespace Go.Proofs.Ytcagonpnjionhaa
open Go.RowKit

/-- A sign: its kind (0 a byte, 1 **, 2 *, 3 ?, 4 a class), its byte, whether a class is turned round, its members. -/
structure Sg where
  k : Nat
  c : UInt8
  nt : Bool
  set : List Bool
def noSet : List Bool := List.replicate 256 false
theorem noSet_len : noSet.length = 256 := List.length_replicate
def lit (c : UInt8) : Sg := ⟨0, c, false, noSet⟩
/-- A member of a class at a place, and the place behind it. -/
def memberF (p : List UInt8) (at' : Nat) : Option (UInt8 × Nat) :=
  if p[at']? = some 92 then p[at' + 1]?.map fun c => (c, at' + 2) else p[at']?.map fun c => (c, at' + 1)
/-- All bytes of a range become members. -/
def setU (s : List Bool) (lo c : Nat) : List Bool := (List.range s.length).map fun j => if lo ≤ j ∧ j < c then true else s[j]?.getD false
def setR (s : List Bool) (lo hi : Nat) : List Bool := setU s lo (hi + 1)
theorem setU_len (s : List Bool) (lo c : Nat) : (setU s lo c).length = s.length := by simp [setU]
theorem setU_start (s : List Bool) (lo : Nat) : setU s lo lo = s := by
  unfold setU
  refine List.ext_getElem? fun j => ?_
  rw [List.getElem?_map]
  rcases Nat.lt_or_ge j s.length with h | h
  · rw [List.getElem?_range h]
    simp only [Option.map_some]
    rw [if_neg (by omega), List.getElem?_eq_getElem h]; rfl
  · rw [List.getElem?_eq_none (l := List.range s.length) (by simpa using h), List.getElem?_eq_none h]; rfl
theorem setU_step (s : List Bool) (lo c : Nat) (h : lo ≤ c) : (setU s lo c).set c true = setU s lo (c + 1) := by
  unfold setU
  refine List.ext_getElem? fun j => ?_
  rw [List.getElem?_set, List.getElem?_map, List.getElem?_map, List.length_map, List.length_range]
  rcases Nat.lt_or_ge j s.length with h1 | h1
  · rw [List.getElem?_range h1]
    simp only [Option.map_some]
    by_cases hc : c = j
    · subst hc
      rw [if_pos rfl, if_pos h1, if_pos (by omega)]
    · rw [if_neg hc]
      by_cases h2 : lo ≤ j ∧ j < c
      · rw [if_pos h2, if_pos (by omega)]
      · rw [if_neg h2, if_neg (by omega)]
  · rw [List.getElem?_eq_none (l := List.range s.length) (by simpa using h1)]
    split
    · rw [if_neg (by omega)]; rfl
    · rfl
/-- One member or range of a class: its bounds, and the place behind it. -/
def rangeF (p : List UInt8) (at' : Nat) : Option (UInt8 × UInt8 × Nat) :=
  match memberF p at' with
  | none => none
  | some (lo, next) =>
    if next + 1 < p.length ∧ p[next]? = some 45 ∧ p[next + 1]? ≠ some 93 then
      match memberF p (next + 1) with
      | none => none
      | some (hi, next2) => if hi.toNat < lo.toNat then none else some (lo, hi, next2)
    else some (lo, lo, next)
/-- The members of a class from a place on, and the place at which they end. -/
def membersF (p : List UInt8) : Nat → Nat → List Bool → Option (List Bool × Nat)
  | 0, at', s => some (s, at')
  | f+1, at', s =>
    if at' < p.length ∧ p[at']? ≠ some 93 then
      match rangeF p at' with
      | none => none
      | some (lo, hi, next) => membersF p f next (setR s lo.toNat hi.toNat)
    else some (s, at')
/-- A class whose text begins at a place. -/
def classF (p : List UInt8) (at' : Nat) : Option (Sg × Nat) :=
  let nt := decide (p[at']? = some 33)
  let first := if nt then at' + 1 else at'
  match membersF p p.length first noSet with
  | none => none
  | some (s, e) => if e < p.length ∧ first < e then some (⟨4, 0, nt, s⟩, e + 1) else none
/-- Stars from a place on end here. -/
def starF (p : List UInt8) : Nat → Nat → Nat
  | 0, at' => at'
  | f+1, at' => if p[at']? = some 42 then starF p f (at' + 1) else at'
/-- The sign at a place, and the place behind it. -/
def nextF (p : List UInt8) (i : Nat) (c : UInt8) : Option (Sg × Nat) :=
  if c = 42 then some (⟨if i + 1 < starF p p.length (i + 1) then 1 else 2, 0, false, noSet⟩, starF p p.length (i + 1))
  else if c = 63 then some (⟨3, 0, false, noSet⟩, i + 1)
  else if c = 91 then classF p (i + 1)
  else if c = 92 then p[i + 1]?.map fun d => (lit d, i + 2)
  else some (lit c, i + 1)
/-- The signs from a place on. -/
def signsF (p : List UInt8) : Nat → Nat → Option (List Sg)
  | 0, _ => some []
  | f+1, i =>
    match p[i]? with
    | none => some []
    | some c =>
      match nextF p i c with
      | none => none
      | some (g, j) => (signsF p f j).map (g :: ·)
def patF (p : List UInt8) : Option (List Sg) := signsF p p.length 0

theorem memberF_le {p : List UInt8} {i : Nat} {c : UInt8} {j : Nat} (h : memberF p i = some (c, j)) : i < j ∧ j ≤ p.length := by
  unfold memberF at h
  split at h
  · cases hx : p[i + 1]? with
    | none => rw [hx] at h; cases h
    | some d => rw [hx] at h; cases h; have := (List.getElem?_eq_some_iff.1 hx).1; omega
  · cases hx : p[i]? with
    | none => rw [hx] at h; cases h
    | some d => rw [hx] at h; cases h; have := (List.getElem?_eq_some_iff.1 hx).1; omega
theorem rangeF_le {p : List UInt8} {i : Nat} {lo hi : UInt8} {j : Nat} (h : rangeF p i = some (lo, hi, j)) : i < j ∧ j ≤ p.length ∧ lo.toNat ≤ hi.toNat := by
  unfold rangeF at h
  cases hm : memberF p i with
  | none => rw [hm] at h; cases h
  | some x =>
    obtain ⟨l, n⟩ := x
    rw [hm] at h
    have h1 := memberF_le hm
    simp only at h
    split at h
    · cases hm2 : memberF p (n + 1) with
      | none => rw [hm2] at h; cases h
      | some y =>
        obtain ⟨u, n2⟩ := y
        rw [hm2] at h
        have h2 := memberF_le hm2
        simp only at h
        split at h
        · cases h
        · cases h; omega
    · cases h; omega
theorem rangeF_none {p : List UInt8} {i : Nat} (h : memberF p i = none) : rangeF p i = none := by unfold rangeF; rw [h]
theorem rangeF_one {p : List UInt8} {i n : Nat} {lo : UInt8} (h : memberF p i = some (lo, n)) (hc : ¬ (n + 1 < p.length ∧ p[n]? = some 45 ∧ p[n + 1]? ≠ some 93)) : rangeF p i = some (lo, lo, n) := by
  unfold rangeF; rw [h]; simp only; rw [if_neg hc]
theorem rangeF_two {p : List UInt8} {i n : Nat} {lo : UInt8} (h : memberF p i = some (lo, n)) (hc : n + 1 < p.length ∧ p[n]? = some 45 ∧ p[n + 1]? ≠ some 93) :
    rangeF p i = match memberF p (n + 1) with | none => none | some (hi, n2) => if hi.toNat < lo.toNat then none else some (lo, hi, n2) := by
  unfold rangeF; rw [h]; simp only; rw [if_pos hc]
theorem setR_len (s : List Bool) (lo hi : Nat) : (setR s lo hi).length = s.length := setU_len _ _ _
/-- One more fuel makes no difference where the fuel was enough. -/
theorem membersF_fuel (p : List UInt8) : ∀ (f i : Nat) (s : List Bool), p.length ≤ i + f → membersF p (f + 1) i s = membersF p f i s
  | 0, i, s, h => by
    unfold membersF
    rw [if_neg (by omega)]
  | f+1, i, s, h => by
    rw [membersF]
    conv => rhs; rw [membersF]
    split
    · cases hr : rangeF p i with
      | none => rfl
      | some x =>
        obtain ⟨lo, hi, n⟩ := x
        have := rangeF_le hr
        simp only
        exact membersF_fuel p f n _ (by omega)
    · rfl
theorem membersF_end {p : List UInt8} {f i : Nat} {s : List Bool} (h : ¬ (i < p.length ∧ p[i]? ≠ some 93)) : membersF p f i s = some (s, i) := by
  cases f with
  | zero => rfl
  | succ f => rw [membersF, if_neg h]
theorem membersF_step {p : List UInt8} {f i : Nat} {s : List Bool} (h : i < p.length ∧ p[i]? ≠ some 93) (hf : p.length ≤ i + f) :
    membersF p f i s = match rangeF p i with | none => none | some (lo, hi, n) => membersF p f n (setR s lo.toNat hi.toNat) := by
  rw [← membersF_fuel p f i s hf, membersF, if_pos h]
theorem membersF_le : ∀ {p : List UInt8} (f i : Nat) {s t : List Bool} {e : Nat}, membersF p f i s = some (t, e) → i ≤ p.length → i ≤ e ∧ e ≤ p.length ∧ t.length = s.length
  | p, 0, i, s, t, e, h, hi => by cases h; exact ⟨Nat.le_refl _, hi, rfl⟩
  | p, f+1, i, s, t, e, h, hi => by
    rw [membersF] at h
    split at h
    · cases hr : rangeF p i with
      | none => rw [hr] at h; cases h
      | some x =>
        obtain ⟨lo, hi', n⟩ := x
        rw [hr] at h
        have h1 := rangeF_le hr
        have h2 := membersF_le f n h (by omega)
        rw [setR_len] at h2
        omega
    · cases h; exact ⟨Nat.le_refl _, hi, rfl⟩
theorem starF_le {p : List UInt8} : ∀ (f i : Nat), i ≤ starF p f i ∧ (i ≤ p.length → starF p f i ≤ p.length)
  | 0, i => ⟨Nat.le_refl _, id⟩
  | f+1, i => by
    rw [starF]
    split
    · rename_i h
      have h1 := (List.getElem?_eq_some_iff.1 h).1
      have := starF_le (p := p) f (i + 1)
      omega
    · exact ⟨Nat.le_refl _, id⟩
theorem starF_fuel (p : List UInt8) : ∀ (f i : Nat), p.length ≤ i + f → starF p (f + 1) i = starF p f i
  | 0, i, h => by
    show (if p[i]? = some 42 then starF p 0 (i + 1) else i) = i
    rw [List.getElem?_eq_none (by omega)]; rfl
  | f+1, i, h => by
    rw [starF]
    conv => rhs; rw [starF]
    split
    · exact starF_fuel p f (i + 1) (by omega)
    · rfl
theorem starF_step {p : List UInt8} {f i : Nat} (h : p[i]? = some 42) (hf : p.length ≤ i + f) : starF p f i = starF p f (i + 1) := by
  rw [← starF_fuel p f i hf, starF, if_pos h]
theorem starF_end {p : List UInt8} {f i : Nat} (h : p[i]? ≠ some 42) : starF p f i = i := by
  cases f with
  | zero => rfl
  | succ f => rw [starF, if_neg h]
theorem classF_le {p : List UInt8} {i : Nat} {g : Sg} {j : Nat} (h : classF p i = some (g, j)) (hi : i ≤ p.length) : i < j ∧ j ≤ p.length ∧ g.set.length = 256 ∧ g.k = 4 ∧ g.c = 0 := by
  unfold classF at h
  simp only at h
  have hf : (if decide (p[i]? = some 33) = true then i + 1 else i) ≤ p.length := by
    split
    · rename_i h0
      have := (List.getElem?_eq_some_iff.1 (of_decide_eq_true h0)).1
      omega
    · exact hi
  have hfi : i ≤ (if decide (p[i]? = some 33) = true then i + 1 else i) := by split <;> omega
  generalize (if decide (p[i]? = some 33) = true then i + 1 else i) = first at *
  cases hm : membersF p p.length first noSet with
  | none => rw [hm] at h; cases h
  | some x =>
    obtain ⟨s, e⟩ := x
    rw [hm] at h
    have h1 := membersF_le _ _ hm hf
    simp only at h
    split at h
    · cases h
      have : s.length = 256 := by rw [h1.2.2]; exact noSet_len
      exact ⟨by omega, by omega, this, rfl, rfl⟩
    · cases h
theorem nextF_le {p : List UInt8} {i : Nat} {c : UInt8} {g : Sg} {j : Nat} (hc : p[i]? = some c) (h : nextF p i c = some (g, j)) : i < j ∧ j ≤ p.length ∧ g.set.length = 256 := by
  have hi := (List.getElem?_eq_some_iff.1 hc).1
  unfold nextF at h
  split at h
  · cases h
    have := starF_le (p := p) p.length (i + 1)
    exact ⟨by omega, this.2 (by omega), noSet_len⟩
  split at h
  · cases h; exact ⟨by omega, by omega, noSet_len⟩
  split at h
  · have := classF_le h (by omega); exact ⟨by omega, by omega, this.2.2.1⟩
  split at h
  · cases hx : p[i + 1]? with
    | none => rw [hx] at h; cases h
    | some d => rw [hx] at h; cases h; have := (List.getElem?_eq_some_iff.1 hx).1; exact ⟨by omega, by omega, noSet_len⟩
  · cases h; exact ⟨by omega, by omega, noSet_len⟩
theorem signsF_fuel (p : List UInt8) : ∀ (f i : Nat), p.length ≤ i + f → signsF p (f + 1) i = signsF p f i
  | 0, i, h => by
    unfold signsF
    rw [List.getElem?_eq_none (by omega)]
  | f+1, i, h => by
    rw [signsF]
    conv => rhs; rw [signsF]
    cases hc : p[i]? with
    | none => rfl
    | some c =>
      simp only
      cases hn : nextF p i c with
      | none => rfl
      | some x =>
        obtain ⟨g, j⟩ := x
        have := nextF_le hc hn
        simp only
        rw [signsF_fuel p f j (by omega)]
theorem signsF_step {p : List UInt8} {f i : Nat} {c : UInt8} (hc : p[i]? = some c) (hf : p.length ≤ i + f) :
    signsF p f i = match nextF p i c with | none => none | some (g, j) => (signsF p f j).map (g :: ·) := by
  rw [← signsF_fuel p f i hf, signsF, hc]
theorem signsF_end {p : List UInt8} {f i : Nat} (h : p.length ≤ i) : signsF p f i = some [] := by
  cases f with
  | zero => rfl
  | succ f => rw [signsF, List.getElem?_eq_none h]
theorem signsF_len : ∀ {p : List UInt8} (f i : Nat) {L : List Sg}, signsF p f i = some L → i ≤ p.length → L.length ≤ p.length - i ∧ ∀ g ∈ L, g.set.length = 256
  | p, 0, i, L, h, hi => by cases h; exact ⟨by simp, by simp⟩
  | p, f+1, i, L, h, hi => by
    rw [signsF] at h
    cases hc : p[i]? with
    | none => rw [hc] at h; cases h; exact ⟨by simp, by simp⟩
    | some c =>
      rw [hc] at h
      simp only at h
      cases hn : nextF p i c with
      | none => rw [hn] at h; cases h
      | some x =>
        obtain ⟨g, j⟩ := x
        rw [hn] at h
        simp only at h
        have h1 := nextF_le hc hn
        cases hs : signsF p f j with
        | none => rw [hs] at h; cases h
        | some M =>
          rw [hs] at h
          cases h
          have h2 := signsF_len f j hs (by omega)
          refine ⟨by simp only [List.length_cons]; omega, fun g' hg => ?_⟩
          rcases List.mem_cons.1 hg with rfl | hg
          · exact h1.2.2
          · exact h2.2 g' hg
end Go.Proofs.Ytcagonpnjionhaa

/-! A member of a class, read: the program's and the document's. -/
set_option linter.unusedVariables false
set_option linter.unusedSimpArgs false
namespace Go.Proofs.Ytcagonpnjionhaa
open Go.RowKit

theorem at_data (s : ByteArray) (j : Nat) : s.data.toList[j]? = if h : j < s.size then some (s[j]'h) else none := by
  split
  · rename_i h; exact data_at s j h
  · rename_i h; rw [List.getElem?_eq_none]; rw [Array.length_toList]; exact Nat.le_of_not_lt h
/-- What is told of a member. -/
def tellM : Option (UInt8 × Nat) → Value
  | none => .tuple #[.int .u8 0, .int .i64 0, .bool false]
  | some (c, j) => .tuple #[.int .u8 c.toNat, .int .i64 j, .bool true]
set_option maxRecDepth 100000 in
theorem member_any (s : ByteArray) (i : Nat) (w : World) (hs : s.size ≤ 9223372036854775806) (hi : i ≤ s.size) :
    Calls Try.prog 85 #[.string s, .int .i64 i] w fun e w' => e = .returned (tellM (memberF s.data.toList i)) ∧ w' = w := by
  rcases Nat.lt_or_ge i s.size with h | h
  · by_cases hq : (s[i]'h).toNat = 92
    · have hq2 : (((s[i]'h).toNat : Int) == 92) = true := by simp [hq]
      have h92 : s.data.toList[i]? = some 92 := by
        rw [data_at s i h]; congr 1; exact UInt8.toNat_inj.1 (by rw [hq]; rfl)
      rcases Nat.lt_or_ge (i + 1) s.size with h' | h'
      · have K := Lib.hid (show tellM (memberF s.data.toList i) = .tuple #[.int .u8 (s[i + 1]'h').toNat, .int .i64 ((i : Int) + 1 + 1), .bool true] by
          unfold memberF; rw [if_pos h92, data_at s (i + 1) h']
          show Value.tuple #[.int .u8 (s[i + 1]'h').toNat, .int .i64 ((i + 2 : Nat) : Int), .bool true] = _
          rw [show ((i + 2 : Nat) : Int) = (i : Int) + 1 + 1 by omega])
        have e1 : ((i : Int) + 1).toNat = i + 1 := by omega
        clear hq h92
        go_enter Try.func85, Try.ntmps85
        go_wp2_with fail
        go_ret3
        exact ⟨by rw [K.out]; rfl, rfl⟩
      · have K := Lib.hid (show memberF s.data.toList i = none by unfold memberF; rw [if_pos h92, at_data, dif_neg (by omega)]; rfl)
        clear hq h92
        go_enter Try.func85, Try.ntmps85
        go_wp2_with fail
        go_ret3
        exact ⟨by rw [K.out]; rfl, rfl⟩
    · have hq2 : (((s[i]'h).toNat : Int) == 92) = false := by simp; omega
      have K := Lib.hid (show memberF s.data.toList i = some (s[i]'h, i + 1) by
        unfold memberF
        rw [if_neg (by rw [data_at s i h]; intro e; exact hq (by rw [Option.some.inj e]; rfl)), data_at s i h]; rfl)
      clear hq
      go_enter Try.func85, Try.ntmps85
      go_wp2_with fail
      go_ret3
      exact ⟨by rw [K.out]; rfl, rfl⟩
  · have K := Lib.hid (show memberF s.data.toList i = none by
      unfold memberF
      rw [at_data, dif_neg (by omega)]; rfl)
    go_enter Try.func85, Try.ntmps85
    go_wp2_with fail
    go_ret3
    exact ⟨by rw [K.out]; rfl, rfl⟩
set_option maxRecDepth 100000 in
theorem refMember_any (s : ByteArray) (i : Nat) (w : World) (hs : s.size ≤ 9223372036854775806) (hi : i ≤ s.size) :
    Calls Try.prog 91 #[.string s, .int .i64 i] w fun e w' => e = .returned (tellM (memberF s.data.toList i)) ∧ w' = w := by
  rcases Nat.lt_or_ge i s.size with h | h
  · by_cases hq : (s[i]'h).toNat = 92
    · have hq2 : (((s[i]'h).toNat : Int) == 92) = true := by simp [hq]
      have h92 : s.data.toList[i]? = some 92 := by
        rw [data_at s i h]; congr 1; exact UInt8.toNat_inj.1 (by rw [hq]; rfl)
      rcases Nat.lt_or_ge (i + 1) s.size with h' | h'
      · have K := Lib.hid (show tellM (memberF s.data.toList i) = .tuple #[.int .u8 (s[i + 1]'h').toNat, .int .i64 ((i : Int) + 1 + 1), .bool true] by
          unfold memberF; rw [if_pos h92, data_at s (i + 1) h']
          show Value.tuple #[.int .u8 (s[i + 1]'h').toNat, .int .i64 ((i + 2 : Nat) : Int), .bool true] = _
          rw [show ((i + 2 : Nat) : Int) = (i : Int) + 1 + 1 by omega])
        have e1 : ((i : Int) + 1).toNat = i + 1 := by omega
        clear hq h92
        go_enter Try.func91, Try.ntmps91
        go_wp2_with fail
        go_ret3
        exact ⟨by rw [K.out]; rfl, rfl⟩
      · have K := Lib.hid (show memberF s.data.toList i = none by unfold memberF; rw [if_pos h92, at_data, dif_neg (by omega)]; rfl)
        clear hq h92
        go_enter Try.func91, Try.ntmps91
        go_wp2_with fail
        go_ret3
        exact ⟨by rw [K.out]; rfl, rfl⟩
    · have hq2 : (((s[i]'h).toNat : Int) == 92) = false := by simp; omega
      have K := Lib.hid (show memberF s.data.toList i = some (s[i]'h, i + 1) by
        unfold memberF
        rw [if_neg (by rw [data_at s i h]; intro e; exact hq (by rw [Option.some.inj e]; rfl)), data_at s i h]; rfl)
      clear hq
      go_enter Try.func91, Try.ntmps91
      go_wp2_with fail
      go_ret3
      exact ⟨by rw [K.out]; rfl, rfl⟩
  · have K := Lib.hid (show memberF s.data.toList i = none by
      unfold memberF
      rw [at_data, dif_neg (by omega)]; rfl)
    go_enter Try.func91, Try.ntmps91
    go_wp2_with fail
    go_ret3
    exact ⟨by rw [K.out]; rfl, rfl⟩
end Go.Proofs.Ytcagonpnjionhaa
