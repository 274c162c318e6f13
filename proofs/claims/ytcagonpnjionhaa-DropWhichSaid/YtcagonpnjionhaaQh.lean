import Derived.Test.YtcagonpnjionhaaQg
import Derived.Test.YtcagonpnjionhaaQb
import Derived.Maps.OwnSet
import Derived.StringKeys
import Derived.Test.YtcagonpnjionhaaQa
/-! Entries, as both sides see them; what a meta may be. -/
set_option linter.unusedVariables false
set_option linter.unusedSimpArgs false
namespace Go.Proofs.Ytcagonpnjionhaa
open Go.RowKit

structure En where
  path : ByteArray
  kind : Int
  size : Int
  m0 : Int
  m1 : Int
  m2 : Int
  m3 : Int
  m4 : Int
  target : ByteArray
  sum : ByteArray
  group : Int
def encM (a b c d e : Int) : List Value := [.int .i64 a, .int .i64 b, .int .i64 c, .int .i64 d, .int .i64 e]
def aggE (x : En) : Value := .agg #[.string x.path, .int .i64 x.kind, .int .i64 x.size, .int .i64 x.m0, .int .i64 x.m1, .int .i64 x.m2, .int .i64 x.m3, .int .i64 x.m4, .string x.target, .string x.sum, .int .i64 x.group]
def encE (x : En) : List Value := [.string x.path, .int .i64 x.kind, .int .i64 x.size, .int .i64 x.m0, .int .i64 x.m1, .int .i64 x.m2, .int .i64 x.m3, .int .i64 x.m4, .string x.target, .string x.sum, .int .i64 x.group]
def encEs (l : List En) : List Value := l.flatMap encE
theorem encEs_at : ∀ {L : List En} {i : Nat} {x : En}, L[i]? = some x → ∀ j v, (encE x)[j]? = some v → (encEs L)[i * 11 + j]? = some v
  | [], _, _, h, _, _, _ => by simp at h
  | y :: L, 0, x, h, j, v, hv => by
    simp only [List.getElem?_cons_zero, Option.some.injEq] at h
    subst h
    show (encE y ++ encEs L)[0 * 11 + j]? = _
    rw [Nat.zero_mul, Nat.zero_add, List.getElem?_append_left (List.getElem?_eq_some_iff.1 hv).1]
    exact hv
  | y :: L, i+1, x, h, j, v, hv => by
    simp only [List.getElem?_cons_succ] at h
    show (encE y ++ encEs L)[(i + 1) * 11 + j]? = _
    have hl : (encE y).length = 11 := rfl
    rw [List.getElem?_append_right (by omega), hl, show (i + 1) * 11 + j - 11 = i * 11 + j by omega]
    exact encEs_at h j v hv
theorem encEs_len (L : List En) : (encEs L).length = L.length * 11 := by
  induction L with
  | nil => rfl
  | cons y L ih =>
    show (encE y ++ encEs L).length = _
    rw [List.length_append, ih, List.length_cons, show (encE y).length = 11 from rfl]; omega
theorem Sl.enLen {w : World} {A : Option Addr} {n : Nat} {L : List En} (h : Sl 11 w A n (encEs L)) : L.length = n := by have := h.len; rw [encEs_len] at this; omega
theorem Sl.enRow {w : World} {A : Option Addr} {n : Nat} {L : List En} (h : Sl 11 w A n (encEs L)) {i : Nat} (hi : i < n) :
    ∃ (b o : Nat) (x : En), A = some ⟨b, o, none⟩ ∧ L[i]? = some x ∧ SgAt w b (o + i * 11) (encE x) := by
  have hl : L.length = n := h.enLen
  have hx : L[i]? = some (L[i]'(by omega)) := List.getElem?_eq_getElem (by omega)
  rcases h.at_ with h0 | ⟨b, o, rfl, hc⟩
  · have : (encEs L).length = 0 := by rw [h0]; rfl
    rw [encEs_len] at this; omega
  · exact ⟨b, o, _, rfl, hx, fun j v hv => by have := hc _ v (encEs_at hx j v hv); rwa [← Nat.add_assoc] at this⟩
def inB (n lo hi : Int) : Bool := decide (lo ≤ n) && decide (n ≤ hi)
def metaOk (a b c d e : Int) : Bool := inB a 0 4095 && (inB b (-1099511627776) 1099511627776 && (inB c 0 999999999 && (inB d 0 2147483647 && inB e 0 2147483647)))
set_option maxRecDepth 100000 in
theorem metaIn_any (n lo hi : Int) (w : World) : Calls Try.prog 53 #[.int .i64 n, .int .i64 lo, .int .i64 hi] w fun e w' => e = .returned (.bool (inB n lo hi)) ∧ w' = w := by
  go_enter Try.func53, Try.ntmps53
  rcases Int.lt_or_le n lo with h | h
  · have K := Lib.hid (show inB n lo hi = false by unfold inB; rw [decide_eq_false (by omega)]; rfl)
    have h1 : decide (lo ≤ n) = false := decide_eq_false (by omega)
    have h2 : ¬ lo ≤ n := by omega
    clear h
    go_wp2_with fail
    go_ret
    exact ⟨by rw [K.out]; rfl, by trivial⟩
  rcases Int.lt_or_le hi n with h' | h'
  · have K := Lib.hid (show inB n lo hi = false by unfold inB; rw [decide_eq_false (p := n ≤ hi) (by omega)]; simp)
    have h1 : decide (lo ≤ n) = true := decide_eq_true h
    have h2 : ¬ n ≤ hi := by omega
    have h3 : decide (n ≤ hi) = false := decide_eq_false (by omega)
    clear h'
    go_wp2_with fail
    go_ret
    exact ⟨by rw [K.out]; rfl, by trivial⟩
  have K := Lib.hid (show inB n lo hi = true by unfold inB; rw [decide_eq_true h, decide_eq_true h']; rfl)
  have h1 : decide (lo ≤ n) = true := decide_eq_true h
  have h3 : decide (n ≤ hi) = true := decide_eq_true h'
  go_wp2_with fail
  go_ret
  exact ⟨by rw [K.out]; rfl, by trivial⟩
set_option maxRecDepth 100000 in
theorem refIn_any (n lo hi : Int) (w : World) : Calls Try.prog 73 #[.int .i64 n, .int .i64 lo, .int .i64 hi] w fun e w' => e = .returned (.bool (inB n lo hi)) ∧ w' = w := by
  go_enter Try.func73, Try.ntmps73
  rcases Int.lt_or_le n lo with h | h
  · have K := Lib.hid (show inB n lo hi = false by unfold inB; rw [decide_eq_false (by omega)]; rfl)
    have h1 : decide (lo ≤ n) = false := decide_eq_false (by omega)
    have h2 : ¬ lo ≤ n := by omega
    clear h
    go_wp2_with fail
    go_ret
    exact ⟨by rw [K.out]; rfl, by trivial⟩
  rcases Int.lt_or_le hi n with h' | h'
  · have K := Lib.hid (show inB n lo hi = false by unfold inB; rw [decide_eq_false (p := n ≤ hi) (by omega)]; simp)
    have h1 : decide (lo ≤ n) = true := decide_eq_true h
    have h2 : ¬ n ≤ hi := by omega
    have h3 : decide (n ≤ hi) = false := decide_eq_false (by omega)
    clear h'
    go_wp2_with fail
    go_ret
    exact ⟨by rw [K.out]; rfl, by trivial⟩
  have K := Lib.hid (show inB n lo hi = true by unfold inB; rw [decide_eq_true h, decide_eq_true h']; rfl)
  have h1 : decide (lo ≤ n) = true := decide_eq_true h
  have h3 : decide (n ≤ hi) = true := decide_eq_true h'
  go_wp2_with fail
  go_ret
  exact ⟨by rw [K.out]; rfl, by trivial⟩
set_option maxRecDepth 100000 in
set_option maxHeartbeats 1000000 in
theorem metaCheck_any (a b c d f : Int) (w : World) :
    Calls Try.prog 41 #[.agg #[.int .i64 a, .int .i64 b, .int .i64 c, .int .i64 d, .int .i64 f]] w fun e w' => e = .returned (.int .i64 (if metaOk a b c d f = true then 0 else 2)) ∧ Below w.heap.size w w' := by
  obtain ⟨X, hX⟩ : ∃ X : Int, (if metaOk a b c d f = true then 0 else 2) = X := ⟨_, rfl⟩
  have HX : Hid ((if (inB a 0 4095 && (inB b (-1099511627776) 1099511627776 && (inB c 0 999999999 && (inB d 0 2147483647 && inB f 0 2147483647)))) = true then 0 else 2) = X) := Lib.hid hX
  rw [hX]
  clear hX
  have hW := (Below.refl w.heap.size w).alloc (Nat.le_refl _) (.cells #[.int .i64 a, .int .i64 b, .int .i64 c, .int .i64 d, .int .i64 f] 35)
  have n0 := Blk.new w 35 [.int .i64 a, .int .i64 b, .int .i64 c, .int .i64 d, .int .i64 f]
  have HW := Lib.hid hW
  have HN := Lib.hid n0
  have H0 := Lib.hid (fun w => metaIn_any a 0 4095 w)
  have H1 := Lib.hid (fun w => metaIn_any b (-1099511627776) 1099511627776 w)
  have H2 := Lib.hid (fun w => metaIn_any c 0 999999999 w)
  have H3 := Lib.hid (fun w => metaIn_any d 0 2147483647 w)
  have H4 := Lib.hid (fun w => metaIn_any f 0 2147483647 w)
  generalize inB a 0 4095 = b0 at *
  generalize inB b (-1099511627776) 1099511627776 = b1 at *
  generalize inB c 0 999999999 = b2 at *
  generalize inB d 0 2147483647 = b3 at *
  generalize inB f 0 2147483647 = b4 at *
  clear hW n0
  go_enter Try.func41, Try.ntmps41
  go_wp2_with fail
  refine (H0.out _).mono ?_
  rintro e w1 ⟨rfl, rfl⟩
  cases b0 with
  | false =>
    have K := Lib.hid (show X = 2 by rw [← HX.out]; rfl)
    go_wp2_with fail
    go_ret
    exact ⟨by rw [K.out]; rfl, HW.out⟩
  | true =>
  go_wp2_with fail
  refine (H1.out _).mono ?_
  rintro e w1 ⟨rfl, rfl⟩
  cases b1 with
  | false =>
    have K := Lib.hid (show X = 2 by rw [← HX.out]; rfl)
    go_wp2_with fail
    go_ret
    exact ⟨by rw [K.out]; rfl, HW.out⟩
  | true =>
  go_wp2_with fail
  refine (H2.out _).mono ?_
  rintro e w1 ⟨rfl, rfl⟩
  cases b2 with
  | false =>
    have K := Lib.hid (show X = 2 by rw [← HX.out]; rfl)
    go_wp2_with fail
    go_ret
    exact ⟨by rw [K.out]; rfl, HW.out⟩
  | true =>
  go_wp2_with fail
  refine (H3.out _).mono ?_
  rintro e w1 ⟨rfl, rfl⟩
  cases b3 with
  | false =>
    have K := Lib.hid (show X = 2 by rw [← HX.out]; rfl)
    go_wp2_with fail
    go_ret
    exact ⟨by rw [K.out]; rfl, HW.out⟩
  | true =>
  go_wp2_with fail
  refine (H4.out _).mono ?_
  rintro e w1 ⟨rfl, rfl⟩
  cases b4 with
  | false =>
    have K := Lib.hid (show X = 2 by rw [← HX.out]; rfl)
    go_wp2_with fail
    go_ret
    exact ⟨by rw [K.out]; rfl, HW.out⟩
  | true =>
    have K := Lib.hid (show X = 0 by rw [← HX.out]; rfl)
    go_wp2_with fail
    go_ret
    exact ⟨by rw [K.out]; rfl, HW.out⟩
set_option maxRecDepth 100000 in
set_option maxHeartbeats 1000000 in
theorem refMeta_any (a b c d f : Int) (w : World) :
    Calls Try.prog 62 #[.agg #[.int .i64 a, .int .i64 b, .int .i64 c, .int .i64 d, .int .i64 f]] w fun e w' => e = .returned (.int .i64 (if metaOk a b c d f = true then 0 else 2)) ∧ Below w.heap.size w w' := by
  obtain ⟨X, hX⟩ : ∃ X : Int, (if metaOk a b c d f = true then 0 else 2) = X := ⟨_, rfl⟩
  have HX : Hid ((if (inB a 0 4095 && (inB b (-1099511627776) 1099511627776 && (inB c 0 999999999 && (inB d 0 2147483647 && inB f 0 2147483647)))) = true then 0 else 2) = X) := Lib.hid hX
  rw [hX]
  clear hX
  have hW := (Below.refl w.heap.size w).alloc (Nat.le_refl _) (.cells #[.int .i64 a, .int .i64 b, .int .i64 c, .int .i64 d, .int .i64 f] 35)
  have n0 := Blk.new w 35 [.int .i64 a, .int .i64 b, .int .i64 c, .int .i64 d, .int .i64 f]
  have HW := Lib.hid hW
  have HN := Lib.hid n0
  have H0 := Lib.hid (fun w => refIn_any a 0 4095 w)
  have H1 := Lib.hid (fun w => refIn_any b (-1099511627776) 1099511627776 w)
  have H2 := Lib.hid (fun w => refIn_any c 0 999999999 w)
  have H3 := Lib.hid (fun w => refIn_any d 0 2147483647 w)
  have H4 := Lib.hid (fun w => refIn_any f 0 2147483647 w)
  generalize inB a 0 4095 = b0 at *
  generalize inB b (-1099511627776) 1099511627776 = b1 at *
  generalize inB c 0 999999999 = b2 at *
  generalize inB d 0 2147483647 = b3 at *
  generalize inB f 0 2147483647 = b4 at *
  clear hW n0
  go_enter Try.func62, Try.ntmps62
  go_wp2_with fail
  refine (H0.out _).mono ?_
  rintro e w1 ⟨rfl, rfl⟩
  cases b0 with
  | false =>
    have K := Lib.hid (show X = 2 by rw [← HX.out]; rfl)
    go_wp2_with fail
    go_ret
    exact ⟨by rw [K.out]; rfl, HW.out⟩
  | true =>
  go_wp2_with fail
  refine (H1.out _).mono ?_
  rintro e w1 ⟨rfl, rfl⟩
  cases b1 with
  | false =>
    have K := Lib.hid (show X = 2 by rw [← HX.out]; rfl)
    go_wp2_with fail
    go_ret
    exact ⟨by rw [K.out]; rfl, HW.out⟩
  | true =>
  go_wp2_with fail
  refine (H2.out _).mono ?_
  rintro e w1 ⟨rfl, rfl⟩
  cases b2 with
  | false =>
    have K := Lib.hid (show X = 2 by rw [← HX.out]; rfl)
    go_wp2_with fail
    go_ret
    exact ⟨by rw [K.out]; rfl, HW.out⟩
  | true =>
  go_wp2_with fail
  refine (H3.out _).mono ?_
  rintro e w1 ⟨rfl, rfl⟩
  cases b3 with
  | false =>
    have K := Lib.hid (show X = 2 by rw [← HX.out]; rfl)
    go_wp2_with fail
    go_ret
    exact ⟨by rw [K.out]; rfl, HW.out⟩
  | true =>
  go_wp2_with fail
  refine (H4.out _).mono ?_
  rintro e w1 ⟨rfl, rfl⟩
  cases b4 with
  | false =>
    have K := Lib.hid (show X = 2 by rw [← HX.out]; rfl)
    go_wp2_with fail
    go_ret
    exact ⟨by rw [K.out]; rfl, HW.out⟩
  | true =>
    have K := Lib.hid (show X = 0 by rw [← HX.out]; rfl)
    go_wp2_with fail
    go_ret
    exact ⟨by rw [K.out]; rfl, HW.out⟩
end Go.Proofs.Ytcagonpnjionhaa

/-! What an entry may be by itself. Both sides. -/
set_option linter.unusedVariables false
set_option linter.unusedSimpArgs false
namespace Go.Proofs.Ytcagonpnjionhaa
open Go.RowKit

def TellE (ok : Bool) (e : Ending) : Prop := ∃ k : Int, e = .returned (.int .i64 k) ∧ (k == 0) = ok
def emptyS (s : ByteArray) : Bool := s.data.toList == []
def okE (x : En) : Bool := rightB x.path.data.toList && (!emptyS x.path && (metaOk x.m0 x.m1 x.m2 x.m3 x.m4 && (decide (0 ≤ x.size) && (
  if x.kind = 1 then decide (x.size ≤ 65536) && (emptyS x.target && ((emptyS x.sum || decide ((x.sum.size : Int) = 32)) && decide (0 ≤ x.group)))
  else if x.kind = 2 then decide (x.size ≤ 2147483647) && (emptyS x.target && (emptyS x.sum && decide (x.group = 0)))
  else if x.kind = 3 then !emptyS x.target && (decide ((x.target.size : Int) ≤ 200) && (decide (x.size = (x.target.size : Int)) && (emptyS x.sum && decide (x.group = 0))))
  else false))))
theorem emptyS_no {s : ByteArray} (h : ¬ s.size = 0) : emptyS s = false := by
  unfold emptyS
  have : s.data.toList ≠ [] := fun e => h (by have h2 : s.data.toList.length = 0 := by rw [e]; rfl
                                              rwa [Array.length_toList] at h2)
  simpa using this
theorem encE_cells {w : World} {g : Nat} {T : TypeId} {x : En} (h : Blk w g T (encE x)) : w.cell? ⟨g, 0, none⟩ = some (.string x.path) ∧ w.cell? ⟨g, 1, none⟩ = some (.int .i64 x.kind) ∧ w.cell? ⟨g, 2, none⟩ = some (.int .i64 x.size) ∧ w.cell? ⟨g, 3, none⟩ = some (.int .i64 x.m0) ∧ w.cell? ⟨g, 4, none⟩ = some (.int .i64 x.m1) ∧ w.cell? ⟨g, 5, none⟩ = some (.int .i64 x.m2) ∧ w.cell? ⟨g, 6, none⟩ = some (.int .i64 x.m3) ∧ w.cell? ⟨g, 7, none⟩ = some (.int .i64 x.m4) ∧ w.cell? ⟨g, 8, none⟩ = some (.string x.target) ∧ w.cell? ⟨g, 9, none⟩ = some (.string x.sum) ∧ w.cell? ⟨g, 10, none⟩ = some (.int .i64 x.group) :=
  ⟨h.cell 0, h.cell 1, h.cell 2, h.cell 3, h.cell 4, h.cell 5, h.cell 6, h.cell 7, h.cell 8, h.cell 9, h.cell 10⟩
set_option maxRecDepth 100000 in
set_option maxHeartbeats 8000000 in
theorem alone_any (x : En) (w : World) (hp : x.path.size ≤ 2097152) :
    Calls Try.prog 27 #[aggE x] w fun e w' => TellE (okE x) e ∧ Below w.heap.size w w' := by
  obtain ⟨X, hX⟩ : ∃ X, okE x = X := ⟨_, rfl⟩
  rw [hX]
  have HR := Lib.hid (fun w => right_any x.path _ w rfl hp)
  have HM := Lib.hid (fun w => metaCheck_any x.m0 x.m1 x.m2 x.m3 x.m4 w)
  have HX := Lib.hid (show (rightB x.path.data.toList && (!emptyS x.path && (metaOk x.m0 x.m1 x.m2 x.m3 x.m4 && (decide (0 ≤ x.size) && (if x.kind = 1 then decide (x.size ≤ 65536) && (emptyS x.target && ((emptyS x.sum || decide ((x.sum.size : Int) = 32)) && decide (0 ≤ x.group))) else if x.kind = 2 then decide (x.size ≤ 2147483647) && (emptyS x.target && (emptyS x.sum && decide (x.group = 0))) else if x.kind = 3 then !emptyS x.target && (decide ((x.target.size : Int) ≤ 200) && (decide (x.size = (x.target.size : Int)) && (emptyS x.sum && decide (x.group = 0)))) else false))))) = X from hX)
  clear hX
  obtain ⟨path, kind, size, m0, m1, m2, m3, m4, target, sum, group⟩ := x
  simp only at HX HR HM hp
  generalize rightB path.data.toList = rb at *
  generalize metaOk m0 m1 m2 m3 m4 = mo at *
  have HW := Lib.hid ((Below.refl w.heap.size w).alloc (Nat.le_refl _) (.cells #[.string path, .int .i64 kind, .int .i64 size, .int .i64 m0, .int .i64 m1, .int .i64 m2, .int .i64 m3, .int .i64 m4, .string target, .string sum, .int .i64 group] 37))
  have HN := Lib.hid (Blk.new w 37 (encE ⟨path, kind, size, m0, m1, m2, m3, m4, target, sum, group⟩))
  unfold aggE
  go_enter Try.func27, Try.ntmps27
  go_wp2_with fail
  refine (HR.out _).mono ?_
  rintro e w1 ⟨rfl, hb1⟩
  have N1 := Lib.hid (HN.out.below hb1)
  have B1 := Lib.hid (HW.out.trans (hb1.mono HW.out.size))
  clear hb1 HR HN HW
  obtain ⟨c0, c1, c2, c3, c4, c5, c6, c7, c8, c9, c10⟩ := encE_cells N1.out
  dsimp only at c0 c1 c2 c3 c4 c5 c6 c7 c8 c9 c10
  cases rb with
  | false =>
    have K := Lib.hid (show X = false by rw [← HX.out]; first | rfl | (simp; done) | (simp [show emptyS ⟨#[]⟩ = true from rfl]; done))
    go_wp2_with fail
    go_ret
    exact ⟨⟨_, rfl, by rw [K.out]; rfl⟩, B1.out⟩
  | true =>
  by_cases zpath : path.size = 0
  · obtain rfl : path = ⟨#[]⟩ := ByteArray.ext (Array.size_eq_zero_iff.1 zpath)
    clear zpath
    have K := Lib.hid (show X = false by rw [← HX.out]; first | rfl | (simp; done) | (simp [show emptyS ⟨#[]⟩ = true from rfl]; done))
    go_wp2_with fail
    go_ret
    exact ⟨⟨_, rfl, by rw [K.out]; rfl⟩, B1.out⟩
  have npath := nil_toList path zpath
  have HX := Lib.hid (by have := HX.out; rw [emptyS_no zpath] at this; exact this)
  clear zpath
  by_cases k1 : kind = 1
  · subst k1
    have HX := Lib.hid (show (mo && (decide (0 ≤ size) && (decide (size ≤ 65536) && (emptyS target && ((emptyS sum || decide ((sum.size : Int) = 32)) && decide (0 ≤ group)))))) = X from HX.out)
    go_wp2_with fail
    go_quiet (fail)
    go_wp2_with fail
    refine (HM.out _).mono ?_
    rintro e w3 ⟨rfl, hb3⟩
    have N3 := Lib.hid ((N1.out.drewN nq).below hb3)
    have B3 := Lib.hid ((below_drewN B1.out nq).trans (hb3.mono (below_drewN B1.out nq).size))
    clear hb3 c0 c1 c2 c3 c4 c5 c6 c7 c8 c9 c10 HM N1 B1
    obtain ⟨c0, c1, c2, c3, c4, c5, c6, c7, c8, c9, c10⟩ := encE_cells N3.out
    dsimp only at c0 c1 c2 c3 c4 c5 c6 c7 c8 c9 c10
    cases mo with
    | false =>
      have K := Lib.hid (show X = false by rw [← HX.out]; first | rfl | (simp; done) | (simp [show emptyS ⟨#[]⟩ = true from rfl]; done))
      go_wp2_with fail
      go_ret
      exact ⟨⟨_, rfl, by rw [K.out]; rfl⟩, B3.out⟩
    | true =>
    have HX := Lib.hid HX.out
    generalize hq : decide (0 ≤ size) = q at HX
    cases q with
    | false =>
      have f1 : size < 0 := by have := of_decide_eq_false hq; omega
      have f2 : decide (size < 0) = true := decide_eq_true f1
      clear hq
      have K := Lib.hid (show X = false by rw [← HX.out]; first | rfl | (simp; done) | (simp [show emptyS ⟨#[]⟩ = true from rfl]; done))
      go_wp2_with fail
      go_ret
      exact ⟨⟨_, rfl, by rw [K.out]; rfl⟩, B3.out⟩
    | true =>
    have f1 : ¬ (size < 0) := by have := of_decide_eq_true hq; omega
    have f2 : decide (size < 0) = false := decide_eq_false f1
    clear hq
    generalize hq : decide (size ≤ 65536) = q at HX
    cases q with
    | false =>
      have f1 : 65536 < size := by have := of_decide_eq_false hq; omega
      have f2 : decide (65536 < size) = true := decide_eq_true f1
      clear hq
      have K := Lib.hid (show X = false by rw [← HX.out]; first | rfl | (simp; done) | (simp [show emptyS ⟨#[]⟩ = true from rfl]; done))
      go_wp2_with fail
      go_ret
      exact ⟨⟨_, rfl, by rw [K.out]; rfl⟩, B3.out⟩
    | true =>
    have f1 : ¬ (65536 < size) := by have := of_decide_eq_true hq; omega
    have f2 : decide (65536 < size) = false := decide_eq_false f1
    clear hq
    by_cases ztarget : target.size = 0
    · obtain rfl : target = ⟨#[]⟩ := ByteArray.ext (Array.size_eq_zero_iff.1 ztarget)
      clear ztarget
      by_cases zsum : sum.size = 0
      · obtain rfl : sum = ⟨#[]⟩ := ByteArray.ext (Array.size_eq_zero_iff.1 zsum)
        clear zsum
        have HX := Lib.hid (by have := HX.out; rw [show emptyS ⟨#[]⟩ = true from rfl] at this; exact this)
        have HX := Lib.hid HX.out
        generalize hq : decide (0 ≤ group) = q at HX
        cases q with
        | false =>
          have f1 : group < 0 := by have := of_decide_eq_false hq; omega
          have f2 : decide (group < 0) = true := decide_eq_true f1
          clear hq
          have K := Lib.hid (show X = false by rw [← HX.out]; first | rfl | (simp; done) | (simp [show emptyS ⟨#[]⟩ = true from rfl]; done))
          go_wp2_with fail
          go_ret
          exact ⟨⟨_, rfl, by rw [K.out]; rfl⟩, B3.out⟩
        | true =>
        have f1 : ¬ (group < 0) := by have := of_decide_eq_true hq; omega
        have f2 : decide (group < 0) = false := decide_eq_false f1
        clear hq
        by_cases gz : group = 0
        · subst gz
          have K := Lib.hid (show X = true by rw [← HX.out]; first | rfl | (simp; done) | (simp [show emptyS ⟨#[]⟩ = true from rfl]; done))
          go_wp2_with fail
          go_ret
          exact ⟨⟨_, rfl, by rw [K.out]; rfl⟩, B3.out⟩
        have g3 : (group == 0) = false := by simpa using gz
        have g4 : (group != 0) = true := by simpa using gz
        have g5 : (0 : Int) < group := by omega
        have g6 : decide ((0 : Int) < group) = true := decide_eq_true g5
        clear gz
        have K := Lib.hid (show X = true by rw [← HX.out]; first | rfl | (simp; done) | (simp [show emptyS ⟨#[]⟩ = true from rfl]; done))
        go_wp2_with fail
        go_ret
        exact ⟨⟨_, rfl, by rw [K.out]; rfl⟩, B3.out⟩
      have nsum := nil_toList sum zsum
      have HX := Lib.hid (by have := HX.out; rw [emptyS_no zsum, Bool.false_or] at this; exact this)
      clear zsum
      generalize hq : decide ((sum.size : Int) = 32) = q at HX
      cases q with
      | false =>
        have hq := of_decide_eq_false hq
        have g1 : ((sum.size : Int) == 32) = false := by simpa using hq
        have g2 : ((sum.size : Int) != 32) = true := by simpa using hq
        clear hq
        have K := Lib.hid (show X = false by rw [← HX.out]; first | rfl | (simp; done) | (simp [show emptyS ⟨#[]⟩ = true from rfl]; done))
        go_wp2_with fail
        go_ret
        exact ⟨⟨_, rfl, by rw [K.out]; rfl⟩, B3.out⟩
      | true =>
      have hq := of_decide_eq_true hq
      have g1 : ((sum.size : Int) == 32) = true := by simpa using hq
      have g2 : ((sum.size : Int) != 32) = false := by simpa using hq
      clear hq
      generalize hq : decide (0 ≤ group) = q at HX
      cases q with
      | false =>
        have f1 : group < 0 := by have := of_decide_eq_false hq; omega
        have f2 : decide (group < 0) = true := decide_eq_true f1
        clear hq
        have K := Lib.hid (show X = false by rw [← HX.out]; first | rfl | (simp; done) | (simp [show emptyS ⟨#[]⟩ = true from rfl]; done))
        go_wp2_with fail
        go_ret
        exact ⟨⟨_, rfl, by rw [K.out]; rfl⟩, B3.out⟩
      | true =>
      have f1 : ¬ (group < 0) := by have := of_decide_eq_true hq; omega
      have f2 : decide (group < 0) = false := decide_eq_false f1
      clear hq
      by_cases gz : group = 0
      · subst gz
        have K := Lib.hid (show X = true by rw [← HX.out]; first | rfl | (simp; done) | (simp [show emptyS ⟨#[]⟩ = true from rfl]; done))
        go_wp2_with fail
        go_ret
        exact ⟨⟨_, rfl, by rw [K.out]; rfl⟩, B3.out⟩
      have g3 : (group == 0) = false := by simpa using gz
      have g4 : (group != 0) = true := by simpa using gz
      have g5 : (0 : Int) < group := by omega
      have g6 : decide ((0 : Int) < group) = true := decide_eq_true g5
      clear gz
      have K := Lib.hid (show X = true by rw [← HX.out]; first | rfl | (simp; done) | (simp [show emptyS ⟨#[]⟩ = true from rfl]; done))
      go_wp2_with fail
      go_ret
      exact ⟨⟨_, rfl, by rw [K.out]; rfl⟩, B3.out⟩
    · have ntarget := nil_toList target ztarget
      have HX := Lib.hid (by have := HX.out; rw [emptyS_no ztarget] at this; exact this)
      clear ztarget
      have K := Lib.hid (show X = false by rw [← HX.out]; first | rfl | (simp; done) | (simp [show emptyS ⟨#[]⟩ = true from rfl]; done))
      go_wp2_with fail
      go_ret
      exact ⟨⟨_, rfl, by rw [K.out]; rfl⟩, B3.out⟩
  by_cases k2 : kind = 2
  · subst k2
    clear k1
    have HX := Lib.hid (show (mo && (decide (0 ≤ size) && (decide (size ≤ 2147483647) && (emptyS target && (emptyS sum && decide (group = 0)))))) = X from HX.out)
    go_wp2_with fail
    go_quiet (fail)
    go_wp2_with fail
    refine (HM.out _).mono ?_
    rintro e w3 ⟨rfl, hb3⟩
    have N3 := Lib.hid ((N1.out.drewN nq).below hb3)
    have B3 := Lib.hid ((below_drewN B1.out nq).trans (hb3.mono (below_drewN B1.out nq).size))
    clear hb3 c0 c1 c2 c3 c4 c5 c6 c7 c8 c9 c10 HM N1 B1
    obtain ⟨c0, c1, c2, c3, c4, c5, c6, c7, c8, c9, c10⟩ := encE_cells N3.out
    dsimp only at c0 c1 c2 c3 c4 c5 c6 c7 c8 c9 c10
    cases mo with
    | false =>
      have K := Lib.hid (show X = false by rw [← HX.out]; first | rfl | (simp; done) | (simp [show emptyS ⟨#[]⟩ = true from rfl]; done))
      go_wp2_with fail
      go_ret
      exact ⟨⟨_, rfl, by rw [K.out]; rfl⟩, B3.out⟩
    | true =>
    have HX := Lib.hid HX.out
    generalize hq : decide (0 ≤ size) = q at HX
    cases q with
    | false =>
      have f1 : size < 0 := by have := of_decide_eq_false hq; omega
      have f2 : decide (size < 0) = true := decide_eq_true f1
      clear hq
      have K := Lib.hid (show X = false by rw [← HX.out]; first | rfl | (simp; done) | (simp [show emptyS ⟨#[]⟩ = true from rfl]; done))
      go_wp2_with fail
      go_ret
      exact ⟨⟨_, rfl, by rw [K.out]; rfl⟩, B3.out⟩
    | true =>
    have f1 : ¬ (size < 0) := by have := of_decide_eq_true hq; omega
    have f2 : decide (size < 0) = false := decide_eq_false f1
    clear hq
    generalize hq : decide (size ≤ 2147483647) = q at HX
    cases q with
    | false =>
      have f1 : 2147483647 < size := by have := of_decide_eq_false hq; omega
      have f2 : decide (2147483647 < size) = true := decide_eq_true f1
      clear hq
      have K := Lib.hid (show X = false by rw [← HX.out]; first | rfl | (simp; done) | (simp [show emptyS ⟨#[]⟩ = true from rfl]; done))
      go_wp2_with fail
      go_ret
      exact ⟨⟨_, rfl, by rw [K.out]; rfl⟩, B3.out⟩
    | true =>
    have f1 : ¬ (2147483647 < size) := by have := of_decide_eq_true hq; omega
    have f2 : decide (2147483647 < size) = false := decide_eq_false f1
    clear hq
    by_cases ztarget : target.size = 0
    · obtain rfl : target = ⟨#[]⟩ := ByteArray.ext (Array.size_eq_zero_iff.1 ztarget)
      clear ztarget
      by_cases zsum : sum.size = 0
      · obtain rfl : sum = ⟨#[]⟩ := ByteArray.ext (Array.size_eq_zero_iff.1 zsum)
        clear zsum
        by_cases gz : group = 0
        · subst gz
          have K := Lib.hid (show X = true by rw [← HX.out]; first | rfl | (simp; done) | (simp [show emptyS ⟨#[]⟩ = true from rfl]; done))
          go_wp2_with fail
          go_ret
          exact ⟨⟨_, rfl, by rw [K.out]; rfl⟩, B3.out⟩
        have g3 : (group == 0) = false := by simpa using gz
        have g4 : (group != 0) = true := by simpa using gz
        have HX := Lib.hid (by have := HX.out; rw [decide_eq_false gz] at this; exact this)
        have K := Lib.hid (show X = false by rw [← HX.out]; first | rfl | (simp; done) | (simp [show emptyS ⟨#[]⟩ = true from rfl]; done))
        go_wp2_with fail
        go_ret
        exact ⟨⟨_, rfl, by rw [K.out]; rfl⟩, B3.out⟩
      · have nsum := nil_toList sum zsum
        have HX := Lib.hid (by have := HX.out; rw [emptyS_no zsum] at this; exact this)
        clear zsum
        have K := Lib.hid (show X = false by rw [← HX.out]; first | rfl | (simp; done) | (simp [show emptyS ⟨#[]⟩ = true from rfl]; done))
        go_wp2_with fail
        go_ret
        exact ⟨⟨_, rfl, by rw [K.out]; rfl⟩, B3.out⟩
    · have ntarget := nil_toList target ztarget
      have HX := Lib.hid (by have := HX.out; rw [emptyS_no ztarget] at this; exact this)
      clear ztarget
      have K := Lib.hid (show X = false by rw [← HX.out]; first | rfl | (simp; done) | (simp [show emptyS ⟨#[]⟩ = true from rfl]; done))
      go_wp2_with fail
      go_ret
      exact ⟨⟨_, rfl, by rw [K.out]; rfl⟩, B3.out⟩
  by_cases k3 : kind = 3
  · subst k3
    clear k1 k2
    have HX := Lib.hid (show (mo && (decide (0 ≤ size) && (!emptyS target && (decide ((target.size : Int) ≤ 200) && (decide (size = (target.size : Int)) && (emptyS sum && decide (group = 0))))))) = X from HX.out)
    go_wp2_with fail
    go_quiet (fail)
    go_wp2_with fail
    refine (HM.out _).mono ?_
    rintro e w3 ⟨rfl, hb3⟩
    have N3 := Lib.hid ((N1.out.drewN nq).below hb3)
    have B3 := Lib.hid ((below_drewN B1.out nq).trans (hb3.mono (below_drewN B1.out nq).size))
    clear hb3 c0 c1 c2 c3 c4 c5 c6 c7 c8 c9 c10 HM N1 B1
    obtain ⟨c0, c1, c2, c3, c4, c5, c6, c7, c8, c9, c10⟩ := encE_cells N3.out
    dsimp only at c0 c1 c2 c3 c4 c5 c6 c7 c8 c9 c10
    cases mo with
    | false =>
      have K := Lib.hid (show X = false by rw [← HX.out]; first | rfl | (simp; done) | (simp [show emptyS ⟨#[]⟩ = true from rfl]; done))
      go_wp2_with fail
      go_ret
      exact ⟨⟨_, rfl, by rw [K.out]; rfl⟩, B3.out⟩
    | true =>
    have HX := Lib.hid HX.out
    generalize hq : decide (0 ≤ size) = q at HX
    cases q with
    | false =>
      have f1 : size < 0 := by have := of_decide_eq_false hq; omega
      have f2 : decide (size < 0) = true := decide_eq_true f1
      clear hq
      have K := Lib.hid (show X = false by rw [← HX.out]; first | rfl | (simp; done) | (simp [show emptyS ⟨#[]⟩ = true from rfl]; done))
      go_wp2_with fail
      go_ret
      exact ⟨⟨_, rfl, by rw [K.out]; rfl⟩, B3.out⟩
    | true =>
    have f1 : ¬ (size < 0) := by have := of_decide_eq_true hq; omega
    have f2 : decide (size < 0) = false := decide_eq_false f1
    clear hq
    rcases Int.lt_or_le 65536 size with sb | sb
    · have f3 : 65536 < size := sb
      have f4 : decide (65536 < size) = true := decide_eq_true sb
      have K := Lib.hid (show X = false by
        rw [← HX.out]
        rcases Int.lt_or_le 200 (target.size : Int) with h | h
        · rw [decide_eq_false (p := (target.size : Int) ≤ 200) (by omega)]; simp
        · rw [decide_eq_false (p := size = (target.size : Int)) (by omega)]; simp)
      go_wp2_with fail
      go_ret
      exact ⟨⟨_, rfl, by rw [K.out]; rfl⟩, B3.out⟩
    have f3 : ¬ 65536 < size := by omega
    have f4 : decide (65536 < size) = false := decide_eq_false f3
    clear sb
    by_cases ztarget : target.size = 0
    · obtain rfl : target = ⟨#[]⟩ := ByteArray.ext (Array.size_eq_zero_iff.1 ztarget)
      clear ztarget
      have K := Lib.hid (show X = false by rw [← HX.out]; first | rfl | (simp; done) | (simp [show emptyS ⟨#[]⟩ = true from rfl]; done))
      go_wp2_with fail
      go_ret
      exact ⟨⟨_, rfl, by rw [K.out]; rfl⟩, B3.out⟩
    have ntarget := nil_toList target ztarget
    have HX := Lib.hid (by have := HX.out; rw [emptyS_no ztarget] at this; exact this)
    clear ztarget
    generalize hq : decide ((target.size : Int) ≤ 200) = q at HX
    cases q with
    | false =>
      have f1 : 200 < (target.size : Int) := by have := of_decide_eq_false hq; omega
      have f2 : decide (200 < (target.size : Int)) = true := decide_eq_true f1
      clear hq
      have K := Lib.hid (show X = false by rw [← HX.out]; first | rfl | (simp; done) | (simp [show emptyS ⟨#[]⟩ = true from rfl]; done))
      go_wp2_with fail
      go_ret
      exact ⟨⟨_, rfl, by rw [K.out]; rfl⟩, B3.out⟩
    | true =>
    have f1 : ¬ (200 < (target.size : Int)) := by have := of_decide_eq_true hq; omega
    have f2 : decide (200 < (target.size : Int)) = false := decide_eq_false f1
    clear hq
    generalize hq : decide (size = (target.size : Int)) = q at HX
    cases q with
    | false =>
      have hq := of_decide_eq_false hq
      have g1 : (size == (target.size : Int)) = false := by simpa using hq
      have g2 : (size != (target.size : Int)) = true := by simpa using hq
      clear hq
      have K := Lib.hid (show X = false by rw [← HX.out]; first | rfl | (simp; done) | (simp [show emptyS ⟨#[]⟩ = true from rfl]; done))
      go_wp2_with fail
      go_ret
      exact ⟨⟨_, rfl, by rw [K.out]; rfl⟩, B3.out⟩
    | true =>
    have hq := of_decide_eq_true hq
    have g1 : (size == (target.size : Int)) = true := by simpa using hq
    have g2 : (size != (target.size : Int)) = false := by simpa using hq
    clear hq
    by_cases zsum : sum.size = 0
    · obtain rfl : sum = ⟨#[]⟩ := ByteArray.ext (Array.size_eq_zero_iff.1 zsum)
      clear zsum
      by_cases gz : group = 0
      · subst gz
        have K := Lib.hid (show X = true by rw [← HX.out]; first | rfl | (simp; done) | (simp [show emptyS ⟨#[]⟩ = true from rfl]; done))
        go_wp2_with fail
        go_ret
        exact ⟨⟨_, rfl, by rw [K.out]; rfl⟩, B3.out⟩
      have g3 : (group == 0) = false := by simpa using gz
      have g4 : (group != 0) = true := by simpa using gz
      have HX := Lib.hid (by have := HX.out; rw [decide_eq_false gz] at this; exact this)
      have K := Lib.hid (show X = false by rw [← HX.out]; first | rfl | (simp; done) | (simp [show emptyS ⟨#[]⟩ = true from rfl]; done))
      go_wp2_with fail
      go_ret
      exact ⟨⟨_, rfl, by rw [K.out]; rfl⟩, B3.out⟩
    · have nsum := nil_toList sum zsum
      have HX := Lib.hid (by have := HX.out; rw [emptyS_no zsum] at this; exact this)
      clear zsum
      have K := Lib.hid (show X = false by rw [← HX.out]; first | rfl | (simp; done) | (simp [show emptyS ⟨#[]⟩ = true from rfl]; done))
      go_wp2_with fail
      go_ret
      exact ⟨⟨_, rfl, by rw [K.out]; rfl⟩, B3.out⟩
  have HX := Lib.hid (by have := HX.out; rw [if_neg k1, if_neg k2, if_neg k3] at this; exact this)
  have y1 : (kind == 1) = false := by simpa using k1
  have v1 : (kind != 1) = true := by simpa using k1
  have y2 : (kind == 2) = false := by simpa using k2
  have v2 : (kind != 2) = true := by simpa using k2
  have y3 : (kind == 3) = false := by simpa using k3
  have v3 : (kind != 3) = true := by simpa using k3
  clear k1 k2 k3
  have K := Lib.hid (show X = false by rw [← HX.out]; simp)
  go_wp2_with fail
  go_quiet (fail)
  go_wp2_with fail
  go_ret
  exact ⟨⟨_, rfl, by rw [K.out]; rfl⟩, below_drewN B1.out _⟩
set_option maxRecDepth 100000 in
set_option maxHeartbeats 8000000 in
theorem may_any (x : En) (w : World) (hp : x.path.size ≤ 2097152) :
    Calls Try.prog 46 #[aggE x] w fun e w' => TellE (okE x) e ∧ Below w.heap.size w w' := by
  obtain ⟨X, hX⟩ : ∃ X, okE x = X := ⟨_, rfl⟩
  rw [hX]
  have HR := Lib.hid (fun w => refRight_any x.path _ w rfl hp)
  have HM := Lib.hid (fun w => refMeta_any x.m0 x.m1 x.m2 x.m3 x.m4 w)
  have HX := Lib.hid (show (rightB x.path.data.toList && (!emptyS x.path && (metaOk x.m0 x.m1 x.m2 x.m3 x.m4 && (decide (0 ≤ x.size) && (if x.kind = 1 then decide (x.size ≤ 65536) && (emptyS x.target && ((emptyS x.sum || decide ((x.sum.size : Int) = 32)) && decide (0 ≤ x.group))) else if x.kind = 2 then decide (x.size ≤ 2147483647) && (emptyS x.target && (emptyS x.sum && decide (x.group = 0))) else if x.kind = 3 then !emptyS x.target && (decide ((x.target.size : Int) ≤ 200) && (decide (x.size = (x.target.size : Int)) && (emptyS x.sum && decide (x.group = 0)))) else false))))) = X from hX)
  clear hX
  obtain ⟨path, kind, size, m0, m1, m2, m3, m4, target, sum, group⟩ := x
  simp only at HX HR HM hp
  generalize rightB path.data.toList = rb at *
  generalize metaOk m0 m1 m2 m3 m4 = mo at *
  have HW := Lib.hid ((Below.refl w.heap.size w).alloc (Nat.le_refl _) (.cells #[.string path, .int .i64 kind, .int .i64 size, .int .i64 m0, .int .i64 m1, .int .i64 m2, .int .i64 m3, .int .i64 m4, .string target, .string sum, .int .i64 group] 37))
  have HN := Lib.hid (Blk.new w 37 (encE ⟨path, kind, size, m0, m1, m2, m3, m4, target, sum, group⟩))
  unfold aggE
  go_enter Try.func46, Try.ntmps46
  go_wp2_with fail
  refine (HR.out _).mono ?_
  rintro e w1 ⟨rfl, hb1⟩
  have N1 := Lib.hid (HN.out.below hb1)
  have B1 := Lib.hid (HW.out.trans (hb1.mono HW.out.size))
  clear hb1 HR HN HW
  obtain ⟨c0, c1, c2, c3, c4, c5, c6, c7, c8, c9, c10⟩ := encE_cells N1.out
  dsimp only at c0 c1 c2 c3 c4 c5 c6 c7 c8 c9 c10
  cases rb with
  | false =>
    have K := Lib.hid (show X = false by rw [← HX.out]; first | rfl | (simp; done) | (simp [show emptyS ⟨#[]⟩ = true from rfl]; done))
    go_wp2_with fail
    go_ret
    exact ⟨⟨_, rfl, by rw [K.out]; rfl⟩, B1.out⟩
  | true =>
  by_cases zpath : path.size = 0
  · obtain rfl : path = ⟨#[]⟩ := ByteArray.ext (Array.size_eq_zero_iff.1 zpath)
    clear zpath
    have K := Lib.hid (show X = false by rw [← HX.out]; first | rfl | (simp; done) | (simp [show emptyS ⟨#[]⟩ = true from rfl]; done))
    go_wp2_with fail
    go_ret
    exact ⟨⟨_, rfl, by rw [K.out]; rfl⟩, B1.out⟩
  have npath := nil_toList path zpath
  have HX := Lib.hid (by have := HX.out; rw [emptyS_no zpath] at this; exact this)
  clear zpath
  by_cases k1 : kind = 1
  · subst k1
    have HX := Lib.hid (show (mo && (decide (0 ≤ size) && (decide (size ≤ 65536) && (emptyS target && ((emptyS sum || decide ((sum.size : Int) = 32)) && decide (0 ≤ group)))))) = X from HX.out)
    go_wp2_with fail
    go_quiet (fail)
    go_wp2_with fail
    refine (HM.out _).mono ?_
    rintro e w3 ⟨rfl, hb3⟩
    have N3 := Lib.hid ((N1.out.drewN nq).below hb3)
    have B3 := Lib.hid ((below_drewN B1.out nq).trans (hb3.mono (below_drewN B1.out nq).size))
    clear hb3 c0 c1 c2 c3 c4 c5 c6 c7 c8 c9 c10 HM N1 B1
    obtain ⟨c0, c1, c2, c3, c4, c5, c6, c7, c8, c9, c10⟩ := encE_cells N3.out
    dsimp only at c0 c1 c2 c3 c4 c5 c6 c7 c8 c9 c10
    cases mo with
    | false =>
      have K := Lib.hid (show X = false by rw [← HX.out]; first | rfl | (simp; done) | (simp [show emptyS ⟨#[]⟩ = true from rfl]; done))
      go_wp2_with fail
      go_ret
      exact ⟨⟨_, rfl, by rw [K.out]; rfl⟩, B3.out⟩
    | true =>
    have HX := Lib.hid HX.out
    by_cases ztarget : target.size = 0
    · obtain rfl : target = ⟨#[]⟩ := ByteArray.ext (Array.size_eq_zero_iff.1 ztarget)
      clear ztarget
      generalize hq : decide (0 ≤ size) = q at HX
      cases q with
      | false =>
        have f1 : size < 0 := by have := of_decide_eq_false hq; omega
        have f2 : decide (size < 0) = true := decide_eq_true f1
        clear hq
        have K := Lib.hid (show X = false by rw [← HX.out]; first | rfl | (simp; done) | (simp [show emptyS ⟨#[]⟩ = true from rfl]; done))
        go_wp2_with fail
        go_ret
        exact ⟨⟨_, rfl, by rw [K.out]; rfl⟩, B3.out⟩
      | true =>
      have f1 : ¬ (size < 0) := by have := of_decide_eq_true hq; omega
      have f2 : decide (size < 0) = false := decide_eq_false f1
      clear hq
      generalize hq : decide (size ≤ 65536) = q at HX
      cases q with
      | false =>
        have f1 : 65536 < size := by have := of_decide_eq_false hq; omega
        have f2 : decide (65536 < size) = true := decide_eq_true f1
        clear hq
        have K := Lib.hid (show X = false by rw [← HX.out]; first | rfl | (simp; done) | (simp [show emptyS ⟨#[]⟩ = true from rfl]; done))
        go_wp2_with fail
        go_ret
        exact ⟨⟨_, rfl, by rw [K.out]; rfl⟩, B3.out⟩
      | true =>
      have f1 : ¬ (65536 < size) := by have := of_decide_eq_true hq; omega
      have f2 : decide (65536 < size) = false := decide_eq_false f1
      clear hq
      by_cases zsum : sum.size = 0
      · obtain rfl : sum = ⟨#[]⟩ := ByteArray.ext (Array.size_eq_zero_iff.1 zsum)
        clear zsum
        have HX := Lib.hid (by have := HX.out; rw [show emptyS ⟨#[]⟩ = true from rfl] at this; exact this)
        have HX := Lib.hid HX.out
        generalize hq : decide (0 ≤ group) = q at HX
        cases q with
        | false =>
          have f1 : group < 0 := by have := of_decide_eq_false hq; omega
          have f2 : decide (group < 0) = true := decide_eq_true f1
          clear hq
          have K := Lib.hid (show X = false by rw [← HX.out]; first | rfl | (simp; done) | (simp [show emptyS ⟨#[]⟩ = true from rfl]; done))
          go_wp2_with fail
          go_ret
          exact ⟨⟨_, rfl, by rw [K.out]; rfl⟩, B3.out⟩
        | true =>
        have f1 : ¬ (group < 0) := by have := of_decide_eq_true hq; omega
        have f2 : decide (group < 0) = false := decide_eq_false f1
        clear hq
        by_cases gz : group = 0
        · subst gz
          have K := Lib.hid (show X = true by rw [← HX.out]; first | rfl | (simp; done) | (simp [show emptyS ⟨#[]⟩ = true from rfl]; done))
          go_wp2_with fail
          go_ret
          exact ⟨⟨_, rfl, by rw [K.out]; rfl⟩, B3.out⟩
        have g3 : (group == 0) = false := by simpa using gz
        have g4 : (group != 0) = true := by simpa using gz
        have g5 : (0 : Int) < group := by omega
        have g6 : decide ((0 : Int) < group) = true := decide_eq_true g5
        clear gz
        have K := Lib.hid (show X = true by rw [← HX.out]; first | rfl | (simp; done) | (simp [show emptyS ⟨#[]⟩ = true from rfl]; done))
        go_wp2_with fail
        go_ret
        exact ⟨⟨_, rfl, by rw [K.out]; rfl⟩, B3.out⟩
      have nsum := nil_toList sum zsum
      have HX := Lib.hid (by have := HX.out; rw [emptyS_no zsum, Bool.false_or] at this; exact this)
      clear zsum
      generalize hq : decide ((sum.size : Int) = 32) = q at HX
      cases q with
      | false =>
        have hq := of_decide_eq_false hq
        have g1 : ((sum.size : Int) == 32) = false := by simpa using hq
        have g2 : ((sum.size : Int) != 32) = true := by simpa using hq
        clear hq
        have K := Lib.hid (show X = false by rw [← HX.out]; first | rfl | (simp; done) | (simp [show emptyS ⟨#[]⟩ = true from rfl]; done))
        go_wp2_with fail
        go_ret
        exact ⟨⟨_, rfl, by rw [K.out]; rfl⟩, B3.out⟩
      | true =>
      have hq := of_decide_eq_true hq
      have g1 : ((sum.size : Int) == 32) = true := by simpa using hq
      have g2 : ((sum.size : Int) != 32) = false := by simpa using hq
      clear hq
      generalize hq : decide (0 ≤ group) = q at HX
      cases q with
      | false =>
        have f1 : group < 0 := by have := of_decide_eq_false hq; omega
        have f2 : decide (group < 0) = true := decide_eq_true f1
        clear hq
        have K := Lib.hid (show X = false by rw [← HX.out]; first | rfl | (simp; done) | (simp [show emptyS ⟨#[]⟩ = true from rfl]; done))
        go_wp2_with fail
        go_ret
        exact ⟨⟨_, rfl, by rw [K.out]; rfl⟩, B3.out⟩
      | true =>
      have f1 : ¬ (group < 0) := by have := of_decide_eq_true hq; omega
      have f2 : decide (group < 0) = false := decide_eq_false f1
      clear hq
      by_cases gz : group = 0
      · subst gz
        have K := Lib.hid (show X = true by rw [← HX.out]; first | rfl | (simp; done) | (simp [show emptyS ⟨#[]⟩ = true from rfl]; done))
        go_wp2_with fail
        go_ret
        exact ⟨⟨_, rfl, by rw [K.out]; rfl⟩, B3.out⟩
      have g3 : (group == 0) = false := by simpa using gz
      have g4 : (group != 0) = true := by simpa using gz
      have g5 : (0 : Int) < group := by omega
      have g6 : decide ((0 : Int) < group) = true := decide_eq_true g5
      clear gz
      have K := Lib.hid (show X = true by rw [← HX.out]; first | rfl | (simp; done) | (simp [show emptyS ⟨#[]⟩ = true from rfl]; done))
      go_wp2_with fail
      go_ret
      exact ⟨⟨_, rfl, by rw [K.out]; rfl⟩, B3.out⟩
    · have ntarget := nil_toList target ztarget
      have HX := Lib.hid (by have := HX.out; rw [emptyS_no ztarget] at this; exact this)
      clear ztarget
      have K := Lib.hid (show X = false by rw [← HX.out]; first | rfl | (simp; done) | (simp [show emptyS ⟨#[]⟩ = true from rfl]; done))
      go_wp2_with fail
      go_ret
      exact ⟨⟨_, rfl, by rw [K.out]; rfl⟩, B3.out⟩
  by_cases k2 : kind = 2
  · subst k2
    clear k1
    have HX := Lib.hid (show (mo && (decide (0 ≤ size) && (decide (size ≤ 2147483647) && (emptyS target && (emptyS sum && decide (group = 0)))))) = X from HX.out)
    go_wp2_with fail
    go_quiet (fail)
    go_wp2_with fail
    refine (HM.out _).mono ?_
    rintro e w3 ⟨rfl, hb3⟩
    have N3 := Lib.hid ((N1.out.drewN nq).below hb3)
    have B3 := Lib.hid ((below_drewN B1.out nq).trans (hb3.mono (below_drewN B1.out nq).size))
    clear hb3 c0 c1 c2 c3 c4 c5 c6 c7 c8 c9 c10 HM N1 B1
    obtain ⟨c0, c1, c2, c3, c4, c5, c6, c7, c8, c9, c10⟩ := encE_cells N3.out
    dsimp only at c0 c1 c2 c3 c4 c5 c6 c7 c8 c9 c10
    cases mo with
    | false =>
      have K := Lib.hid (show X = false by rw [← HX.out]; first | rfl | (simp; done) | (simp [show emptyS ⟨#[]⟩ = true from rfl]; done))
      go_wp2_with fail
      go_ret
      exact ⟨⟨_, rfl, by rw [K.out]; rfl⟩, B3.out⟩
    | true =>
    have HX := Lib.hid HX.out
    by_cases ztarget : target.size = 0
    · obtain rfl : target = ⟨#[]⟩ := ByteArray.ext (Array.size_eq_zero_iff.1 ztarget)
      clear ztarget
      generalize hq : decide (0 ≤ size) = q at HX
      cases q with
      | false =>
        have f1 : size < 0 := by have := of_decide_eq_false hq; omega
        have f2 : decide (size < 0) = true := decide_eq_true f1
        clear hq
        have K := Lib.hid (show X = false by rw [← HX.out]; first | rfl | (simp; done) | (simp [show emptyS ⟨#[]⟩ = true from rfl]; done))
        go_wp2_with fail
        go_ret
        exact ⟨⟨_, rfl, by rw [K.out]; rfl⟩, B3.out⟩
      | true =>
      have f1 : ¬ (size < 0) := by have := of_decide_eq_true hq; omega
      have f2 : decide (size < 0) = false := decide_eq_false f1
      clear hq
      generalize hq : decide (size ≤ 2147483647) = q at HX
      cases q with
      | false =>
        have f1 : 2147483647 < size := by have := of_decide_eq_false hq; omega
        have f2 : decide (2147483647 < size) = true := decide_eq_true f1
        clear hq
        have K := Lib.hid (show X = false by rw [← HX.out]; first | rfl | (simp; done) | (simp [show emptyS ⟨#[]⟩ = true from rfl]; done))
        go_wp2_with fail
        go_ret
        exact ⟨⟨_, rfl, by rw [K.out]; rfl⟩, B3.out⟩
      | true =>
      have f1 : ¬ (2147483647 < size) := by have := of_decide_eq_true hq; omega
      have f2 : decide (2147483647 < size) = false := decide_eq_false f1
      clear hq
      by_cases zsum : sum.size = 0
      · obtain rfl : sum = ⟨#[]⟩ := ByteArray.ext (Array.size_eq_zero_iff.1 zsum)
        clear zsum
        by_cases gz : group = 0
        · subst gz
          have K := Lib.hid (show X = true by rw [← HX.out]; first | rfl | (simp; done) | (simp [show emptyS ⟨#[]⟩ = true from rfl]; done))
          go_wp2_with fail
          go_ret
          exact ⟨⟨_, rfl, by rw [K.out]; rfl⟩, B3.out⟩
        have g3 : (group == 0) = false := by simpa using gz
        have g4 : (group != 0) = true := by simpa using gz
        have HX := Lib.hid (by have := HX.out; rw [decide_eq_false gz] at this; exact this)
        rcases Int.lt_or_le group 0 with gn | gn
        · have g5 : decide (group < 0) = true := decide_eq_true gn
          have K := Lib.hid (show X = false by rw [← HX.out]; first | rfl | (simp; done) | (simp [show emptyS ⟨#[]⟩ = true from rfl]; done))
          go_wp2_with fail
          go_ret
          exact ⟨⟨_, rfl, by rw [K.out]; rfl⟩, B3.out⟩
        have g5 : decide (group < 0) = false := decide_eq_false (by omega)
        have g7 : (0 : Int) < group := by omega
        have g6 : decide ((0 : Int) < group) = true := decide_eq_true g7
        have g8 : ¬ group < 0 := by omega
        clear gz gn
        have K := Lib.hid (show X = false by rw [← HX.out]; first | rfl | (simp; done) | (simp [show emptyS ⟨#[]⟩ = true from rfl]; done))
        go_wp2_with fail
        go_ret
        exact ⟨⟨_, rfl, by rw [K.out]; rfl⟩, B3.out⟩
      · have nsum := nil_toList sum zsum
        have HX := Lib.hid (by have := HX.out; rw [emptyS_no zsum] at this; exact this)
        clear zsum
        have K := Lib.hid (show X = false by rw [← HX.out]; first | rfl | (simp; done) | (simp [show emptyS ⟨#[]⟩ = true from rfl]; done))
        go_wp2_with fail
        go_ret
        exact ⟨⟨_, rfl, by rw [K.out]; rfl⟩, B3.out⟩
    · have ntarget := nil_toList target ztarget
      have HX := Lib.hid (by have := HX.out; rw [emptyS_no ztarget] at this; exact this)
      clear ztarget
      have K := Lib.hid (show X = false by rw [← HX.out]; first | rfl | (simp; done) | (simp [show emptyS ⟨#[]⟩ = true from rfl]; done))
      go_wp2_with fail
      go_ret
      exact ⟨⟨_, rfl, by rw [K.out]; rfl⟩, B3.out⟩
  by_cases k3 : kind = 3
  · subst k3
    clear k1 k2
    have HX := Lib.hid (show (mo && (decide (0 ≤ size) && (!emptyS target && (decide ((target.size : Int) ≤ 200) && (decide (size = (target.size : Int)) && (emptyS sum && decide (group = 0))))))) = X from HX.out)
    go_wp2_with fail
    go_quiet (fail)
    go_wp2_with fail
    refine (HM.out _).mono ?_
    rintro e w3 ⟨rfl, hb3⟩
    have N3 := Lib.hid ((N1.out.drewN nq).below hb3)
    have B3 := Lib.hid ((below_drewN B1.out nq).trans (hb3.mono (below_drewN B1.out nq).size))
    clear hb3 c0 c1 c2 c3 c4 c5 c6 c7 c8 c9 c10 HM N1 B1
    obtain ⟨c0, c1, c2, c3, c4, c5, c6, c7, c8, c9, c10⟩ := encE_cells N3.out
    dsimp only at c0 c1 c2 c3 c4 c5 c6 c7 c8 c9 c10
    cases mo with
    | false =>
      have K := Lib.hid (show X = false by rw [← HX.out]; first | rfl | (simp; done) | (simp [show emptyS ⟨#[]⟩ = true from rfl]; done))
      go_wp2_with fail
      go_ret
      exact ⟨⟨_, rfl, by rw [K.out]; rfl⟩, B3.out⟩
    | true =>
    have HX := Lib.hid HX.out
    by_cases ztarget : target.size = 0
    · obtain rfl : target = ⟨#[]⟩ := ByteArray.ext (Array.size_eq_zero_iff.1 ztarget)
      clear ztarget
      have K := Lib.hid (show X = false by rw [← HX.out]; first | rfl | (simp; done) | (simp [show emptyS ⟨#[]⟩ = true from rfl]; done))
      go_wp2_with fail
      go_ret
      exact ⟨⟨_, rfl, by rw [K.out]; rfl⟩, B3.out⟩
    have ntarget := nil_toList target ztarget
    have HX := Lib.hid (by have := HX.out; rw [emptyS_no ztarget] at this; exact this)
    clear ztarget
    generalize hq : decide ((target.size : Int) ≤ 200) = q at HX
    cases q with
    | false =>
      have f1 : 200 < (target.size : Int) := by have := of_decide_eq_false hq; omega
      have f2 : decide (200 < (target.size : Int)) = true := decide_eq_true f1
      clear hq
      have K := Lib.hid (show X = false by rw [← HX.out]; first | rfl | (simp; done) | (simp [show emptyS ⟨#[]⟩ = true from rfl]; done))
      go_wp2_with fail
      go_ret
      exact ⟨⟨_, rfl, by rw [K.out]; rfl⟩, B3.out⟩
    | true =>
    have f1 : ¬ (200 < (target.size : Int)) := by have := of_decide_eq_true hq; omega
    have f2 : decide (200 < (target.size : Int)) = false := decide_eq_false f1
    clear hq
    generalize hq : decide (0 ≤ size) = q at HX
    cases q with
    | false =>
      have f1 : size < 0 := by have := of_decide_eq_false hq; omega
      have f2 : decide (size < 0) = true := decide_eq_true f1
      clear hq
      have K := Lib.hid (show X = false by rw [← HX.out]; first | rfl | (simp; done) | (simp [show emptyS ⟨#[]⟩ = true from rfl]; done))
      go_wp2_with fail
      go_ret
      exact ⟨⟨_, rfl, by rw [K.out]; rfl⟩, B3.out⟩
    | true =>
    have f1 : ¬ (size < 0) := by have := of_decide_eq_true hq; omega
    have f2 : decide (size < 0) = false := decide_eq_false f1
    clear hq
    generalize hq : decide (size = (target.size : Int)) = q at HX
    cases q with
    | false =>
      have hq := of_decide_eq_false hq
      have g1 : (size == (target.size : Int)) = false := by simpa using hq
      have g2 : (size != (target.size : Int)) = true := by simpa using hq
      clear hq
      have K := Lib.hid (show X = false by rw [← HX.out]; first | rfl | (simp; done) | (simp [show emptyS ⟨#[]⟩ = true from rfl]; done))
      go_wp2_with fail
      go_ret
      exact ⟨⟨_, rfl, by rw [K.out]; rfl⟩, B3.out⟩
    | true =>
    have hq := of_decide_eq_true hq
    have g1 : (size == (target.size : Int)) = true := by simpa using hq
    have g2 : (size != (target.size : Int)) = false := by simpa using hq
    clear hq
    by_cases zsum : sum.size = 0
    · obtain rfl : sum = ⟨#[]⟩ := ByteArray.ext (Array.size_eq_zero_iff.1 zsum)
      clear zsum
      by_cases gz : group = 0
      · subst gz
        have K := Lib.hid (show X = true by rw [← HX.out]; first | rfl | (simp; done) | (simp [show emptyS ⟨#[]⟩ = true from rfl]; done))
        go_wp2_with fail
        go_ret
        exact ⟨⟨_, rfl, by rw [K.out]; rfl⟩, B3.out⟩
      have g3 : (group == 0) = false := by simpa using gz
      have g4 : (group != 0) = true := by simpa using gz
      have HX := Lib.hid (by have := HX.out; rw [decide_eq_false gz] at this; exact this)
      rcases Int.lt_or_le group 0 with gn | gn
      · have g5 : decide (group < 0) = true := decide_eq_true gn
        have K := Lib.hid (show X = false by rw [← HX.out]; first | rfl | (simp; done) | (simp [show emptyS ⟨#[]⟩ = true from rfl]; done))
        go_wp2_with fail
        go_ret
        exact ⟨⟨_, rfl, by rw [K.out]; rfl⟩, B3.out⟩
      have g5 : decide (group < 0) = false := decide_eq_false (by omega)
      have g7 : (0 : Int) < group := by omega
      have g6 : decide ((0 : Int) < group) = true := decide_eq_true g7
      have g8 : ¬ group < 0 := by omega
      clear gz gn
      have K := Lib.hid (show X = false by rw [← HX.out]; first | rfl | (simp; done) | (simp [show emptyS ⟨#[]⟩ = true from rfl]; done))
      go_wp2_with fail
      go_ret
      exact ⟨⟨_, rfl, by rw [K.out]; rfl⟩, B3.out⟩
    · have nsum := nil_toList sum zsum
      have HX := Lib.hid (by have := HX.out; rw [emptyS_no zsum] at this; exact this)
      clear zsum
      have K := Lib.hid (show X = false by rw [← HX.out]; first | rfl | (simp; done) | (simp [show emptyS ⟨#[]⟩ = true from rfl]; done))
      go_wp2_with fail
      go_ret
      exact ⟨⟨_, rfl, by rw [K.out]; rfl⟩, B3.out⟩
  have HX := Lib.hid (by have := HX.out; rw [if_neg k1, if_neg k2, if_neg k3] at this; exact this)
  have K := Lib.hid (show X = false by rw [← HX.out]; simp)
  rcases Int.lt_or_le kind 1 with q | q
  · have f1 : decide (kind < 1) = true := decide_eq_true q
    clear k1 k2 k3
    go_wp2_with fail
    go_ret
    exact ⟨⟨_, rfl, by rw [K.out]; rfl⟩, B1.out⟩
  have f1 : decide (kind < 1) = false := decide_eq_false (by omega)
  have f2 : (3 : Int) < kind := by omega
  have f3 : decide ((3 : Int) < kind) = true := decide_eq_true f2
  have f4 : ¬ kind < 1 := by omega
  clear k1 k2 k3 q
  go_wp2_with fail
  go_ret
  exact ⟨⟨_, rfl, by rw [K.out]; rfl⟩, B1.out⟩
end Go.Proofs.Ytcagonpnjionhaa

/-! Where a path stands in a list; are entries few and light. -/
set_option linter.unusedVariables false
set_option linter.unusedSimpArgs false
namespace Go.Proofs.Ytcagonpnjionhaa
open Go.RowKit

theorem ne_toList {p q : ByteArray} (h : ¬ p = q) : (p.toList == q.toList) = false := by
  rw [ByteArray.toList_eq, ByteArray.toList_eq, beq_eq_false_iff_ne]
  intro e; exact h (ByteArray.ext (Array.toList_inj.1 e))
def findK (p : ByteArray) : List En → Nat → Int × Bool
  | [], _ => (0, false)
  | x :: r, i => if x.path = p then ((i : Int), true) else findK p r (i + 1)
theorem findK_drop {L : List En} {i j : Nat} {x : En} {p : ByteArray} (h : L[i]? = some x) : findK p (L.drop i) j = if x.path = p then ((j : Int), true) else findK p (L.drop (i + 1)) (j + 1) := by
  obtain ⟨hi, he⟩ := List.getElem?_eq_some_iff.1 h
  rw [List.drop_eq_getElem_cons hi, he, findK]
theorem findK_end {L : List En} {i j : Nat} {p : ByteArray} (h : L.length ≤ i) : findK p (L.drop i) j = (0, false) := by rw [List.drop_of_length_le h]; rfl
theorem enCells {w : World} {b o : Nat} {x : En} (h : SgAt w b o (encE x)) : w.cell? ⟨b, o, none⟩ = some (.string x.path) ∧ w.cell? ⟨b, o + 1, none⟩ = some (.int .i64 x.kind) ∧ w.cell? ⟨b, o + 2, none⟩ = some (.int .i64 x.size) ∧ w.cell? ⟨b, o + 3, none⟩ = some (.int .i64 x.m0) ∧ w.cell? ⟨b, o + 4, none⟩ = some (.int .i64 x.m1) ∧ w.cell? ⟨b, o + 5, none⟩ = some (.int .i64 x.m2) ∧ w.cell? ⟨b, o + 6, none⟩ = some (.int .i64 x.m3) ∧ w.cell? ⟨b, o + 7, none⟩ = some (.int .i64 x.m4) ∧ w.cell? ⟨b, o + 8, none⟩ = some (.string x.target) ∧ w.cell? ⟨b, o + 9, none⟩ = some (.string x.sum) ∧ w.cell? ⟨b, o + 10, none⟩ = some (.int .i64 x.group) :=
  ⟨h 0 _ rfl, h 1 _ rfl, h 2 _ rfl, h 3 _ rfl, h 4 _ rfl, h 5 _ rfl, h 6 _ rfl, h 7 _ rfl, h 8 _ rfl, h 9 _ rfl, h 10 _ rfl⟩
set_option maxRecDepth 100000 in
set_option maxHeartbeats 4000000 in
theorem find_any (A : Option Addr) (n c : Nat) (L : List En) (p : ByteArray) (w : World) (hs : Sl 11 w A n (encEs L)) :
    Calls Try.prog 15 #[.slice A n c, .string p] w fun e w' => e = .returned (.tuple #[.int .i64 (findK p L 0).1, .bool (findK p L 0).2]) ∧ Below w.heap.size w w' := by
  obtain ⟨X, hX⟩ : ∃ X, findK p L 0 = X := ⟨_, rfl⟩
  have HX := Lib.hid hX
  rw [hX]
  clear hX
  have HS := Lib.hid hs
  have hln : L.length = n := hs.enLen
  have HLN := Lib.hid hln
  have hnm := hs.max
  clear hs hln
  go_enter Try.func15, Try.ntmps15
  go_wp2_with fail
  go_loopw [10] (fun v wr => ∃ i : Nat, v = .int .i64 i ∧ i ≤ n ∧ findK p (L.drop i) i = X ∧ Below w.heap.size w wr) (fun v _ => n - (intOf v).toNat)
  case atStart => exact ⟨0, rfl, Nat.zero_le _, HX.out, Below.refl _ _⟩
  case round =>
    obtain ⟨i, rfl, hi, hat, hb⟩ := hrel
    have HAT := Lib.hid hat
    have HB := Lib.hid hb
    clear hat
    rcases Nat.lt_or_ge i n with h | h
    · obtain ⟨b, o, x, hA, hr, hsg⟩ := (HS.out.below hb).enRow h
      have KD := Lib.hid (findK_drop (j := i) (p := p) hr)
      obtain ⟨k0, k1, k2, k3, k4, k5, k6, k7, k8, k9, k10⟩ := enCells hsg
      have hi2 : (i : Int) < (n : Int) := by omega
      rw [hA]
      obtain ⟨path, kind, size, m0, m1, m2, m3, m4, target, sum, group⟩ := x
      dsimp only at k0 k1 k2 k3 k4 k5 k6 k7 k8 k9 k10 KD
      have HB2 := Lib.hid (HB.out.alloc HB.out.size (.cells #[.string path, .int .i64 kind, .int .i64 size, .int .i64 m0, .int .i64 m1, .int .i64 m2, .int .i64 m3, .int .i64 m4, .string target, .string sum, .int .i64 group] 37))
      clear hsg hA hr hb
      by_cases q : path = p
      · subst q
        have K := Lib.hid (show X = ((i : Int), true) by rw [← HAT.out, KD.out]; exact if_pos rfl)
        go_wp2_with fail
        go_ret2
        exact ⟨by rw [K.out]; rfl, HB2.out⟩
      have K := Lib.hid (show findK p (L.drop (i + 1)) (i + 1) = X by rw [← HAT.out, KD.out]; exact (if_neg q).symm)
      have q1 := ne_toList q
      go_wp2_with fail
      go_roundw
      case rel => exact ⟨i + 1, by go_num, by omega, K.out, HB2.out⟩
      case measure => simp [intOf] <;> omega
    · obtain rfl : i = n := by omega
      have K := Lib.hid (show X = (0, false) by rw [← HAT.out]; exact findK_end (by rw [HLN.out]; exact Nat.le_refl _))
      have hin : ¬ ((i : Int) < (i : Int)) := by omega
      clear hi h hb
      go_wp2_with fail
      go_ret2
      exact ⟨by rw [K.out]; rfl, HB.out⟩
set_option maxRecDepth 100000 in
set_option maxHeartbeats 4000000 in
theorem refFind_any (A : Option Addr) (n c : Nat) (L : List En) (p : ByteArray) (w : World) (hs : Sl 11 w A n (encEs L)) :
    Calls Try.prog 26 #[.slice A n c, .string p] w fun e w' => e = .returned (.tuple #[.int .i64 (findK p L 0).1, .bool (findK p L 0).2]) ∧ Below w.heap.size w w' := by
  obtain ⟨X, hX⟩ : ∃ X, findK p L 0 = X := ⟨_, rfl⟩
  have HX := Lib.hid hX
  rw [hX]
  clear hX
  have HS := Lib.hid hs
  have hln : L.length = n := hs.enLen
  have HLN := Lib.hid hln
  have hnm := hs.max
  clear hs hln
  go_enter Try.func26, Try.ntmps26
  go_wp2_with fail
  go_loopw [6] (fun v wr => ∃ i : Nat, v = .int .i64 i ∧ i ≤ n ∧ findK p (L.drop i) i = X ∧ Below w.heap.size w wr) (fun v _ => n - (intOf v).toNat)
  case atStart => exact ⟨0, rfl, Nat.zero_le _, HX.out, Below.refl _ _⟩
  case round =>
    obtain ⟨i, rfl, hi, hat, hb⟩ := hrel
    have HAT := Lib.hid hat
    have HB := Lib.hid hb
    clear hat
    rcases Nat.lt_or_ge i n with h | h
    · obtain ⟨b, o, x, hA, hr, hsg⟩ := (HS.out.below hb).enRow h
      have KD := Lib.hid (findK_drop (j := i) (p := p) hr)
      obtain ⟨k0, k1, k2, k3, k4, k5, k6, k7, k8, k9, k10⟩ := enCells hsg
      have hi2 : (i : Int) < (n : Int) := by omega
      rw [hA]
      obtain ⟨path, kind, size, m0, m1, m2, m3, m4, target, sum, group⟩ := x
      dsimp only at k0 k1 k2 k3 k4 k5 k6 k7 k8 k9 k10 KD
      have HB2 := Lib.hid (HB.out.alloc HB.out.size (.cells #[.string path, .int .i64 kind, .int .i64 size, .int .i64 m0, .int .i64 m1, .int .i64 m2, .int .i64 m3, .int .i64 m4, .string target, .string sum, .int .i64 group] 37))
      clear hsg hA hr hb
      by_cases q : path = p
      · subst q
        have K := Lib.hid (show X = ((i : Int), true) by rw [← HAT.out, KD.out]; exact if_pos rfl)
        go_wp2_with fail
        go_ret2
        exact ⟨by rw [K.out]; rfl, HB.out⟩
      have K := Lib.hid (show findK p (L.drop (i + 1)) (i + 1) = X by rw [← HAT.out, KD.out]; exact (if_neg q).symm)
      have q1 := ne_toList q
      go_wp2_with fail
      go_roundw
      case rel => exact ⟨i + 1, by go_num, by omega, K.out, HB.out⟩
      case measure => simp [intOf] <;> omega
    · obtain rfl : i = n := by omega
      have K := Lib.hid (show X = (0, false) by rw [← HAT.out]; exact findK_end (by rw [HLN.out]; exact Nat.le_refl _))
      have hin : ¬ ((i : Int) < (i : Int)) := by omega
      clear hi h hb
      go_wp2_with fail
      go_ret2
      exact ⟨by rw [K.out]; rfl, HB.out⟩
def lightE (x : En) : Bool := decide (x.path.size ≤ 600) && (decide (x.target.size ≤ 600) && decide (x.sum.size ≤ 100))
def smallE (L : List En) : Bool := L.all lightE && decide (L.length ≤ 60)
theorem all_take_light {L : List En} {i : Nat} {x : En} (h : L[i]? = some x) : (L.take (i + 1)).all lightE = ((L.take i).all lightE && lightE x) := by
  obtain ⟨hi, he⟩ := List.getElem?_eq_some_iff.1 h
  rw [List.take_succ_eq_append_getElem hi, he, List.all_append]; simp
theorem small_no {L : List En} {i : Nat} {x : En} (h : L[i]? = some x) (hx : lightE x = false) : smallE L = false := by
  unfold smallE
  have : L.all lightE = false := by rw [List.all_eq_false]; exact ⟨x, List.mem_of_getElem? h, by rw [hx]; decide⟩
  rw [this]; rfl
set_option maxRecDepth 100000 in
set_option maxHeartbeats 4000000 in
theorem small_any (A : Option Addr) (n c : Nat) (L : List En) (w : World) (hs : Sl 11 w A n (encEs L)) :
    Calls Try.prog 19 #[.slice A n c] w fun e w' => e = .returned (.bool (smallE L)) ∧ Below w.heap.size w w' := by
  obtain ⟨X, hX⟩ : ∃ X, smallE L = X := ⟨_, rfl⟩
  have HX := Lib.hid hX
  rw [hX]
  clear hX
  have HS := Lib.hid hs
  have hln : L.length = n := hs.enLen
  have HLN := Lib.hid hln
  have hnm := hs.max
  clear hs hln
  go_enter Try.func19, Try.ntmps19
  go_wp2_with fail
  go_loopw [3] (fun v wr => ∃ i : Nat, v = .int .i64 i ∧ i ≤ n ∧ (L.take i).all lightE = true ∧ Below w.heap.size w wr) (fun v _ => n - (intOf v).toNat)
  case atStart => exact ⟨0, rfl, Nat.zero_le _, rfl, Below.refl _ _⟩
  case round =>
    obtain ⟨i, rfl, hi, hat, hb⟩ := hrel
    have HAT := Lib.hid hat
    have HB := Lib.hid hb
    clear hat
    rcases Nat.lt_or_ge i n with h | h
    · obtain ⟨b, o, x, hA, hr, hsg⟩ := (HS.out.below hb).enRow h
      have KA := Lib.hid (all_take_light hr)
      have KN := Lib.hid (fun h => HX.out.symm.trans (small_no hr h))
      have KL := Lib.hid (show lightE x = (decide (x.path.size ≤ 600) && (decide (x.target.size ≤ 600) && decide (x.sum.size ≤ 100))) from rfl)
      obtain ⟨k0, k1, k2, k3, k4, k5, k6, k7, k8, k9, k10⟩ := enCells hsg
      have hi2 : (i : Int) < (n : Int) := by omega
      rw [hA]
      clear hsg hA hr hb k1 k2 k3 k4 k5 k6 k7 k10
      generalize hlx : lightE x = lx at *
      obtain ⟨path, kind, size, m0, m1, m2, m3, m4, target, sum, group⟩ := x
      dsimp only at k0 k8 k9 KL
      clear hlx
      rcases Nat.lt_or_ge 600 path.size with q | q
      · have q1 : (600 : Int) < (path.size : Int) := by omega
        have q2 : decide ((600 : Int) < (path.size : Int)) = true := decide_eq_true q1
        have K := Lib.hid (KN.out (by rw [KL.out, decide_eq_false (by omega)]; rfl))
        clear q
        go_wp2_with fail
        go_ret
        exact ⟨by rw [K.out]; rfl, HB.out⟩
      have q1 : ¬ (600 : Int) < (path.size : Int) := by omega
      have q2 : decide ((600 : Int) < (path.size : Int)) = false := decide_eq_false q1
      rcases Nat.lt_or_ge 600 target.size with r | r
      · have r1 : (600 : Int) < (target.size : Int) := by omega
        have r2 : decide ((600 : Int) < (target.size : Int)) = true := decide_eq_true r1
        have K := Lib.hid (KN.out (by rw [KL.out, decide_eq_false (p := target.size ≤ 600) (by omega)]; simp))
        clear r q
        go_wp2_with fail
        go_ret
        exact ⟨by rw [K.out]; rfl, HB.out⟩
      have r1 : ¬ (600 : Int) < (target.size : Int) := by omega
      have r2 : decide ((600 : Int) < (target.size : Int)) = false := decide_eq_false r1
      rcases Nat.lt_or_ge 100 sum.size with s | s
      · have s1 : (100 : Int) < (sum.size : Int) := by omega
        have s2 : decide ((100 : Int) < (sum.size : Int)) = true := decide_eq_true s1
        have K := Lib.hid (KN.out (by rw [KL.out, decide_eq_false (p := sum.size ≤ 100) (by omega)]; simp))
        clear r q s
        go_wp2_with fail
        go_ret
        exact ⟨by rw [K.out]; rfl, HB.out⟩
      have s1 : ¬ (100 : Int) < (sum.size : Int) := by omega
      have s2 : decide ((100 : Int) < (sum.size : Int)) = false := decide_eq_false s1
      have K := Lib.hid (show (L.take (i + 1)).all lightE = true by rw [KA.out, HAT.out, KL.out, decide_eq_true q, decide_eq_true r, decide_eq_true s]; rfl)
      clear q r s
      go_wp2_with fail
      go_roundw
      case rel => exact ⟨i + 1, by go_num, by omega, K.out, HB.out⟩
      case measure => simp [intOf] <;> omega
    · obtain rfl : i = n := by omega
      have K := Lib.hid (show X = decide (i ≤ 60) by
        rw [← HX.out]; unfold smallE
        have := HAT.out
        rw [List.take_of_length_le (by rw [HLN.out]; exact Nat.le_refl _)] at this
        rw [this, HLN.out]; rfl)
      have hin : ¬ ((i : Int) < (i : Int)) := by omega
      clear hi h hb
      rcases Nat.lt_or_ge 60 i with q | q
      · have q1 : ¬ (i : Int) ≤ 60 := by omega
        have q2 : decide ((i : Int) ≤ 60) = false := decide_eq_false q1
        have K := Lib.hid (show X = false by rw [K.out]; exact decide_eq_false (by omega))
        clear q
        go_wp2_with fail
        go_ret
        exact ⟨by rw [K.out]; rfl, HB.out⟩
      have q1 : (i : Int) ≤ 60 := by omega
      have q2 : decide ((i : Int) ≤ 60) = true := decide_eq_true q1
      have K := Lib.hid (show X = true by rw [K.out]; exact decide_eq_true (by omega))
      clear q
      go_wp2_with fail
      go_ret
      exact ⟨by rw [K.out]; rfl, HB.out⟩
end Go.Proofs.Ytcagonpnjionhaa

/-! The order of paths is a strict and whole one; parts, glued, are the text; what is under a path lies behind it, side by side. -/
set_option linter.unusedVariables false
set_option linter.unusedSimpArgs false
namespace Go.Proofs.Ytcagonpnjionhaa
open Go.RowKit

theorem bless_trans : ∀ {a b c : List UInt8}, Op.bytesLess a b = true → Op.bytesLess b c = true → Op.bytesLess a c = true
  | _, [], _, h, _ => by cases ‹List UInt8› <;> simp [Op.bytesLess] at h
  | _, _ :: _, [], _, h => by simp [Op.bytesLess] at h
  | [], _ :: _, _ :: _, _, _ => rfl
  | x :: a, y :: b, z :: c, h, k => by
    simp only [Op.bytesLess, Bool.or_eq_true, Bool.and_eq_true, decide_eq_true_eq, beq_iff_eq] at h k ⊢
    rcases h with h | ⟨rfl, h⟩
    · rcases k with k | ⟨rfl, k⟩
      · exact .inl (UInt8.lt_trans h k)
      · exact .inl h
    · rcases k with k | ⟨rfl, k⟩
      · exact .inl k
      · exact .inr ⟨rfl, bless_trans h k⟩
theorem bless_total : ∀ {a b : List UInt8}, a ≠ b → Op.bytesLess a b = true ∨ Op.bytesLess b a = true
  | [], [], h => absurd rfl h
  | [], _ :: _, _ => .inl rfl
  | _ :: _, [], _ => .inr rfl
  | x :: a, y :: b, h => by
    simp only [Op.bytesLess, Bool.or_eq_true, Bool.and_eq_true, decide_eq_true_eq, beq_iff_eq]
    by_cases e : x = y
    · subst e
      have : a ≠ b := fun e => h (by rw [e])
      rcases bless_total this with k | k
      · exact .inl (.inr ⟨rfl, k⟩)
      · exact .inr (.inr ⟨rfl, k⟩)
    · rcases Nat.lt_or_gt_of_ne (fun k => e (UInt8.toNat_inj.1 k)) with k | k
      · exact .inl (.inl (UInt8.lt_iff_toNat_lt.2 k))
      · exact .inr (.inl (UInt8.lt_iff_toNat_lt.2 k))
theorem lessP_irr : ∀ (X : List (List UInt8)), lessP X X = false
  | [] => rfl
  | x :: X => by rw [lessP, if_pos rfl]; exact lessP_irr X
theorem lessP_trans : ∀ {X Y Z : List (List UInt8)}, lessP X Y = true → lessP Y Z = true → lessP X Z = true
  | [], [], _, h, _ => by simp [lessP] at h
  | _ :: _, [], _, h, _ => by simp [lessP] at h
  | _, _ :: _, [], _, h => by simp [lessP] at h
  | [], _ :: _, _ :: _, _, _ => rfl
  | x :: X, y :: Y, z :: Z, h, k => by
    rw [lessP] at h k ⊢
    split at h
    · rename_i e; subst e
      split at k
      · rename_i e; subst e
        rw [if_pos rfl]; exact lessP_trans h k
      · rename_i e; rw [if_neg e]; exact k
    · rename_i e
      split at k
      · rename_i e2; subst e2; rw [if_neg e]; exact h
      · rename_i e2
        have := bless_trans h k
        rw [if_neg (fun e3 => by subst e3; rw [bless_irr] at this; cases this)]
        exact this
theorem lessP_total : ∀ {X Y : List (List UInt8)}, X ≠ Y → lessP X Y = true ∨ lessP Y X = true
  | [], [], h => absurd rfl h
  | [], _ :: _, _ => .inl rfl
  | _ :: _, [], _ => .inr rfl
  | x :: X, y :: Y, h => by
    rw [lessP, lessP]
    by_cases e : x = y
    · subst e
      rw [if_pos rfl, if_pos rfl]
      exact lessP_total (fun k => h (by rw [k]))
    · rw [if_neg e, if_neg (fun k => e k.symm)]
      exact bless_total e
theorem lessP_asymm {X Y : List (List UInt8)} (h : lessP X Y = true) : lessP Y X = false := by
  cases k : lessP Y X with
  | false => rfl
  | true => have := lessP_trans h k; rw [lessP_irr] at this; cases this
/-- A list of parts comes ahead of all that go on from it. -/
theorem lessP_append : ∀ (X : List (List UInt8)) {Z : List (List UInt8)}, Z ≠ [] → lessP X (X ++ Z) = true
  | [], [], h => absurd rfl h
  | [], _ :: _, _ => rfl
  | x :: X, Z, h => by rw [List.cons_append, lessP, if_pos rfl]; exact lessP_append X h
/-- What lies between a list and one that goes on from it goes on from it. -/
theorem lessP_between : ∀ (X : List (List UInt8)) {Y Z : List (List UInt8)}, lessP X Y = true → lessP Y (X ++ Z) = true → ∃ W, Y = X ++ W
  | [], Y, _, _, _ => ⟨Y, rfl⟩
  | x :: X, [], _, h, _ => by simp [lessP] at h
  | x :: X, y :: Y, Z, h, k => by
    rw [List.cons_append] at k
    rw [lessP] at h k
    by_cases e : x = y
    · subst e
      rw [if_pos rfl] at h k
      obtain ⟨W, rfl⟩ := lessP_between X h k
      exact ⟨W, rfl⟩
    · rw [if_neg e] at h
      rw [if_neg (fun k => e k.symm)] at k
      have := bless_trans h k
      rw [bless_irr] at this; cases this
/-- Parts, glued, are the text. -/
theorem glue_split (l : List UInt8) : glueB (splitB l) = l := by
  by_cases h : l = []
  · subst h; rfl
  · obtain ⟨h1, h2, h3⟩ := cutN_inv l l.length (Nat.le_refl _)
    rw [splitB_ne h]
    by_cases hL : (cutN l l.length).1 = []
    · rw [hL]
      have : lastB l = 0 := h1.1 hL
      show baseB l = l
      unfold baseB; rw [this]; rfl
    · rw [glueB_snoc _ _ hL, h3]
      have hpos : 0 < lastB l := Nat.pos_of_ne_zero fun e => hL (h1.2 e)
      have h47 : l[lastB l - 1]? = some 47 := h2 hpos
      have hf1 : lastB l - 1 < l.length := (List.getElem?_eq_some_iff.1 h47).1
      have e2 : l.drop (lastB l - 1) = 47 :: l.drop (lastB l) := by
        rw [List.drop_eq_getElem_cons hf1, show lastB l - 1 + 1 = lastB l by omega]
        congr 1
        exact Option.some.inj ((List.getElem?_eq_getElem hf1).symm.trans h47)
      show l.take (lastB l - 1) ++ 47 :: l.drop (lastB l) = l
      rw [← e2, List.take_append_drop]
theorem splitB_inj {a b : List UInt8} (h : splitB a = splitB b) : a = b := by rw [← glue_split a, h, glue_split]
theorem splitB_nil_iff {a : List UInt8} : splitB a = [] ↔ a = [] := ⟨fun h => by rw [← glue_split a, h]; rfl, fun h => by subst h; rfl⟩
end Go.Proofs.Ytcagonpnjionhaa

/-! Maps by strings: what a map's block holds, as a function of the key. -/
set_option linter.unusedVariables false
set_option linter.unusedSimpArgs false
namespace Go.Proofs.Ytcagonpnjionhaa
open Go.RowKit
open Go.Maps (Keyed string_keyed)
open Go.WideMaps (keyOf_string_mk)

def heldR (v : Value) : Option (DataW Value × List MemPlace) := some (.held v, [])
def MapAt (w : World) (b n : Nat) (f : List UInt8 → Option Value) : Prop :=
  ∃ D : DataW Value, w.ownsMap Try.prog 9 heldR b n D ∧ Maps.IsMap D ∧ ∀ s, Maps.has D (.string s) = (f s).isSome ∧ ∀ zd, D.atKey (.string s) zd = match f s with | some v => .held v | none => zd
def updM (f : List UInt8 → Option Value) (s : List UInt8) (v : Value) : List UInt8 → Option Value := fun x => if x = s then some v else f x
theorem updM_same (f : List UInt8 → Option Value) (s : List UInt8) (v : Value) : updM f s v s = some v := if_pos rfl
theorem updM_other {f : List UInt8 → Option Value} {s x : List UInt8} (v : Value) (h : x ≠ s) : updM f s v x = f x := if_neg h
theorem strLaw : Keyed Try.prog 9 := string_keyed Try.underlying9
theorem MapAt.made (w : World) : MapAt (w.alloc (.map #[] 0)) w.heap.size 0 (fun _ => none) :=
  ⟨.map [], World.ownsMap_made w _ _ _, Maps.isMap_empty, fun s => ⟨rfl, fun zd => rfl⟩⟩
theorem MapAt.lt {w : World} {b n : Nat} {f : List UInt8 → Option Value} (h : MapAt w b n f) : b < w.heap.size := by obtain ⟨D, h, _⟩ := h; exact h.lt
theorem MapAt.grown {w w1 : World} {b n : Nat} {f : List UInt8 → Option Value} (h : MapAt w b n f) {row : Option Nat} (hg : w.grownBy w1 row) (hne : some b ≠ row) : MapAt w1 b n f := by
  obtain ⟨D, h, h2⟩ := h; exact ⟨D, h.kept hg hne, h2⟩
theorem MapAt.below {w w1 : World} {b n : Nat} {f : List UInt8 → Option Value} (h : MapAt w b n f) (hb : Below w.heap.size w w1) : MapAt w1 b n f := by
  have hlt := h.lt
  obtain ⟨D, ⟨es, clock, hh, F, hs, hD⟩, h2⟩ := h
  exact ⟨D, ⟨es, clock, (hb.block b hlt).trans hh, F, hs, hD⟩, h2⟩
theorem MapAt.alloc {w : World} {b n : Nat} {f : List UInt8 → Option Value} (h : MapAt w b n f) (o : Obj) : MapAt (w.alloc o) b n f := h.grown (World.grownBy_alloc w o none) (by simp)
theorem MapAt.drewN {w : World} {b n : Nat} {f : List UInt8 → Option Value} (h : MapAt w b n f) (m : Nat) : MapAt (w.drewN m) b n f := by
  obtain ⟨D, h, h2⟩ := h
  obtain ⟨es, clock, hh, F, hs, hD⟩ := h
  exact ⟨D, ⟨es, clock, by rw [World.heap_drewN]; exact hh, F, hs, hD⟩, h2⟩
theorem MapAt.mono {w : World} {b n n' : Nat} {f : List UInt8 → Option Value} (h : MapAt w b n f) (hn : n ≤ n') : MapAt w b n' f := by obtain ⟨D, h, h2⟩ := h; exact ⟨D, h.mono hn, h2⟩
theorem MapAt.look {w : World} {b n : Nat} {f : List UInt8 → Option Value} (h : MapAt w b n f) {t e : TypeId} (ht : Try.prog.underlying t = some (.map 9 e)) {z : Value} (hz : (zeroValue e).run Try.prog w = .ok z w) {s : ByteArray} (hs : s.size ≤ maxLen) :
    (Instr.lookup t (.map (some b)) (.string s) false).run Try.prog w = .ok ((f s.data.toList).getD z) w := by
  obtain ⟨D, h, _, h2⟩ := h
  obtain ⟨v, ps, hrun, hv⟩ := h.lookup strLaw ht hz (zd := .held z) (zp := []) rfl (keyOf_string_mk Try.underlying9 hs)
  rw [(h2 _).2] at hv
  have : v = (f s.data.toList).getD z := by
    have hv : some (DataW.held v, ([] : List MemPlace)) = _ := hv
    cases hf : f s.data.toList with
    | none => rw [hf] at hv; simp only [Option.some.injEq, Prod.mk.injEq, DataW.held.injEq] at hv; exact hv.1
    | some u => rw [hf] at hv; simp only [Option.some.injEq, Prod.mk.injEq, DataW.held.injEq] at hv; exact hv.1
  rw [this] at hrun
  exact hrun
theorem MapAt.lookOk {w : World} {b n : Nat} {f : List UInt8 → Option Value} (h : MapAt w b n f) {t e : TypeId} (ht : Try.prog.underlying t = some (.map 9 e)) {z : Value} (hz : (zeroValue e).run Try.prog w = .ok z w) {s : ByteArray} (hs : s.size ≤ maxLen) :
    (Instr.lookup t (.map (some b)) (.string s) true).run Try.prog w = .ok (.tuple #[(f s.data.toList).getD z, .bool (f s.data.toList).isSome]) w := by
  obtain ⟨D, h, _, h2⟩ := h
  obtain ⟨v, ps, hrun, hv⟩ := h.look_ok strLaw ht hz (zd := .held z) (zp := []) rfl (keyOf_string_mk Try.underlying9 hs)
  rw [(h2 _).2] at hv
  rw [(h2 _).1] at hrun
  have : v = (f s.data.toList).getD z := by
    have hv : some (DataW.held v, ([] : List MemPlace)) = _ := hv
    cases hf : f s.data.toList with
    | none => rw [hf] at hv; simp only [Option.some.injEq, Prod.mk.injEq, DataW.held.injEq] at hv; exact hv.1
    | some u => rw [hf] at hv; simp only [Option.some.injEq, Prod.mk.injEq, DataW.held.injEq] at hv; exact hv.1
  rw [this] at hrun
  exact hrun
theorem MapAt.put {w : World} {b n : Nat} {f : List UInt8 → Option Value} (h : MapAt w b n f) {t e : TypeId} (ht : Try.prog.underlying t = some (.map 9 e)) (hn : n < maxLen) {s : ByteArray} (hs : s.size ≤ maxLen) (v : Value) :
    ∃ w', (Instr.mapUpdate t (.map (some b)) (.string s) v).run Try.prog w = .ok () w' ∧ MapAt w' b (n + 1) (updM f s.data.toList v) ∧ w.grownBy w' (some b) := by
  obtain ⟨D, h, hm, h2⟩ := h
  obtain ⟨w', hrun, ho, hg⟩ := h.update strLaw ht hn (keyOf_string_mk Try.underlying9 hs) (val := v) (d := .held v) (ps := []) rfl
  have hk : WideAt.IsKeyLit (.string s.data.toList) := trivial
  refine ⟨w', hrun, ⟨_, ho, hm.put _ _, fun x => ?_⟩, hg⟩
  by_cases hx : x = s.data.toList
  · subst hx
    rw [updM_same]
    exact ⟨Maps.has_put_same hm hk _, fun zd => Maps.atKey_put_same hm hk _ _⟩
  · rw [updM_other v hx]
    have hne : Lit.string x ≠ Lit.string s.data.toList := fun e => hx (by injection e)
    exact ⟨by rw [Maps.has_put_other hne]; exact (h2 x).1, fun zd => by rw [Maps.atKey_put_other hne]; exact (h2 x).2 zd⟩
end Go.Proofs.Ytcagonpnjionhaa

/-! May a list be: what both sides check. -/
set_option linter.unusedVariables false
set_option linter.unusedSimpArgs false
namespace Go.Proofs.Ytcagonpnjionhaa
open Go.RowKit

def lessS (a b : ByteArray) : Bool := lessP (splitB a.data.toList) (splitB b.data.toList)
def prevOk (L : List En) (i : Nat) (x : En) : Bool := match i with
  | 0 => true
  | j+1 => match L[j]? with
    | none => true
    | some y => !decide (x.path = y.path) && !lessS x.path y.path
def isDir (s : List UInt8) (y : En) : Bool := y.kind == 2 && decide (y.path.data.toList = s)
def upOk (L : List En) (i : Nat) (x : En) : Bool := decide (parentB x.path.data.toList = []) || (L.take i).any (isDir (parentB x.path.data.toList))
def mostG (l : List En) : Int := l.foldl (fun m x => max m x.group) 0
def stepOk (L : List En) (i : Nat) : Bool := match L[i]? with
  | none => true
  | some x => okE x && (prevOk L i x && (upOk L i x && decide (x.group ≤ mostG (L.take i) + 1)))
def checkE (L : List En) : Bool := (List.range L.length).all (stepOk L)
def ChkTo (L : List En) (i : Nat) : Prop := ∀ j, j < i → stepOk L j = true
theorem ChkTo.zero (L : List En) : ChkTo L 0 := fun j h => absurd h (Nat.not_lt_zero _)
theorem ChkTo.succ {L : List En} {i : Nat} (h : ChkTo L i) (hs : stepOk L i = true) : ChkTo L (i + 1) := fun j hj => by
  rcases Nat.lt_or_ge j i with k | k
  · exact h j k
  · obtain rfl : j = i := by omega
    exact hs
theorem check_yes {L : List En} {n : Nat} (hn : L.length = n) (h : ChkTo L n) : checkE L = true := by
  unfold checkE
  rw [List.all_eq_true]
  intro j hj
  rw [List.mem_range, hn] at hj
  exact h j hj
theorem check_no {L : List En} {i : Nat} (hi : i < L.length) (h : stepOk L i = false) : checkE L = false := by
  unfold checkE
  rw [List.all_eq_false]
  exact ⟨i, List.mem_range.2 hi, by rw [h]; decide⟩
theorem ChkTo.of_check {L : List En} (h : checkE L = true) : ChkTo L L.length := fun j hj => by
  unfold checkE at h
  rw [List.all_eq_true] at h
  exact h j (List.mem_range.2 hj)
theorem stepOk_at {L : List En} {i : Nat} {x : En} (h : L[i]? = some x) : stepOk L i = (okE x && (prevOk L i x && (upOk L i x && decide (x.group ≤ mostG (L.take i) + 1)))) := by
  unfold stepOk; rw [h]
theorem prevOk_at {L : List En} {j : Nat} {x y : En} (h : L[j]? = some y) : prevOk L (j + 1) x = (!decide (x.path = y.path) && !lessS x.path y.path) := by
  simp only [prevOk, h]
theorem mostG_snoc {L : List En} {i : Nat} {x : En} (h : L[i]? = some x) : mostG (L.take (i + 1)) = max (mostG (L.take i)) x.group := by
  obtain ⟨hi, he⟩ := List.getElem?_eq_some_iff.1 h
  unfold mostG
  rw [List.take_succ_eq_append_getElem hi, he, List.foldl_append]; rfl
theorem mostG_le {L : List En} : ∀ {i : Nat}, ChkTo L i → i ≤ L.length → 0 ≤ mostG (L.take i) ∧ mostG (L.take i) ≤ i
  | 0, _, _ => by simp [mostG]
  | i+1, h, hi => by
    obtain ⟨h1, h2⟩ := mostG_le (fun j hj => h j (by omega)) (i := i) (by omega)
    have hx : L[i]? = some (L[i]'(by omega)) := List.getElem?_eq_getElem (by omega)
    have hs := h i (by omega)
    rw [stepOk_at hx] at hs
    simp only [Bool.and_eq_true, decide_eq_true_eq] at hs
    rw [mostG_snoc hx]
    have := hs.2.2.2
    constructor
    · exact Int.le_trans h1 (Int.le_max_left _ _)
    · exact Int.max_le.2 ⟨by omega, by omega⟩
def dirsF (l : List En) : List UInt8 → Option Value := fun s => if (decide (s = []) || l.any (isDir s)) = true then some (.bool true) else none
theorem dirsF_nil : dirsF [] = updM (fun _ => none) [] (.bool true) := by
  funext s
  unfold dirsF updM
  by_cases h : s = []
  · subst h; rfl
  · rw [if_neg h, if_neg]; simp [h]
theorem dirsF_dir {L : List En} {i : Nat} {x : En} (h : L[i]? = some x) (hk : x.kind = 2) : updM (dirsF (L.take i)) x.path.data.toList (.bool true) = dirsF (L.take (i + 1)) := by
  obtain ⟨hi, he⟩ := List.getElem?_eq_some_iff.1 h
  funext s
  unfold dirsF updM
  rw [List.take_succ_eq_append_getElem hi, he, List.any_append]
  by_cases hs : s = x.path.data.toList
  · subst hs
    rw [if_pos rfl, if_pos]
    simp [isDir, hk]
  · rw [if_neg hs]
    have : [x].any (isDir s) = false := by simp [isDir, Ne.symm hs]
    rw [this, Bool.or_false]
theorem dirsF_other {L : List En} {i : Nat} {x : En} (h : L[i]? = some x) (hk : x.kind ≠ 2) : dirsF (L.take (i + 1)) = dirsF (L.take i) := by
  obtain ⟨hi, he⟩ := List.getElem?_eq_some_iff.1 h
  funext s
  unfold dirsF
  rw [List.take_succ_eq_append_getElem hi, he, List.any_append]
  have : [x].any (isDir s) = false := by simp [isDir, hk]
  rw [this, Bool.or_false]
theorem dirsF_get (L : List En) (i : Nat) (x : En) : (dirsF (L.take i) (str (parentB x.path.data.toList)).data.toList).getD (.bool false) = .bool (upOk L i x) := by
  show (dirsF (L.take i) (parentB x.path.data.toList)).getD (.bool false) = _
  unfold dirsF upOk
  split
  · rename_i h; rw [h]; rfl
  · rename_i h; rw [Bool.not_eq_true] at h; rw [h]; rfl
theorem below_own {w a b : World} {B : Nat} (h : Below w.heap.size w a) (hg : a.grownBy b (some B)) (hB : w.heap.size ≤ B) : Below w.heap.size w b := h.grown hg h.size (fun j hj => by cases hj; exact hB)
theorem mbZero (w : World) : (zeroValue 4).run Try.prog w = .ok (.bool false) w := by kernel_rfl
end Go.Proofs.Ytcagonpnjionhaa

/-! The program's check of a list. -/
set_option linter.unusedVariables false
set_option linter.unusedSimpArgs false
namespace Go.Proofs.Ytcagonpnjionhaa
open Go.RowKit

set_option maxRecDepth 100000 in
set_option maxHeartbeats 8000000 in
theorem checkL_any (A : Option Addr) (n c : Nat) (L : List En) (w : World) (hs : Sl 11 w A n (encEs L)) (hp : ∀ x ∈ L, x.path.size ≤ 2097152) (hn : n ≤ 1000) :
    Calls Try.prog 14 #[.slice A n c] w fun e w' => TellE (checkE L) e ∧ Below w.heap.size w w' := by
  obtain ⟨X, hX⟩ : ∃ X, checkE L = X := ⟨_, rfl⟩
  have HX := Lib.hid hX
  rw [hX]
  clear hX
  have HS := Lib.hid hs
  have HP := Lib.hid hp
  have hln : L.length = n := hs.enLen
  have HLN := Lib.hid hln
  have hnm := hs.max
  clear hs hln hp
  have hmm := @run_makeMap Try.prog
  have hM0 := (MapAt.made w)
  have hB0 : Below w.heap.size w (w.alloc (.map #[] 0)) := (Below.refl _ _).alloc (Nat.le_refl _) _
  obtain ⟨w1, hrun, hM1, hg1⟩ := hM0.put Try.underlying61 (by unfold maxLen; omega) (s := ⟨#[]⟩) (by unfold maxLen; exact Nat.zero_le _) (.bool true)
  have HM1 := Lib.hid (show MapAt w1 w.heap.size 1 (dirsF (L.take 0)) by rw [List.take_zero, dirsF_nil]; exact hM1)
  have HB1 := Lib.hid (below_own hB0 hg1 (Nat.le_refl _))
  clear hM0 hM1 hB0 hg1
  go_enter Try.func14, Try.ntmps14
  go_wp2_with fail
  go_loopw [4, 12] (fun u v wr => ∃ i : Nat, u = .int .i64 (mostG (L.take i)) ∧ v = .int .i64 i ∧ i ≤ n ∧ ChkTo L i ∧ MapAt wr w.heap.size (i + 1) (dirsF (L.take i)) ∧ Below w.heap.size w wr) (fun _ v _ => n - (intOf v).toNat)
  case atStart => exact ⟨0, rfl, rfl, Nat.zero_le _, ChkTo.zero L, HM1.out, HB1.out⟩
  case round =>
    clear hrun
    obtain ⟨i, rfl, rfl, hi, hck, hm, hb⟩ := hrel
    have HCK := Lib.hid hck
    have HM := Lib.hid hm
    have HB := Lib.hid hb
    clear hck hm HM1 HB1
    rcases Nat.lt_or_ge i n with h | h
    · obtain ⟨b, o, x, hA, hr, hsg⟩ := (HS.out.below hb).enRow h
      have HST := Lib.hid (stepOk_at hr)
      have HG := Lib.hid (mostG_snoc hr)
      have HDD := Lib.hid (dirsF_dir hr)
      have HDO := Lib.hid (dirsF_other hr)
      have hml := mostG_le HCK.out (by rw [HLN.out]; exact hi)
      obtain ⟨hm0, hm1⟩ := hml
      have HDG := Lib.hid (dirsF_get L i x)
      have HAL := Lib.hid (alone_any x)
      have hxp := HP.out x (List.mem_of_getElem? hr)
      obtain ⟨k0, k1, k2, k3, k4, k5, k6, k7, k8, k9, k10⟩ := enCells hsg
      have hi2 : (i : Int) < (n : Int) := by omega
      have HNO : Hid (stepOk L i = false → X = false) := Lib.hid (fun h2 => by rw [← HX.out]; exact check_no (by rw [HLN.out]; exact h) h2)
      generalize hok : okE x = ok at *
      have hpr : i = 0 ∧ prevOk L i x = true ∨ ∃ (j : Nat) (y : En), i = j + 1 ∧ SgAt wr b (o + j * 11) (encE y) ∧ y.path.size ≤ 2097152 ∧ prevOk L i x = (!decide (x.path = y.path) && !lessS x.path y.path) := by
        cases i with
        | zero => exact .inl ⟨rfl, rfl⟩
        | succ j =>
          obtain ⟨b', o', y, hA', hr', hsg'⟩ := (HS.out.below hb).enRow (show j < n by omega)
          rw [hA] at hA'
          injection hA' with hA'
          injection hA' with e1 e2
          subst e1 e2
          exact .inr ⟨j, y, rfl, hsg', HP.out y (List.mem_of_getElem? hr'), prevOk_at hr'⟩
      generalize hpv : prevOk L i x = pv at *
      clear hpv hok
      generalize mostG (L.take i) = mg at *
      rw [hA]
      have N := Lib.hid (show Blk (wr.alloc (.cells #[.string x.path, .int .i64 x.kind, .int .i64 x.size, .int .i64 x.m0, .int .i64 x.m1, .int .i64 x.m2, .int .i64 x.m3, .int .i64 x.m4, .string x.target, .string x.sum, .int .i64 x.group] 37)) wr.heap.size 37 (encE x) from Blk.newA wr 37 #[.string x.path, .int .i64 x.kind, .int .i64 x.size, .int .i64 x.m0, .int .i64 x.m1, .int .i64 x.m2, .int .i64 x.m3, .int .i64 x.m4, .string x.target, .string x.sum, .int .i64 x.group])
      have HB2 := Lib.hid (HB.out.alloc HB.out.size (.cells #[.string x.path, .int .i64 x.kind, .int .i64 x.size, .int .i64 x.m0, .int .i64 x.m1, .int .i64 x.m2, .int .i64 x.m3, .int .i64 x.m4, .string x.target, .string x.sum, .int .i64 x.group] 37))
      have M2 := Lib.hid (HM.out.alloc (.cells #[.string x.path, .int .i64 x.kind, .int .i64 x.size, .int .i64 x.m0, .int .i64 x.m1, .int .i64 x.m2, .int .i64 x.m3, .int .i64 x.m4, .string x.target, .string x.sum, .int .i64 x.group] 37))
      have hb2 : b < wr.heap.size := World.block_lt_of_cell? wr _ k0
      clear hA hb hr HM
      go_wp2_with fail
      refine (HAL.out _ hxp).mono ?_
      rintro e w3 ⟨⟨k, rfl, hk⟩, hb3⟩
      have N3 := Lib.hid (N.out.below hb3)
      have B3 := Lib.hid (HB2.out.trans (hb3.mono HB2.out.size))
      have M3 := Lib.hid (M2.out.below hb3)
      have hww := ((Below.refl wr.heap.size wr).alloc (Nat.le_refl _) (.cells #[.string x.path, .int .i64 x.kind, .int .i64 x.size, .int .i64 x.m0, .int .i64 x.m1, .int .i64 x.m2, .int .i64 x.m3, .int .i64 x.m4, .string x.target, .string x.sum, .int .i64 x.group] 37))
      have W3 := Lib.hid (hww.trans (hb3.mono hww.size))
      clear hb3 N HB2 M2 HAL hww k0 k1 k2 k3 k4 k5 k6 k7 k8 k9 k10
      cases ok with
      | false =>
        have K := Lib.hid (show X = false from HNO.out (by rw [HST.out]; rfl))
        have hk1 : (k != 0) = true := by simpa using hk
        go_wp2_with fail
        go_ret
        exact ⟨⟨k, rfl, by rw [K.out]; exact hk⟩, B3.out⟩
      | true =>
      obtain rfl : k = 0 := by simpa using hk
      clear hk
      have hsz3 : wr.heap.size < w3.heap.size := N3.out.lt
      obtain ⟨c0, c1, c2, c3, c4, c5, c6, c7, c8, c9, c10⟩ := encE_cells (x := x) N3.out
      rcases hpr with ⟨hi0, rfl⟩ | ⟨j, y, hij, hsy, hyp, rfl⟩
      · have HST := Lib.hid (HST.out.trans (show (true && (true && (upOk L i x && decide (x.group ≤ mg + 1)))) = (upOk L i x && decide (x.group ≤ mg + 1)) from rfl))
        have d3 : ¬ (0 : Int) < (i : Int) := by omega
        have d4 : decide ((0 : Int) < (i : Int)) = false := decide_eq_false d3
        go_wp2_with fail
        go_quiet (fail)
        have N4 := Lib.hid (N3.out.drewN nq)
        have B4 := Lib.hid (below_drewN B3.out nq)
        have M4 := Lib.hid (M3.out.drewN nq)
        clear N3 B3 M3 c0 c1 c2 c3 c4 c5 c6 c7 c8 c9 c10 W3 hsz3
        generalize w3.drewN nq = w4 at *
        go_wp2_with fail
        refine wp_region_held_drew (S := fun w' => Below (w4.drew).heap.size (w4.drew) w') (by kernel_rfl) (Below.refl _ _) (fun hHeld => ?_)
        refine wpAnyH_take (i := 0) (oi := ?oi1) (v := ?v1) ?hi1 ?hs1 ?hf1 ?hr1 ?hQ1 (Or.inl ⟨?hg1, ?hy1⟩) hHeld ?rest1
        case hi1 => simp only [List.getElem?_toArray, List.getElem?_cons_succ, List.getElem?_cons_zero]; rfl
        case hs1 => kernel_rfl
        case hf1 => kernel_rfl
        case hr1 => kernel_rfl
        case hg1 => rfl
        case hy1 => (intro w hSw; first | (go_simp; done) | (go_simp; with_reducible rfl))
        case hQ1 => exact fun _ _ _ h => h
        try simp only [Act.put, List.setIfInBounds_toArray, List.set_cons_zero, List.set_cons_succ]
        refine wpAnyH_take (i := 1) (oi := ?oi2) (v := ?v2) ?hi2 ?hs2 ?hf2 ?hr2 ?hQ2 (Or.inl ⟨?hg2, ?hy2⟩) hHeld ?rest2
        case hi2 => simp only [List.getElem?_toArray, List.getElem?_cons_succ, List.getElem?_cons_zero]; rfl
        case hs2 => kernel_rfl
        case hf2 => kernel_rfl
        case hr2 => kernel_rfl
        case hg2 => rfl
        case hy2 => (intro w hSw; first | (go_simp; done) | (go_simp; with_reducible rfl))
        case hQ2 => exact fun _ _ _ h => h
        try simp only [Act.put, List.setIfInBounds_toArray, List.set_cons_zero, List.set_cons_succ]
        refine wpAnyH_take (i := 2) (oi := ?oi3) (v := ?v3) ?hi3 ?hs3 ?hf3 ?hr3 ?hQ3 (Or.inl ⟨?hg3, ?hy3⟩) hHeld ?rest3
        case hi3 => simp only [List.getElem?_toArray, List.getElem?_cons_succ, List.getElem?_cons_zero]; rfl
        case hs3 => kernel_rfl
        case hf3 => kernel_rfl
        case hr3 => kernel_rfl
        case hg3 => rfl
        case hy3 => (intro w hSw; first | (go_simp; done) | (go_simp; with_reducible rfl))
        case hQ3 => exact fun _ _ _ h => h
        try simp only [Act.put, List.setIfInBounds_toArray, List.set_cons_zero, List.set_cons_succ]
        refine wpAnyH_take (i := 3) (oi := ?oi4) (v := _) ?hi4 ?hs4 ?hf4 ?hr4 ?hQ4 (Or.inr ⟨?hg4, rfl⟩) hHeld ?rest4
        case hi4 => simp only [List.getElem?_toArray, List.getElem?_cons_succ, List.getElem?_cons_zero]; rfl
        case hs4 => kernel_rfl
        case hf4 => kernel_rfl
        case hr4 => kernel_rfl
        case hg4 => rfl
        case hQ4 => exact fun _ _ _ h => h
        try simp only [Act.put, List.setIfInBounds_toArray, List.set_cons_zero, List.set_cons_succ]
        refine wpAnyH_take (i := 4) (oi := ?oi5) (v := _) ?hi5 ?hs5 ?hf5 ?hr5 ?hQ5 (Or.inr ⟨?hg5, rfl⟩) hHeld ?rest5
        case hi5 => simp only [List.getElem?_toArray, List.getElem?_cons_succ, List.getElem?_cons_zero]; rfl
        case hs5 => kernel_rfl
        case hf5 => kernel_rfl
        case hr5 => kernel_rfl
        case hg5 => rfl
        case hQ5 => exact fun _ _ _ h => h
        try simp only [Act.put, List.setIfInBounds_toArray, List.set_cons_zero, List.set_cons_succ]
        refine wpAnyH_take (i := 5) (oi := ?oi6) (v := _) ?hi6 ?hs6 ?hf6 ?hr6 ?hQ6 (Or.inr ⟨?hg6, rfl⟩) hHeld ?rest6
        case hi6 => simp only [List.getElem?_toArray, List.getElem?_cons_succ, List.getElem?_cons_zero]; rfl
        case hs6 => kernel_rfl
        case hf6 => kernel_rfl
        case hr6 => kernel_rfl
        case hg6 => rfl
        case hQ6 => exact fun _ _ _ h => h
        try simp only [Act.put, List.setIfInBounds_toArray, List.set_cons_zero, List.set_cons_succ]
        refine wpAnyH_take (i := 6) (oi := ?oi7) (v := _) ?hi7 ?hs7 ?hf7 ?hr7 ?hQ7 (Or.inr ⟨?hg7, rfl⟩) hHeld ?rest7
        case hi7 => simp only [List.getElem?_toArray, List.getElem?_cons_succ, List.getElem?_cons_zero]; rfl
        case hs7 => kernel_rfl
        case hf7 => kernel_rfl
        case hr7 => kernel_rfl
        case hg7 => rfl
        case hQ7 => exact fun _ _ _ h => h
        try simp only [Act.put, List.setIfInBounds_toArray, List.set_cons_zero, List.set_cons_succ]
        refine wpAnyH_take (i := 7) (oi := ?oi8) (v := _) ?hi8 ?hs8 ?hf8 ?hr8 ?hQ8 (Or.inr ⟨?hg8, rfl⟩) hHeld ?rest8
        case hi8 => simp only [List.getElem?_toArray, List.getElem?_cons_succ, List.getElem?_cons_zero]; rfl
        case hs8 => kernel_rfl
        case hf8 => kernel_rfl
        case hr8 => kernel_rfl
        case hg8 => rfl
        case hQ8 => exact fun _ _ _ h => h
        try simp only [Act.put, List.setIfInBounds_toArray, List.set_cons_zero, List.set_cons_succ]
        refine wpAnyH_take (i := 8) (oi := ?oi9) (v := _) ?hi9 ?hs9 ?hf9 ?hr9 ?hQ9 (Or.inr ⟨?hg9, rfl⟩) hHeld ?rest9
        case hi9 => simp only [List.getElem?_toArray, List.getElem?_cons_succ, List.getElem?_cons_zero]; rfl
        case hs9 => kernel_rfl
        case hf9 => kernel_rfl
        case hr9 => kernel_rfl
        case hg9 => rfl
        case hQ9 => exact fun _ _ _ h => h
        try simp only [Act.put, List.setIfInBounds_toArray, List.set_cons_zero, List.set_cons_succ]
        refine wpAnyH_take (i := 9) (oi := ?oi10) (v := _) ?hi10 ?hs10 ?hf10 ?hr10 ?hQ10 (Or.inr ⟨?hg10, rfl⟩) hHeld ?rest10
        case hi10 => simp only [List.getElem?_toArray, List.getElem?_cons_succ, List.getElem?_cons_zero]; rfl
        case hs10 => kernel_rfl
        case hf10 => kernel_rfl
        case hr10 => kernel_rfl
        case hg10 => rfl
        case hQ10 => exact fun _ _ _ h => h
        try simp only [Act.put, List.setIfInBounds_toArray, List.set_cons_zero, List.set_cons_succ]
        refine wpAnyH_take (i := 10) (oi := ?oi11) (v := _) ?hi11 ?hs11 ?hf11 ?hr11 ?hQ11 (Or.inr ⟨?hg11, rfl⟩) hHeld ?rest11
        case hi11 => simp only [List.getElem?_toArray, List.getElem?_cons_succ, List.getElem?_cons_zero]; rfl
        case hs11 => kernel_rfl
        case hf11 => kernel_rfl
        case hr11 => kernel_rfl
        case hg11 => rfl
        case hQ11 => exact fun _ _ _ h => h
        try simp only [Act.put, List.setIfInBounds_toArray, List.set_cons_zero, List.set_cons_succ]
        refine wpAnyH_take (i := 11) (oi := ?oi12) (v := _) ?hi12 ?hs12 ?hf12 ?hr12 ?hQ12 (Or.inr ⟨?hg12, rfl⟩) hHeld ?rest12
        case hi12 => simp only [List.getElem?_toArray, List.getElem?_cons_succ, List.getElem?_cons_zero]; rfl
        case hs12 => kernel_rfl
        case hf12 => kernel_rfl
        case hr12 => kernel_rfl
        case hg12 => rfl
        case hQ12 => exact fun _ _ _ h => h
        try simp only [Act.put, List.setIfInBounds_toArray, List.set_cons_zero, List.set_cons_succ]
        refine wpAnyH_take (i := 12) (oi := ?oi13) (v := ?v13) ?hi13 ?hs13 ?hf13 ?hr13 ?hQ13 (Or.inl ⟨?hg13, ?hy13⟩) hHeld ?rest13
        case hi13 => simp only [List.getElem?_toArray, List.getElem?_cons_succ, List.getElem?_cons_zero]; rfl
        case hs13 => kernel_rfl
        case hf13 => kernel_rfl
        case hr13 => kernel_rfl
        case hg13 => rfl
        case hy13 => (intro w hSw; first | (go_simp; done) | (go_simp; with_reducible rfl))
        case hQ13 => exact fun _ _ _ h => h
        try simp only [Act.put, List.setIfInBounds_toArray, List.set_cons_zero, List.set_cons_succ]
        refine wpAnyH_done (by kernel_rfl) ?_ _
        have N5 := Lib.hid N4.out.drew
        have B5 := Lib.hid B4.out.drew
        have M5 := Lib.hid (show MapAt w4.drew w.heap.size (i + 1) (dirsF (L.take i)) from M4.out.drewN 1)
        clear N4 B4 M4
        generalize w4.drew = w5 at *
        obtain ⟨c0, c1, c2, c3, c4, c5, c6, c7, c8, c9, c10⟩ := encE_cells (x := x) N5.out
        go_wp2_with fail
        refine (parent_any x.path _ (by omega)).mono ?_
        rintro e w6 ⟨rfl, rfl⟩
        have hlk := M5.out.look Try.underlying61 (mbZero _) (s := str (parentB x.path.data.toList)) (by have := parentB_size x.path; unfold maxLen; omega)
        rw [HDG.out] at hlk
        generalize hup : upOk L i x = up at *
        clear hup
        cases up with
        | false =>
          have K := Lib.hid (show X = false from HNO.out (by rw [HST.out]; rfl))
          go_wp2_with fail
          go_ret
          exact ⟨⟨_, rfl, by rw [K.out]; rfl⟩, B5.out⟩
        | true =>
        rcases Int.lt_or_le (mg + 1) x.group with hgr | hgr
        · have f1 : decide (mg + 1 < x.group) = true := decide_eq_true hgr
          have K := Lib.hid (show X = false from HNO.out (by rw [HST.out, decide_eq_false (by omega)]; rfl))
          go_wp2_with fail
          go_ret
          exact ⟨⟨_, rfl, by rw [K.out]; rfl⟩, B5.out⟩
        have f1 : decide (mg + 1 < x.group) = false := decide_eq_false (by omega)
        have f2 : ¬ (mg + 1 < x.group) := by omega
        have KC := Lib.hid (HCK.out.succ (show stepOk L i = true by rw [HST.out, decide_eq_true hgr]; rfl))
        clear hgr
        by_cases hk2 : x.kind = 2
        · have g1 : (x.kind == 2) = true := by rw [hk2]; rfl
          obtain ⟨w7, hput, hm7, hg7⟩ := M5.out.put Try.underlying61 (by unfold maxLen; omega) (s := x.path) (by unfold maxLen; omega) (.bool true)
          have M7 := Lib.hid (show MapAt w7 w.heap.size (i + 1 + 1) (dirsF (L.take (i + 1))) by rw [← HDD.out hk2]; exact hm7)
          have B7 := Lib.hid (below_own B5.out hg7 (Nat.le_refl _))
          clear hm7 hg7 hk2
          go_wp2_with fail
          go_roundw
          case rel => exact ⟨i + 1, by rw [HG.out], by go_num, by omega, KC.out, M7.out, B7.out⟩
          case measure => simp [intOf] <;> omega
        · have g1 : (x.kind == 2) = false := by rw [beq_eq_false_iff_ne]; exact hk2
          have M7 := Lib.hid (show MapAt w6 w.heap.size (i + 1 + 1) (dirsF (L.take (i + 1))) by rw [HDO.out hk2]; exact M5.out.mono (Nat.le_succ _))
          clear hk2
          go_wp2_with fail
          go_roundw
          case rel => exact ⟨i + 1, by rw [HG.out], by go_num, by omega, KC.out, M7.out, B5.out⟩
          case measure => simp [intOf] <;> omega
      · obtain ⟨y0, _⟩ := enCells hsy
        have y3 := Lib.hid ((W3.out.cell (p := ⟨b, o + j * 11, none⟩) hb2).trans y0)
        clear y0 hsy
        have y4 := y3.out
        have d1 : (i : Int) - 1 = j := by omega
        have d2 : IntKind.wrap .i64 ((i : Int) - 1) = (j : Int) := by rw [IntKind.wrap_i64]; omega
        have d7 : IntKind.wrap .i64 (j : Int) = (j : Int) := by rw [IntKind.wrap_i64]; omega
        have d3 : (0 : Int) < (i : Int) := by omega
        have d4 : decide ((0 : Int) < (i : Int)) = true := decide_eq_true d3
        have d5 : (0 : Int) ≤ (j : Int) := by omega
        have d6 : (j : Int) < (n : Int) := by omega
        go_wp2_with fail
        by_cases hxy : x.path = y.path
        · have e1 : (x.path.toList == y.path.toList) = true := by rw [hxy]; simp
          have K := Lib.hid (show X = false from HNO.out (by rw [HST.out, decide_eq_true hxy]; rfl))
          go_quiet (fail)
          go_wp2_with fail
          go_ret
          exact ⟨⟨_, rfl, by rw [K.out]; rfl⟩, below_drewN B3.out _⟩
        have HST := Lib.hid (HST.out.trans (show (true && ((!decide (x.path = y.path) && !lessS x.path y.path) && (upOk L i x && decide (x.group ≤ mg + 1)))) = (!lessS x.path y.path && (upOk L i x && decide (x.group ≤ mg + 1))) by rw [decide_eq_false hxy]; simp))
        have e1 := ne_toList hxy
        clear hxy
        go_quiet (fail)
        have N4 := Lib.hid (N3.out.drewN nq)
        have B4 := Lib.hid (below_drewN B3.out nq)
        have M4 := Lib.hid (M3.out.drewN nq)
        have y5 := Lib.hid (show (w3.drewN nq).cell? ⟨b, o + j * 11, none⟩ = some (.string y.path) from y3.out)
        have b5 : b < (w3.drewN nq).heap.size := World.block_lt_of_cell? _ _ y5.out
        clear N3 B3 M3 c0 c1 c2 c3 c4 c5 c6 c7 c8 c9 c10 W3 hsz3 y3 y4 e1
        generalize w3.drewN nq = w4 at *
        obtain ⟨c0, c1, c2, c3, c4, c5, c6, c7, c8, c9, c10⟩ := encE_cells (x := x) N4.out
        have y6 := y5.out
        have HLS := Lib.hid (fun w => less_any x.path y.path w hxp hyp)
        have HLD := Lib.hid (show lessS x.path y.path = lessP (splitB x.path.data.toList) (splitB y.path.data.toList) from rfl)
        go_wp2_with fail
        refine wp_region_held_drew (S := fun w' => Below (w4.drew).heap.size (w4.drew) w') (by kernel_rfl) (Below.refl _ _) (fun hHeld => ?_)
        refine wpAnyH_take (i := 0) (oi := ?oi14) (v := ?v14) ?hi14 ?hs14 ?hf14 ?hr14 ?hQ14 (Or.inl ⟨?hg14, ?hy14⟩) hHeld ?rest14
        case hi14 => simp only [List.getElem?_toArray, List.getElem?_cons_succ, List.getElem?_cons_zero]; rfl
        case hs14 => kernel_rfl
        case hf14 => kernel_rfl
        case hr14 => kernel_rfl
        case hg14 => rfl
        case hy14 => (intro w hSw; first | (go_simp; done) | (go_simp; with_reducible rfl))
        case hQ14 => exact fun _ _ _ h => h
        try simp only [Act.put, List.setIfInBounds_toArray, List.set_cons_zero, List.set_cons_succ]
        refine wpAnyH_take (i := 1) (oi := ?oi15) (v := ?v15) ?hi15 ?hs15 ?hf15 ?hr15 ?hQ15 (Or.inl ⟨?hg15, ?hy15⟩) hHeld ?rest15
        case hi15 => simp only [List.getElem?_toArray, List.getElem?_cons_succ, List.getElem?_cons_zero]; rfl
        case hs15 => kernel_rfl
        case hf15 => kernel_rfl
        case hr15 => kernel_rfl
        case hg15 => rfl
        case hy15 => (intro w hSw; first | (go_simp; done) | (go_simp; with_reducible rfl))
        case hQ15 => exact fun _ _ _ h => h
        try simp only [Act.put, List.setIfInBounds_toArray, List.set_cons_zero, List.set_cons_succ]
        refine wpAnyH_take (i := 2) (oi := ?oi16) (v := ?v16) ?hi16 ?hs16 ?hf16 ?hr16 ?hQ16 (Or.inl ⟨?hg16, ?hy16⟩) hHeld ?rest16
        case hi16 => simp only [List.getElem?_toArray, List.getElem?_cons_succ, List.getElem?_cons_zero]; rfl
        case hs16 => kernel_rfl
        case hf16 => kernel_rfl
        case hr16 => kernel_rfl
        case hg16 => rfl
        case hy16 => (intro w hSw; first | (go_simp; done) | (go_simp; with_reducible rfl))
        case hQ16 => exact fun _ _ _ h => h
        try simp only [Act.put, List.setIfInBounds_toArray, List.set_cons_zero, List.set_cons_succ]
        refine wpAnyH_take (i := 3) (oi := ?oi17) (v := ?v17) ?hi17 ?hs17 ?hf17 ?hr17 ?hQ17 (Or.inl ⟨?hg17, ?hy17⟩) hHeld ?rest17
        case hi17 => simp only [List.getElem?_toArray, List.getElem?_cons_succ, List.getElem?_cons_zero]; rfl
        case hs17 => kernel_rfl
        case hf17 => kernel_rfl
        case hr17 => kernel_rfl
        case hg17 => rfl
        case hy17 => (intro w hSw; first | (go_simp; done) | (go_simp; with_reducible rfl))
        case hQ17 => exact fun _ _ _ h => h
        try simp only [Act.put, List.setIfInBounds_toArray, List.set_cons_zero, List.set_cons_succ]
        refine wpAnyH_take (i := 4) (oi := ?oi18) (v := ?v18) ?hi18 ?hs18 ?hf18 ?hr18 ?hQ18 (Or.inl ⟨?hg18, ?hy18⟩) hHeld ?rest18
        case hi18 => simp only [List.getElem?_toArray, List.getElem?_cons_succ, List.getElem?_cons_zero]; rfl
        case hs18 => kernel_rfl
        case hf18 => kernel_rfl
        case hr18 => kernel_rfl
        case hg18 => rfl
        case hy18 => (intro w hSw; have x0 := cell_below c0 ((Below.refl _ _).drew.trans hSw); first | (go_simp; done) | (go_simp; with_reducible rfl))
        case hQ18 => exact fun _ _ _ h => h
        try simp only [Act.put, List.setIfInBounds_toArray, List.set_cons_zero, List.set_cons_succ]
        refine wpAnyH_take (i := 5) (oi := ?oi19) (v := ?v19) ?hi19 ?hs19 ?hf19 ?hr19 ?hQ19 (Or.inl ⟨?hg19, ?hy19⟩) hHeld ?rest19
        case hi19 => simp only [List.getElem?_toArray, List.getElem?_cons_succ, List.getElem?_cons_zero]; rfl
        case hs19 => kernel_rfl
        case hf19 => kernel_rfl
        case hr19 => kernel_rfl
        case hg19 => rfl
        case hy19 => (intro w hSw; first | (go_simp; done) | (go_simp; with_reducible rfl))
        case hQ19 => exact fun _ _ _ h => h
        try simp only [Act.put, List.setIfInBounds_toArray, List.set_cons_zero, List.set_cons_succ]
        refine wpAnyH_take (i := 6) (oi := ?oi20) (v := ?v20) ?hi20 ?hs20 ?hf20 ?hr20 ?hQ20 (Or.inl ⟨?hg20, ?hy20⟩) hHeld ?rest20
        case hi20 => simp only [List.getElem?_toArray, List.getElem?_cons_succ, List.getElem?_cons_zero]; rfl
        case hs20 => kernel_rfl
        case hf20 => kernel_rfl
        case hr20 => kernel_rfl
        case hg20 => rfl
        case hy20 => (intro w hSw; first | (go_simp; done) | (go_simp; with_reducible rfl))
        case hQ20 => exact fun _ _ _ h => h
        try simp only [Act.put, List.setIfInBounds_toArray, List.set_cons_zero, List.set_cons_succ]
        refine wpAnyH_take (i := 7) (oi := ?oi21) (v := ?v21) ?hi21 ?hs21 ?hf21 ?hr21 ?hQ21 (Or.inl ⟨?hg21, ?hy21⟩) hHeld ?rest21
        case hi21 => simp only [List.getElem?_toArray, List.getElem?_cons_succ, List.getElem?_cons_zero]; rfl
        case hs21 => kernel_rfl
        case hf21 => kernel_rfl
        case hr21 => kernel_rfl
        case hg21 => rfl
        case hy21 => (intro w hSw; first | (go_simp; done) | (go_simp; with_reducible rfl))
        case hQ21 => exact fun _ _ _ h => h
        try simp only [Act.put, List.setIfInBounds_toArray, List.set_cons_zero, List.set_cons_succ]
        refine wpAnyH_take (i := 8) (oi := ?oi22) (v := ?v22) ?hi22 ?hs22 ?hf22 ?hr22 ?hQ22 (Or.inl ⟨?hg22, ?hy22⟩) hHeld ?rest22
        case hi22 => simp only [List.getElem?_toArray, List.getElem?_cons_succ, List.getElem?_cons_zero]; rfl
        case hs22 => kernel_rfl
        case hf22 => kernel_rfl
        case hr22 => kernel_rfl
        case hg22 => rfl
        case hy22 => (intro w hSw; first | (go_simp; done) | (go_simp; with_reducible rfl))
        case hQ22 => exact fun _ _ _ h => h
        try simp only [Act.put, List.setIfInBounds_toArray, List.set_cons_zero, List.set_cons_succ]
        refine wpAnyH_take (i := 9) (oi := ?oi23) (v := ?v23) ?hi23 ?hs23 ?hf23 ?hr23 ?hQ23 (Or.inl ⟨?hg23, ?hy23⟩) hHeld ?rest23
        case hi23 => simp only [List.getElem?_toArray, List.getElem?_cons_succ, List.getElem?_cons_zero]; rfl
        case hs23 => kernel_rfl
        case hf23 => kernel_rfl
        case hr23 => kernel_rfl
        case hg23 => rfl
        case hy23 => (intro w hSw; first | (go_simp; done) | (go_simp; with_reducible rfl))
        case hQ23 => exact fun _ _ _ h => h
        try simp only [Act.put, List.setIfInBounds_toArray, List.set_cons_zero, List.set_cons_succ]
        refine wpAnyH_take (i := 10) (oi := ?oi24) (v := ?v24) ?hi24 ?hs24 ?hf24 ?hr24 ?hQ24 (Or.inl ⟨?hg24, ?hy24⟩) hHeld ?rest24
        case hi24 => simp only [List.getElem?_toArray, List.getElem?_cons_succ, List.getElem?_cons_zero]; rfl
        case hs24 => kernel_rfl
        case hf24 => kernel_rfl
        case hr24 => kernel_rfl
        case hg24 => rfl
        case hy24 => (intro w hSw; have x0 := cell_below y6 ((Below.refl _ _).drew.trans hSw); first | (go_simp; done) | (go_simp; with_reducible rfl))
        case hQ24 => exact fun _ _ _ h => h
        try simp only [Act.put, List.setIfInBounds_toArray, List.set_cons_zero, List.set_cons_succ]
        refine wpAnyH_ready (rs := [11]) (by kernel_rfl) (by simp) ?_
        refine AllReadyH.cons (o := ?oi25) ?hi25 (fun K hK => ?_) AllReadyH.nil
        case hi25 => simp only [List.getElem?_toArray, List.getElem?_cons_succ, List.getElem?_cons_zero]; rfl
        go_simp; go_at_call 28; refine (HLS.out _).mono ?_; rintro e w5 ⟨rfl, hb5⟩; go_wp2_with fail
        refine hK.out _ _ (hb5) (fun _ => ?_)
        clear hK K hHeld
        refine wpAnyH_change (S' := fun w' => Below (w5).heap.size (w5) w') (fun w' h => (hb5).trans (h.mono (hb5).size)) _ _ _ _ ?_
        have hHeld : Below (w5).heap.size (w5) (w5) := Below.refl _ _
        try simp only [Act.put, List.setIfInBounds_toArray, List.set_cons_zero, List.set_cons_succ]
        rw [← HLD.out]
        generalize lessS x.path y.path = ls at *
        refine wpAnyH_take (i := 12) (oi := ?oi26) (v := ?v26) ?hi26 ?hs26 ?hf26 ?hr26 ?hQ26 (Or.inl ⟨?hg26, ?hy26⟩) hHeld ?rest26
        case hi26 => simp only [List.getElem?_toArray, List.getElem?_cons_succ, List.getElem?_cons_zero]; rfl
        case hs26 => kernel_rfl
        case hf26 => kernel_rfl
        case hr26 => kernel_rfl
        case hg26 => rfl
        case hy26 => (intro w hSw; first | (go_simp; done) | (go_simp; with_reducible rfl))
        case hQ26 => exact fun _ _ _ h => h
        try simp only [Act.put, List.setIfInBounds_toArray, List.set_cons_zero, List.set_cons_succ]
        refine wpAnyH_done (by kernel_rfl) ?_ _
        have N5 := Lib.hid (N4.out.drew.below hb5)
        have B5 := Lib.hid (B4.out.drew.trans (hb5.mono B4.out.drew.size))
        have M5 := Lib.hid ((show MapAt w4.drew w.heap.size (i + 1) (dirsF (L.take i)) from M4.out.drewN 1).below hb5)
        clear N4 B4 M4 hb5 c0 c1 c2 c3 c4 c5 c6 c7 c8 c9 c10 y5 y6
        cases ls with
        | true =>
          have K := Lib.hid (show X = false from HNO.out (by rw [HST.out]; rfl))
          go_wp2_with fail
          go_ret
          exact ⟨⟨_, rfl, by rw [K.out]; rfl⟩, B5.out⟩
        | false =>
        have HST := Lib.hid (HST.out.trans (show (!false && (upOk L i x && decide (x.group ≤ mg + 1))) = (upOk L i x && decide (x.group ≤ mg + 1)) from rfl))
        skip
        obtain ⟨c0, c1, c2, c3, c4, c5, c6, c7, c8, c9, c10⟩ := encE_cells (x := x) N5.out
        go_wp2_with fail
        refine (parent_any x.path _ (by omega)).mono ?_
        rintro e w6 ⟨rfl, rfl⟩
        have hlk := M5.out.look Try.underlying61 (mbZero _) (s := str (parentB x.path.data.toList)) (by have := parentB_size x.path; unfold maxLen; omega)
        rw [HDG.out] at hlk
        generalize hup : upOk L i x = up at *
        clear hup
        cases up with
        | false =>
          have K := Lib.hid (show X = false from HNO.out (by rw [HST.out]; rfl))
          go_wp2_with fail
          go_ret
          exact ⟨⟨_, rfl, by rw [K.out]; rfl⟩, B5.out⟩
        | true =>
        rcases Int.lt_or_le (mg + 1) x.group with hgr | hgr
        · have f1 : decide (mg + 1 < x.group) = true := decide_eq_true hgr
          have K := Lib.hid (show X = false from HNO.out (by rw [HST.out, decide_eq_false (by omega)]; rfl))
          go_wp2_with fail
          go_ret
          exact ⟨⟨_, rfl, by rw [K.out]; rfl⟩, B5.out⟩
        have f1 : decide (mg + 1 < x.group) = false := decide_eq_false (by omega)
        have f2 : ¬ (mg + 1 < x.group) := by omega
        have KC := Lib.hid (HCK.out.succ (show stepOk L i = true by rw [HST.out, decide_eq_true hgr]; rfl))
        clear hgr
        by_cases hk2 : x.kind = 2
        · have g1 : (x.kind == 2) = true := by rw [hk2]; rfl
          obtain ⟨w7, hput, hm7, hg7⟩ := M5.out.put Try.underlying61 (by unfold maxLen; omega) (s := x.path) (by unfold maxLen; omega) (.bool true)
          have M7 := Lib.hid (show MapAt w7 w.heap.size (i + 1 + 1) (dirsF (L.take (i + 1))) by rw [← HDD.out hk2]; exact hm7)
          have B7 := Lib.hid (below_own B5.out hg7 (Nat.le_refl _))
          clear hm7 hg7 hk2
          go_wp2_with fail
          go_roundw
          case rel => exact ⟨i + 1, by rw [HG.out], by go_num, by omega, KC.out, M7.out, B7.out⟩
          case measure => simp [intOf] <;> omega
        · have g1 : (x.kind == 2) = false := by rw [beq_eq_false_iff_ne]; exact hk2
          have M7 := Lib.hid (show MapAt w6 w.heap.size (i + 1 + 1) (dirsF (L.take (i + 1))) by rw [HDO.out hk2]; exact M5.out.mono (Nat.le_succ _))
          clear hk2
          go_wp2_with fail
          go_roundw
          case rel => exact ⟨i + 1, by rw [HG.out], by go_num, by omega, KC.out, M7.out, B5.out⟩
          case measure => simp [intOf] <;> omega
    · obtain rfl : i = n := by omega
      have K := Lib.hid (show X = true by rw [← HX.out]; exact check_yes HLN.out HCK.out)
      have hin : ¬ ((i : Int) < (i : Int)) := by omega
      clear hi h hb
      go_wp2_with fail
      go_ret
      exact ⟨⟨_, rfl, by rw [K.out]; rfl⟩, HB.out⟩
end Go.Proofs.Ytcagonpnjionhaa

/-! The document's check of a list. -/
set_option linter.unusedVariables false
set_option linter.unusedSimpArgs false
namespace Go.Proofs.Ytcagonpnjionhaa
open Go.RowKit

theorem encEs_take : ∀ (L : List En) (i : Nat), encEs (L.take i) = (encEs L).take (i * 11)
  | _, 0 => by simp [encEs]
  | [], i+1 => by simp [encEs]
  | x :: L, i+1 => by
    rw [List.take_succ_cons]
    show encE x ++ encEs (L.take i) = (encE x ++ encEs L).take ((i + 1) * 11)
    rw [encEs_take L i, List.take_append, show (encE x).length = 11 from rfl, show (i + 1) * 11 - 11 = i * 11 by omega, List.take_of_length_le (show (encE x).length ≤ (i + 1) * 11 by rw [show (encE x).length = 11 from rfl]; omega)]
theorem Sl.enPre {w : World} {A : Option Addr} {n : Nat} {L : List En} (h : Sl 11 w A n (encEs L)) {i : Nat} (hi : i ≤ n) : Sl 11 w A i (encEs (L.take i)) := by
  have hl := h.enLen
  have hm := h.max
  refine ⟨by rw [encEs_len, List.length_take]; congr 1; omega, by omega, ?_⟩
  rcases h.at_ with h0 | ⟨b, o, rfl, hc⟩
  · left; rw [encEs_take, h0]; simp
  · right
    refine ⟨b, o, rfl, fun j v hj => hc j v ?_⟩
    rw [encEs_take, List.getElem?_take] at hj
    split at hj
    · exact hj
    · cases hj
theorem chk_less {L : List En} : ∀ {n : Nat}, ChkTo L n → n ≤ L.length → ∀ {a b : Nat} {x y : En}, a < b → b < n → L[a]? = some x → L[b]? = some y → lessS x.path y.path = true := by
  intro n h hn a b x y hab hb hx hy
  induction b generalizing y with
  | zero => omega
  | succ j ih =>
    have hz : L[j]? = some (L[j]'(by omega)) := List.getElem?_eq_getElem (by omega)
    have hs := h (j + 1) hb
    rw [stepOk_at hy, prevOk_at hz] at hs
    simp only [Bool.and_eq_true, Bool.not_eq_true', decide_eq_false_iff_not] at hs
    obtain ⟨_, ⟨hne, hnl⟩, _⟩ := hs
    have hzy : lessS (L[j]'(by omega)).path y.path = true := by
      have h1 : splitB (L[j]'(by omega)).path.data.toList ≠ splitB y.path.data.toList := fun e => hne (ByteArray.ext (Array.toList_inj.1 (splitB_inj e))).symm
      rcases lessP_total h1 with k | k
      · exact k
      · unfold lessS at hnl; rw [k] at hnl; cases hnl
    rcases Nat.lt_or_ge a j with k | k
    · exact lessP_trans (ih k (by omega) hz) hzy
    · obtain rfl : a = j := by omega
      rw [hz] at hx
      cases hx
      exact hzy
theorem findK_spec (p : ByteArray) : ∀ (l : List En) (s : Nat), (∃ m y, l[m]? = some y ∧ y.path = p ∧ findK p l s = (((s + m : Nat) : Int), true)) ∨ (findK p l s = (0, false) ∧ ∀ y ∈ l, y.path ≠ p)
  | [], s => .inr ⟨rfl, fun y h => by cases h⟩
  | x :: r, s => by
    rw [findK]
    by_cases h : x.path = p
    · rw [if_pos h]; exact .inl ⟨0, x, rfl, h, rfl⟩
    · rw [if_neg h]
      rcases findK_spec p r (s + 1) with ⟨m, y, hm, hy, he⟩ | ⟨he, hn⟩
      · exact .inl ⟨m + 1, y, hm, hy, by rw [he, show s + 1 + m = s + (m + 1) by omega]⟩
      · exact .inr ⟨he, fun y hy => by rcases List.mem_cons.1 hy with rfl | hy; exact h; exact hn y hy⟩
theorem find_up {L : List En} {i : Nat} (hc : ChkTo L i) (hi : i ≤ L.length) (p : ByteArray) : (findK p (L.take i) 0 = (0, false) ∧ (L.take i).any (isDir p.data.toList) = false) ∨ ∃ (k : Nat) (y : En), k < i ∧ L[k]? = some y ∧ findK p (L.take i) 0 = ((k : Int), true) ∧ (L.take i).any (isDir p.data.toList) = (y.kind == 2) := by
  rcases findK_spec p (L.take i) 0 with ⟨k, y, hk, hy, he⟩ | ⟨he, hn⟩
  · right
    have hki : k < i := by have := (List.getElem?_eq_some_iff.1 hk).1; rw [List.length_take] at this; omega
    have hk2 : L[k]? = some y := by rw [List.getElem?_take, if_pos hki] at hk; exact hk
    refine ⟨k, y, hki, hk2, by rw [he, Nat.zero_add], ?_⟩
    cases hd : y.kind == 2 with
    | true =>
      rw [List.any_eq_true]
      exact ⟨y, List.mem_of_getElem? hk, by unfold isDir; rw [hd, hy]; simp⟩
    | false =>
      rw [List.any_eq_false]
      intro z hz hzd
      unfold isDir at hzd
      simp only [Bool.and_eq_true, decide_eq_true_eq] at hzd
      have hzp : z.path = p := ByteArray.ext (Array.toList_inj.1 hzd.2)
      obtain ⟨m, hm⟩ := List.mem_iff_getElem?.1 hz
      have hmi : m < i := by have := (List.getElem?_eq_some_iff.1 hm).1; rw [List.length_take] at this; omega
      have hm2 : L[m]? = some z := by rw [List.getElem?_take, if_pos hmi] at hm; exact hm
      rcases Nat.lt_trichotomy k m with c | c | c
      · have := chk_less hc hi c hmi hk2 hm2
        rw [hy, hzp] at this; unfold lessS at this; rw [lessP_irr] at this; cases this
      · subst c; rw [hk2] at hm2; cases hm2; rw [hzd.1] at hd; cases hd
      · have := chk_less hc hi c hki hm2 hk2
        rw [hy, hzp] at this; unfold lessS at this; rw [lessP_irr] at this; cases this
  · left
    refine ⟨he, ?_⟩
    rw [List.any_eq_false]
    intro z hz hzd
    unfold isDir at hzd
    simp only [Bool.and_eq_true, decide_eq_true_eq] at hzd
    exact hn z hz (ByteArray.ext (Array.toList_inj.1 hzd.2))
set_option maxRecDepth 100000 in
set_option maxHeartbeats 8000000 in
theorem refCheckL_any (A : Option Addr) (n c : Nat) (L : List En) (w : World) (hs : Sl 11 w A n (encEs L)) (hp : ∀ x ∈ L, x.path.size ≤ 2097152) (hn : n ≤ 1000) (hc : n ≤ c) :
    Calls Try.prog 36 #[.slice A n c] w fun e w' => TellE (checkE L) e ∧ Below w.heap.size w w' := by
  obtain ⟨X, hX⟩ : ∃ X, checkE L = X := ⟨_, rfl⟩
  have HX := Lib.hid hX
  rw [hX]
  clear hX
  have HS := Lib.hid hs
  have HP := Lib.hid hp
  have hln : L.length = n := hs.enLen
  have HLN := Lib.hid hln
  have hnm := hs.max
  clear hs hln hp
  go_enter Try.func36, Try.ntmps36
  go_wp2_with fail
  go_loopw [3, 4] (fun u v wr => ∃ i : Nat, u = .int .i64 (mostG (L.take i)) ∧ v = .int .i64 i ∧ i ≤ n ∧ ChkTo L i ∧ Below w.heap.size w wr) (fun _ v _ => n - (intOf v).toNat)
  case atStart => exact ⟨0, rfl, rfl, Nat.zero_le _, ChkTo.zero L, Below.refl _ _⟩
  case round =>
    obtain ⟨i, rfl, rfl, hi, hck, hb⟩ := hrel
    have HCK := Lib.hid hck
    have HB := Lib.hid hb
    clear hck
    rcases Nat.lt_or_ge i n with h | h
    · obtain ⟨b, o, x, hA, hr, hsg⟩ := (HS.out.below hb).enRow h
      have HST := Lib.hid (stepOk_at hr)
      have HG := Lib.hid (mostG_snoc hr)
      have hml := mostG_le HCK.out (by rw [HLN.out]; exact hi)
      obtain ⟨hm0, hm1⟩ := hml
      have HFU := Lib.hid (find_up HCK.out (by rw [HLN.out]; exact hi) (str (parentB x.path.data.toList)))
      have HAL := Lib.hid (may_any x)
      have hxp := HP.out x (List.mem_of_getElem? hr)
      obtain ⟨k0, k1, k2, k3, k4, k5, k6, k7, k8, k9, k10⟩ := enCells hsg
      have hi2 : (i : Int) < (n : Int) := by omega
      have HNO : Hid (stepOk L i = false → X = false) := Lib.hid (fun h2 => by rw [← HX.out]; exact check_no (by rw [HLN.out]; exact h) h2)
      generalize hok : okE x = ok at *
      have hpr : i = 0 ∧ prevOk L i x = true ∨ ∃ (j : Nat) (y : En), i = j + 1 ∧ SgAt wr b (o + j * 11) (encE y) ∧ y.path.size ≤ 2097152 ∧ prevOk L i x = (!decide (x.path = y.path) && !lessS x.path y.path) := by
        cases i with
        | zero => exact .inl ⟨rfl, rfl⟩
        | succ j =>
          obtain ⟨b', o', y, hA', hr', hsg'⟩ := (HS.out.below hb).enRow (show j < n by omega)
          rw [hA] at hA'
          injection hA' with hA'
          injection hA' with e1 e2
          subst e1 e2
          exact .inr ⟨j, y, rfl, hsg', HP.out y (List.mem_of_getElem? hr'), prevOk_at hr'⟩
      generalize hpv : prevOk L i x = pv at *
      clear hpv hok
      generalize mostG (L.take i) = mg at *
      have N := Lib.hid (show Blk (wr.alloc (.cells #[.string x.path, .int .i64 x.kind, .int .i64 x.size, .int .i64 x.m0, .int .i64 x.m1, .int .i64 x.m2, .int .i64 x.m3, .int .i64 x.m4, .string x.target, .string x.sum, .int .i64 x.group] 37)) wr.heap.size 37 (encE x) from Blk.newA wr 37 #[.string x.path, .int .i64 x.kind, .int .i64 x.size, .int .i64 x.m0, .int .i64 x.m1, .int .i64 x.m2, .int .i64 x.m3, .int .i64 x.m4, .string x.target, .string x.sum, .int .i64 x.group])
      have HB2 := Lib.hid (HB.out.alloc HB.out.size (.cells #[.string x.path, .int .i64 x.kind, .int .i64 x.size, .int .i64 x.m0, .int .i64 x.m1, .int .i64 x.m2, .int .i64 x.m3, .int .i64 x.m4, .string x.target, .string x.sum, .int .i64 x.group] 37))
      have hb2 : b < wr.heap.size := World.block_lt_of_cell? wr _ k0
      clear hb hr
      subst hA
      go_wp2_with fail
      refine (HAL.out _ hxp).mono ?_
      rintro e w3 ⟨⟨k, rfl, hk⟩, hb3⟩
      have N3 := Lib.hid (N.out.below hb3)
      have B3 := Lib.hid (HB2.out.trans (hb3.mono HB2.out.size))
      have hww := ((Below.refl wr.heap.size wr).alloc (Nat.le_refl _) (.cells #[.string x.path, .int .i64 x.kind, .int .i64 x.size, .int .i64 x.m0, .int .i64 x.m1, .int .i64 x.m2, .int .i64 x.m3, .int .i64 x.m4, .string x.target, .string x.sum, .int .i64 x.group] 37))
      have W3 := Lib.hid (hww.trans (hb3.mono hww.size))
      clear hb3 N HB2 HAL hww k0 k1 k2 k3 k4 k5 k6 k7 k8 k9 k10
      cases ok with
      | false =>
        have K := Lib.hid (show X = false from HNO.out (by rw [HST.out]; rfl))
        have hk1 : (k != 0) = true := by simpa using hk
        go_wp2_with fail
        go_ret
        exact ⟨⟨k, rfl, by rw [K.out]; exact hk⟩, B3.out⟩
      | true =>
      obtain rfl : k = 0 := by simpa using hk
      clear hk
      have hsz3 : wr.heap.size < w3.heap.size := N3.out.lt
      obtain ⟨c0, c1, c2, c3, c4, c5, c6, c7, c8, c9, c10⟩ := encE_cells (x := x) N3.out
      rcases hpr with ⟨hi0, rfl⟩ | ⟨j, y, hij, hsy, hyp, rfl⟩
      · have HST := Lib.hid (HST.out.trans (show (true && (true && (upOk L i x && decide (x.group ≤ mg + 1)))) = (upOk L i x && decide (x.group ≤ mg + 1)) from rfl))
        have d3 : ¬ (0 : Int) < (i : Int) := by omega
        have d4 : decide ((0 : Int) < (i : Int)) = false := decide_eq_false d3
        have d8 : ¬ 0 < i := by omega
        have d9 : decide (0 < i) = false := decide_eq_false d8
        clear hi0
        go_wp2_with fail
        go_quiet (fail)
        have N4 := Lib.hid (N3.out.drewN nq)
        have B4 := Lib.hid (below_drewN B3.out nq)
        clear N3 B3 c0 c1 c2 c3 c4 c5 c6 c7 c8 c9 c10 W3 hsz3
        generalize w3.drewN nq = w4 at *
        go_wp2_with fail
        refine wp_region_held_drew (S := fun w' => Below (w4.drew).heap.size (w4.drew) w') (by kernel_rfl) (Below.refl _ _) (fun hHeld => ?_)
        refine wpAnyH_take (i := 0) (oi := ?oi1) (v := ?v1) ?hi1 ?hs1 ?hf1 ?hr1 ?hQ1 (Or.inl ⟨?hg1, ?hy1⟩) hHeld ?rest1
        case hi1 => simp only [List.getElem?_toArray, List.getElem?_cons_succ, List.getElem?_cons_zero]; rfl
        case hs1 => kernel_rfl
        case hf1 => kernel_rfl
        case hr1 => kernel_rfl
        case hg1 => rfl
        case hy1 => (intro w hSw; first | (go_simp; done) | (go_simp; with_reducible rfl))
        case hQ1 => exact fun _ _ _ h => h
        try simp only [Act.put, List.setIfInBounds_toArray, List.set_cons_zero, List.set_cons_succ]
        refine wpAnyH_take (i := 1) (oi := ?oi2) (v := ?v2) ?hi2 ?hs2 ?hf2 ?hr2 ?hQ2 (Or.inl ⟨?hg2, ?hy2⟩) hHeld ?rest2
        case hi2 => simp only [List.getElem?_toArray, List.getElem?_cons_succ, List.getElem?_cons_zero]; rfl
        case hs2 => kernel_rfl
        case hf2 => kernel_rfl
        case hr2 => kernel_rfl
        case hg2 => rfl
        case hy2 => (intro w hSw; first | (go_simp; done) | (go_simp; with_reducible rfl))
        case hQ2 => exact fun _ _ _ h => h
        try simp only [Act.put, List.setIfInBounds_toArray, List.set_cons_zero, List.set_cons_succ]
        refine wpAnyH_take (i := 2) (oi := ?oi3) (v := ?v3) ?hi3 ?hs3 ?hf3 ?hr3 ?hQ3 (Or.inl ⟨?hg3, ?hy3⟩) hHeld ?rest3
        case hi3 => simp only [List.getElem?_toArray, List.getElem?_cons_succ, List.getElem?_cons_zero]; rfl
        case hs3 => kernel_rfl
        case hf3 => kernel_rfl
        case hr3 => kernel_rfl
        case hg3 => rfl
        case hy3 => (intro w hSw; first | (go_simp; done) | (go_simp; with_reducible rfl))
        case hQ3 => exact fun _ _ _ h => h
        try simp only [Act.put, List.setIfInBounds_toArray, List.set_cons_zero, List.set_cons_succ]
        refine wpAnyH_take (i := 3) (oi := ?oi4) (v := _) ?hi4 ?hs4 ?hf4 ?hr4 ?hQ4 (Or.inr ⟨?hg4, rfl⟩) hHeld ?rest4
        case hi4 => simp only [List.getElem?_toArray, List.getElem?_cons_succ, List.getElem?_cons_zero]; rfl
        case hs4 => kernel_rfl
        case hf4 => kernel_rfl
        case hr4 => kernel_rfl
        case hg4 => rfl
        case hQ4 => exact fun _ _ _ h => h
        try simp only [Act.put, List.setIfInBounds_toArray, List.set_cons_zero, List.set_cons_succ]
        refine wpAnyH_take (i := 4) (oi := ?oi5) (v := _) ?hi5 ?hs5 ?hf5 ?hr5 ?hQ5 (Or.inr ⟨?hg5, rfl⟩) hHeld ?rest5
        case hi5 => simp only [List.getElem?_toArray, List.getElem?_cons_succ, List.getElem?_cons_zero]; rfl
        case hs5 => kernel_rfl
        case hf5 => kernel_rfl
        case hr5 => kernel_rfl
        case hg5 => rfl
        case hQ5 => exact fun _ _ _ h => h
        try simp only [Act.put, List.setIfInBounds_toArray, List.set_cons_zero, List.set_cons_succ]
        refine wpAnyH_take (i := 5) (oi := ?oi6) (v := _) ?hi6 ?hs6 ?hf6 ?hr6 ?hQ6 (Or.inr ⟨?hg6, rfl⟩) hHeld ?rest6
        case hi6 => simp only [List.getElem?_toArray, List.getElem?_cons_succ, List.getElem?_cons_zero]; rfl
        case hs6 => kernel_rfl
        case hf6 => kernel_rfl
        case hr6 => kernel_rfl
        case hg6 => rfl
        case hQ6 => exact fun _ _ _ h => h
        try simp only [Act.put, List.setIfInBounds_toArray, List.set_cons_zero, List.set_cons_succ]
        refine wpAnyH_take (i := 6) (oi := ?oi7) (v := _) ?hi7 ?hs7 ?hf7 ?hr7 ?hQ7 (Or.inr ⟨?hg7, rfl⟩) hHeld ?rest7
        case hi7 => simp only [List.getElem?_toArray, List.getElem?_cons_succ, List.getElem?_cons_zero]; rfl
        case hs7 => kernel_rfl
        case hf7 => kernel_rfl
        case hr7 => kernel_rfl
        case hg7 => rfl
        case hQ7 => exact fun _ _ _ h => h
        try simp only [Act.put, List.setIfInBounds_toArray, List.set_cons_zero, List.set_cons_succ]
        refine wpAnyH_take (i := 7) (oi := ?oi8) (v := _) ?hi8 ?hs8 ?hf8 ?hr8 ?hQ8 (Or.inr ⟨?hg8, rfl⟩) hHeld ?rest8
        case hi8 => simp only [List.getElem?_toArray, List.getElem?_cons_succ, List.getElem?_cons_zero]; rfl
        case hs8 => kernel_rfl
        case hf8 => kernel_rfl
        case hr8 => kernel_rfl
        case hg8 => rfl
        case hQ8 => exact fun _ _ _ h => h
        try simp only [Act.put, List.setIfInBounds_toArray, List.set_cons_zero, List.set_cons_succ]
        refine wpAnyH_take (i := 8) (oi := ?oi9) (v := _) ?hi9 ?hs9 ?hf9 ?hr9 ?hQ9 (Or.inr ⟨?hg9, rfl⟩) hHeld ?rest9
        case hi9 => simp only [List.getElem?_toArray, List.getElem?_cons_succ, List.getElem?_cons_zero]; rfl
        case hs9 => kernel_rfl
        case hf9 => kernel_rfl
        case hr9 => kernel_rfl
        case hg9 => rfl
        case hQ9 => exact fun _ _ _ h => h
        try simp only [Act.put, List.setIfInBounds_toArray, List.set_cons_zero, List.set_cons_succ]
        refine wpAnyH_take (i := 9) (oi := ?oi10) (v := _) ?hi10 ?hs10 ?hf10 ?hr10 ?hQ10 (Or.inr ⟨?hg10, rfl⟩) hHeld ?rest10
        case hi10 => simp only [List.getElem?_toArray, List.getElem?_cons_succ, List.getElem?_cons_zero]; rfl
        case hs10 => kernel_rfl
        case hf10 => kernel_rfl
        case hr10 => kernel_rfl
        case hg10 => rfl
        case hQ10 => exact fun _ _ _ h => h
        try simp only [Act.put, List.setIfInBounds_toArray, List.set_cons_zero, List.set_cons_succ]
        refine wpAnyH_take (i := 10) (oi := ?oi11) (v := _) ?hi11 ?hs11 ?hf11 ?hr11 ?hQ11 (Or.inr ⟨?hg11, rfl⟩) hHeld ?rest11
        case hi11 => simp only [List.getElem?_toArray, List.getElem?_cons_succ, List.getElem?_cons_zero]; rfl
        case hs11 => kernel_rfl
        case hf11 => kernel_rfl
        case hr11 => kernel_rfl
        case hg11 => rfl
        case hQ11 => exact fun _ _ _ h => h
        try simp only [Act.put, List.setIfInBounds_toArray, List.set_cons_zero, List.set_cons_succ]
        refine wpAnyH_take (i := 11) (oi := ?oi12) (v := _) ?hi12 ?hs12 ?hf12 ?hr12 ?hQ12 (Or.inr ⟨?hg12, rfl⟩) hHeld ?rest12
        case hi12 => simp only [List.getElem?_toArray, List.getElem?_cons_succ, List.getElem?_cons_zero]; rfl
        case hs12 => kernel_rfl
        case hf12 => kernel_rfl
        case hr12 => kernel_rfl
        case hg12 => rfl
        case hQ12 => exact fun _ _ _ h => h
        try simp only [Act.put, List.setIfInBounds_toArray, List.set_cons_zero, List.set_cons_succ]
        refine wpAnyH_take (i := 12) (oi := ?oi13) (v := ?v13) ?hi13 ?hs13 ?hf13 ?hr13 ?hQ13 (Or.inl ⟨?hg13, ?hy13⟩) hHeld ?rest13
        case hi13 => simp only [List.getElem?_toArray, List.getElem?_cons_succ, List.getElem?_cons_zero]; rfl
        case hs13 => kernel_rfl
        case hf13 => kernel_rfl
        case hr13 => kernel_rfl
        case hg13 => rfl
        case hy13 => (intro w hSw; first | (go_simp; done) | (go_simp; with_reducible rfl))
        case hQ13 => exact fun _ _ _ h => h
        try simp only [Act.put, List.setIfInBounds_toArray, List.set_cons_zero, List.set_cons_succ]
        refine wpAnyH_done (by kernel_rfl) ?_ _
        have N5 := Lib.hid N4.out.drew
        have B5 := Lib.hid B4.out.drew
        clear N4 B4
        generalize w4.drew = w5 at *
        obtain ⟨c0, c1, c2, c3, c4, c5, c6, c7, c8, c9, c10⟩ := encE_cells (x := x) N5.out
        go_wp2_with fail
        refine (refParent_any x.path _ _ rfl hxp).mono ?_
        rintro e w6 ⟨rfl, hb6⟩
        have N6 := Lib.hid (N5.out.below hb6)
        have B6 := Lib.hid (B5.out.trans (hb6.mono B5.out.size))
        clear N5 B5 hb6 c0 c1 c2 c3 c4 c5 c6 c7 c8 c9 c10
        have hic : (i : Int) ≤ (c : Int) := by omega
        go_wp2_with fail
        refine (refFind_any (some ⟨b, o, none⟩) i c (L.take i) (str (parentB x.path.data.toList)) w6 ((HS.out.below B6.out).enPre hi)).mono ?_
        rintro e w7 ⟨rfl, hb7⟩
        have N7 := Lib.hid (N6.out.below hb7)
        have B7 := Lib.hid (B6.out.trans (hb7.mono B6.out.size))
        clear N6 B6 hb7
        obtain ⟨c0, c1, c2, c3, c4, c5, c6, c7, c8, c9, c10⟩ := encE_cells (x := x) N7.out
        have HUP := Lib.hid (show upOk L i x = (decide (parentB x.path.data.toList = []) || (L.take i).any (isDir (parentB x.path.data.toList))) from rfl)
        have HFU := Lib.hid (show (findK (str (parentB x.path.data.toList)) (L.take i) 0 = (0, false) ∧ (L.take i).any (isDir (parentB x.path.data.toList)) = false) ∨ ∃ (k : Nat) (y : En), k < i ∧ L[k]? = some y ∧ findK (str (parentB x.path.data.toList)) (L.take i) 0 = ((k : Int), true) ∧ (L.take i).any (isDir (parentB x.path.data.toList)) = (y.kind == 2) from HFU.out)
        generalize findK (str (parentB x.path.data.toList)) (L.take i) 0 = fk at *
        generalize (L.take i).any (isDir (parentB x.path.data.toList)) = ad at *
        rcases HFU.out with ⟨rfl, rfl⟩ | ⟨k, y, hki, hky, rfl, rfl⟩
        · have HST := Lib.hid HST.out
          clear HFU
          by_cases hz : (str (parentB x.path.data.toList)).size = 0
          · have hq : str (parentB x.path.data.toList) = ⟨#[]⟩ := ByteArray.ext (Array.size_eq_zero_iff.1 hz)
            have hq2 : parentB x.path.data.toList = [] := congrArg (fun s : ByteArray => s.data.toList) hq
            rw [hq]
            have HST := Lib.hid (HST.out.trans (show (upOk L i x && decide (x.group ≤ mg + 1)) = decide (x.group ≤ mg + 1) by rw [HUP.out, decide_eq_true hq2]; rfl))
            clear hz hq hq2 HUP
            rcases Int.lt_or_le (mg + 1) x.group with hgr | hgr
            · have f1 : decide (mg + 1 < x.group) = true := decide_eq_true hgr
              have K := Lib.hid (show X = false from HNO.out (by rw [HST.out]; exact decide_eq_false (by omega)))
              go_wp2_with fail
              go_ret
              exact ⟨⟨_, rfl, by rw [K.out]; rfl⟩, B7.out⟩
            have f1 : decide (mg + 1 < x.group) = false := decide_eq_false (by omega)
            have f2 : ¬ (mg + 1 < x.group) := by omega
            have KC := Lib.hid (HCK.out.succ (show stepOk L i = true by rw [HST.out]; exact decide_eq_true hgr))
            clear hgr
            go_wp2_with fail
            go_roundw
            case rel => exact ⟨i + 1, by rw [HG.out], by go_num, by omega, KC.out, B7.out⟩
            case measure => simp [intOf] <;> omega
          · have hnil := nil_toList _ hz
            have hq2 : parentB x.path.data.toList ≠ [] := fun e => hz (by rw [e]; rfl)
            have K0 := Lib.hid (HNO.out (by rw [HST.out, HUP.out, decide_eq_false hq2] <;> rfl))
            clear hz hq2 HUP
            have K := Lib.hid (show X = false from K0.out)
            go_wp2_with fail
            go_ret
            exact ⟨⟨_, rfl, by rw [K.out]; rfl⟩, B7.out⟩
        · exact absurd hki (by omega)
      · obtain ⟨y0, _⟩ := enCells hsy
        have y3 := Lib.hid ((W3.out.cell (p := ⟨b, o + j * 11, none⟩) hb2).trans y0)
        clear y0 hsy
        have y4 := y3.out
        have d1 : (i : Int) - 1 = j := by omega
        have d2 : IntKind.wrap .i64 ((i : Int) - 1) = (j : Int) := by rw [IntKind.wrap_i64]; omega
        have d7 : IntKind.wrap .i64 (j : Int) = (j : Int) := by rw [IntKind.wrap_i64]; omega
        have d8 : 0 < i := by omega
        have d9 : decide (0 < i) = true := decide_eq_true d8
        have d3 : (0 : Int) < (i : Int) := by omega
        have d4 : decide ((0 : Int) < (i : Int)) = true := decide_eq_true d3
        have d5 : (0 : Int) ≤ (j : Int) := by omega
        have d6 : (j : Int) < (n : Int) := by omega
        clear hij
        go_wp2_with fail
        by_cases hxy : x.path = y.path
        · have e1 : (x.path.toList == y.path.toList) = true := by rw [hxy]; simp
          have K := Lib.hid (show X = false from HNO.out (by rw [HST.out, decide_eq_true hxy]; rfl))
          go_quiet (fail)
          go_wp2_with fail
          go_ret
          exact ⟨⟨_, rfl, by rw [K.out]; rfl⟩, below_drewN B3.out _⟩
        have HST := Lib.hid (HST.out.trans (show (true && ((!decide (x.path = y.path) && !lessS x.path y.path) && (upOk L i x && decide (x.group ≤ mg + 1)))) = (!lessS x.path y.path && (upOk L i x && decide (x.group ≤ mg + 1))) by rw [decide_eq_false hxy]; simp))
        have e1 := ne_toList hxy
        clear hxy
        go_quiet (fail)
        have N4 := Lib.hid (N3.out.drewN nq)
        have B4 := Lib.hid (below_drewN B3.out nq)
        have y5 := Lib.hid (show (w3.drewN nq).cell? ⟨b, o + j * 11, none⟩ = some (.string y.path) from y3.out)
        have b5 : b < (w3.drewN nq).heap.size := World.block_lt_of_cell? _ _ y5.out
        clear N3 B3 c0 c1 c2 c3 c4 c5 c6 c7 c8 c9 c10 W3 hsz3 y3 y4 e1
        generalize w3.drewN nq = w4 at *
        obtain ⟨c0, c1, c2, c3, c4, c5, c6, c7, c8, c9, c10⟩ := encE_cells (x := x) N4.out
        have y6 := y5.out
        have HLS := Lib.hid (fun w => refLess_any x.path y.path _ _ w rfl rfl hxp hyp)
        have HLD := Lib.hid (show lessS x.path y.path = lessP (splitB x.path.data.toList) (splitB y.path.data.toList) from rfl)
        go_wp2_with fail
        refine wp_region_held_drew (S := fun w' => Below (w4.drew).heap.size (w4.drew) w') (by kernel_rfl) (Below.refl _ _) (fun hHeld => ?_)
        refine wpAnyH_take (i := 0) (oi := ?oi14) (v := ?v14) ?hi14 ?hs14 ?hf14 ?hr14 ?hQ14 (Or.inl ⟨?hg14, ?hy14⟩) hHeld ?rest14
        case hi14 => simp only [List.getElem?_toArray, List.getElem?_cons_succ, List.getElem?_cons_zero]; rfl
        case hs14 => kernel_rfl
        case hf14 => kernel_rfl
        case hr14 => kernel_rfl
        case hg14 => rfl
        case hy14 => (intro w hSw; first | (go_simp; done) | (go_simp; with_reducible rfl))
        case hQ14 => exact fun _ _ _ h => h
        try simp only [Act.put, List.setIfInBounds_toArray, List.set_cons_zero, List.set_cons_succ]
        refine wpAnyH_take (i := 1) (oi := ?oi15) (v := ?v15) ?hi15 ?hs15 ?hf15 ?hr15 ?hQ15 (Or.inl ⟨?hg15, ?hy15⟩) hHeld ?rest15
        case hi15 => simp only [List.getElem?_toArray, List.getElem?_cons_succ, List.getElem?_cons_zero]; rfl
        case hs15 => kernel_rfl
        case hf15 => kernel_rfl
        case hr15 => kernel_rfl
        case hg15 => rfl
        case hy15 => (intro w hSw; first | (go_simp; done) | (go_simp; with_reducible rfl))
        case hQ15 => exact fun _ _ _ h => h
        try simp only [Act.put, List.setIfInBounds_toArray, List.set_cons_zero, List.set_cons_succ]
        refine wpAnyH_take (i := 2) (oi := ?oi16) (v := ?v16) ?hi16 ?hs16 ?hf16 ?hr16 ?hQ16 (Or.inl ⟨?hg16, ?hy16⟩) hHeld ?rest16
        case hi16 => simp only [List.getElem?_toArray, List.getElem?_cons_succ, List.getElem?_cons_zero]; rfl
        case hs16 => kernel_rfl
        case hf16 => kernel_rfl
        case hr16 => kernel_rfl
        case hg16 => rfl
        case hy16 => (intro w hSw; first | (go_simp; done) | (go_simp; with_reducible rfl))
        case hQ16 => exact fun _ _ _ h => h
        try simp only [Act.put, List.setIfInBounds_toArray, List.set_cons_zero, List.set_cons_succ]
        refine wpAnyH_take (i := 3) (oi := ?oi17) (v := ?v17) ?hi17 ?hs17 ?hf17 ?hr17 ?hQ17 (Or.inl ⟨?hg17, ?hy17⟩) hHeld ?rest17
        case hi17 => simp only [List.getElem?_toArray, List.getElem?_cons_succ, List.getElem?_cons_zero]; rfl
        case hs17 => kernel_rfl
        case hf17 => kernel_rfl
        case hr17 => kernel_rfl
        case hg17 => rfl
        case hy17 => (intro w hSw; first | (go_simp; done) | (go_simp; with_reducible rfl))
        case hQ17 => exact fun _ _ _ h => h
        try simp only [Act.put, List.setIfInBounds_toArray, List.set_cons_zero, List.set_cons_succ]
        refine wpAnyH_take (i := 4) (oi := ?oi18) (v := ?v18) ?hi18 ?hs18 ?hf18 ?hr18 ?hQ18 (Or.inl ⟨?hg18, ?hy18⟩) hHeld ?rest18
        case hi18 => simp only [List.getElem?_toArray, List.getElem?_cons_succ, List.getElem?_cons_zero]; rfl
        case hs18 => kernel_rfl
        case hf18 => kernel_rfl
        case hr18 => kernel_rfl
        case hg18 => rfl
        case hy18 => (intro w hSw; have x0 := cell_below c0 ((Below.refl _ _).drew.trans hSw); first | (go_simp; done) | (go_simp; with_reducible rfl))
        case hQ18 => exact fun _ _ _ h => h
        try simp only [Act.put, List.setIfInBounds_toArray, List.set_cons_zero, List.set_cons_succ]
        refine wpAnyH_take (i := 5) (oi := ?oi19) (v := ?v19) ?hi19 ?hs19 ?hf19 ?hr19 ?hQ19 (Or.inl ⟨?hg19, ?hy19⟩) hHeld ?rest19
        case hi19 => simp only [List.getElem?_toArray, List.getElem?_cons_succ, List.getElem?_cons_zero]; rfl
        case hs19 => kernel_rfl
        case hf19 => kernel_rfl
        case hr19 => kernel_rfl
        case hg19 => rfl
        case hy19 => (intro w hSw; first | (go_simp; done) | (go_simp; with_reducible rfl))
        case hQ19 => exact fun _ _ _ h => h
        try simp only [Act.put, List.setIfInBounds_toArray, List.set_cons_zero, List.set_cons_succ]
        refine wpAnyH_take (i := 6) (oi := ?oi20) (v := ?v20) ?hi20 ?hs20 ?hf20 ?hr20 ?hQ20 (Or.inl ⟨?hg20, ?hy20⟩) hHeld ?rest20
        case hi20 => simp only [List.getElem?_toArray, List.getElem?_cons_succ, List.getElem?_cons_zero]; rfl
        case hs20 => kernel_rfl
        case hf20 => kernel_rfl
        case hr20 => kernel_rfl
        case hg20 => rfl
        case hy20 => (intro w hSw; first | (go_simp; done) | (go_simp; with_reducible rfl))
        case hQ20 => exact fun _ _ _ h => h
        try simp only [Act.put, List.setIfInBounds_toArray, List.set_cons_zero, List.set_cons_succ]
        refine wpAnyH_take (i := 7) (oi := ?oi21) (v := ?v21) ?hi21 ?hs21 ?hf21 ?hr21 ?hQ21 (Or.inl ⟨?hg21, ?hy21⟩) hHeld ?rest21
        case hi21 => simp only [List.getElem?_toArray, List.getElem?_cons_succ, List.getElem?_cons_zero]; rfl
        case hs21 => kernel_rfl
        case hf21 => kernel_rfl
        case hr21 => kernel_rfl
        case hg21 => rfl
        case hy21 => (intro w hSw; first | (go_simp; done) | (go_simp; with_reducible rfl))
        case hQ21 => exact fun _ _ _ h => h
        try simp only [Act.put, List.setIfInBounds_toArray, List.set_cons_zero, List.set_cons_succ]
        refine wpAnyH_take (i := 8) (oi := ?oi22) (v := ?v22) ?hi22 ?hs22 ?hf22 ?hr22 ?hQ22 (Or.inl ⟨?hg22, ?hy22⟩) hHeld ?rest22
        case hi22 => simp only [List.getElem?_toArray, List.getElem?_cons_succ, List.getElem?_cons_zero]; rfl
        case hs22 => kernel_rfl
        case hf22 => kernel_rfl
        case hr22 => kernel_rfl
        case hg22 => rfl
        case hy22 => (intro w hSw; first | (go_simp; done) | (go_simp; with_reducible rfl))
        case hQ22 => exact fun _ _ _ h => h
        try simp only [Act.put, List.setIfInBounds_toArray, List.set_cons_zero, List.set_cons_succ]
        refine wpAnyH_take (i := 9) (oi := ?oi23) (v := ?v23) ?hi23 ?hs23 ?hf23 ?hr23 ?hQ23 (Or.inl ⟨?hg23, ?hy23⟩) hHeld ?rest23
        case hi23 => simp only [List.getElem?_toArray, List.getElem?_cons_succ, List.getElem?_cons_zero]; rfl
        case hs23 => kernel_rfl
        case hf23 => kernel_rfl
        case hr23 => kernel_rfl
        case hg23 => rfl
        case hy23 => (intro w hSw; first | (go_simp; done) | (go_simp; with_reducible rfl))
        case hQ23 => exact fun _ _ _ h => h
        try simp only [Act.put, List.setIfInBounds_toArray, List.set_cons_zero, List.set_cons_succ]
        refine wpAnyH_take (i := 10) (oi := ?oi24) (v := ?v24) ?hi24 ?hs24 ?hf24 ?hr24 ?hQ24 (Or.inl ⟨?hg24, ?hy24⟩) hHeld ?rest24
        case hi24 => simp only [List.getElem?_toArray, List.getElem?_cons_succ, List.getElem?_cons_zero]; rfl
        case hs24 => kernel_rfl
        case hf24 => kernel_rfl
        case hr24 => kernel_rfl
        case hg24 => rfl
        case hy24 => (intro w hSw; have x0 := cell_below y6 ((Below.refl _ _).drew.trans hSw); first | (go_simp; done) | (go_simp; with_reducible rfl))
        case hQ24 => exact fun _ _ _ h => h
        try simp only [Act.put, List.setIfInBounds_toArray, List.set_cons_zero, List.set_cons_succ]
        refine wpAnyH_ready (rs := [11]) (by kernel_rfl) (by simp) ?_
        refine AllReadyH.cons (o := ?oi25) ?hi25 (fun K hK => ?_) AllReadyH.nil
        case hi25 => simp only [List.getElem?_toArray, List.getElem?_cons_succ, List.getElem?_cons_zero]; rfl
        go_simp; go_at_call 47; refine (HLS.out _).mono ?_; rintro e w5 ⟨rfl, hb5⟩; go_wp2_with fail
        refine hK.out _ _ (hb5) (fun _ => ?_)
        clear hK K hHeld
        refine wpAnyH_change (S' := fun w' => Below (w5).heap.size (w5) w') (fun w' h => (hb5).trans (h.mono (hb5).size)) _ _ _ _ ?_
        have hHeld : Below (w5).heap.size (w5) (w5) := Below.refl _ _
        try simp only [Act.put, List.setIfInBounds_toArray, List.set_cons_zero, List.set_cons_succ]
        rw [← HLD.out]
        generalize lessS x.path y.path = ls at *
        refine wpAnyH_take (i := 12) (oi := ?oi26) (v := ?v26) ?hi26 ?hs26 ?hf26 ?hr26 ?hQ26 (Or.inl ⟨?hg26, ?hy26⟩) hHeld ?rest26
        case hi26 => simp only [List.getElem?_toArray, List.getElem?_cons_succ, List.getElem?_cons_zero]; rfl
        case hs26 => kernel_rfl
        case hf26 => kernel_rfl
        case hr26 => kernel_rfl
        case hg26 => rfl
        case hy26 => (intro w hSw; first | (go_simp; done) | (go_simp; with_reducible rfl))
        case hQ26 => exact fun _ _ _ h => h
        try simp only [Act.put, List.setIfInBounds_toArray, List.set_cons_zero, List.set_cons_succ]
        refine wpAnyH_done (by kernel_rfl) ?_ _
        have N5 := Lib.hid (N4.out.drew.below hb5)
        have B5 := Lib.hid (B4.out.drew.trans (hb5.mono B4.out.drew.size))
        clear N4 B4 hb5 c0 c1 c2 c3 c4 c5 c6 c7 c8 c9 c10 y5 y6
        cases ls with
        | true =>
          have K := Lib.hid (show X = false from HNO.out (by rw [HST.out]; rfl))
          go_wp2_with fail
          go_ret
          exact ⟨⟨_, rfl, by rw [K.out]; rfl⟩, B5.out⟩
        | false =>
        have HST := Lib.hid (HST.out.trans (show (!false && (upOk L i x && decide (x.group ≤ mg + 1))) = (upOk L i x && decide (x.group ≤ mg + 1)) from rfl))
        skip
        obtain ⟨c0, c1, c2, c3, c4, c5, c6, c7, c8, c9, c10⟩ := encE_cells (x := x) N5.out
        go_wp2_with fail
        refine (refParent_any x.path _ _ rfl hxp).mono ?_
        rintro e w6 ⟨rfl, hb6⟩
        have N6 := Lib.hid (N5.out.below hb6)
        have B6 := Lib.hid (B5.out.trans (hb6.mono B5.out.size))
        clear N5 B5 hb6 c0 c1 c2 c3 c4 c5 c6 c7 c8 c9 c10
        have hic : (i : Int) ≤ (c : Int) := by omega
        go_wp2_with fail
        refine (refFind_any (some ⟨b, o, none⟩) i c (L.take i) (str (parentB x.path.data.toList)) w6 ((HS.out.below B6.out).enPre hi)).mono ?_
        rintro e w7 ⟨rfl, hb7⟩
        have N7 := Lib.hid (N6.out.below hb7)
        have B7 := Lib.hid (B6.out.trans (hb7.mono B6.out.size))
        clear N6 B6 hb7
        obtain ⟨c0, c1, c2, c3, c4, c5, c6, c7, c8, c9, c10⟩ := encE_cells (x := x) N7.out
        have HUP := Lib.hid (show upOk L i x = (decide (parentB x.path.data.toList = []) || (L.take i).any (isDir (parentB x.path.data.toList))) from rfl)
        have HFU := Lib.hid (show (findK (str (parentB x.path.data.toList)) (L.take i) 0 = (0, false) ∧ (L.take i).any (isDir (parentB x.path.data.toList)) = false) ∨ ∃ (k : Nat) (y : En), k < i ∧ L[k]? = some y ∧ findK (str (parentB x.path.data.toList)) (L.take i) 0 = ((k : Int), true) ∧ (L.take i).any (isDir (parentB x.path.data.toList)) = (y.kind == 2) from HFU.out)
        generalize findK (str (parentB x.path.data.toList)) (L.take i) 0 = fk at *
        generalize (L.take i).any (isDir (parentB x.path.data.toList)) = ad at *
        rcases HFU.out with ⟨rfl, rfl⟩ | ⟨k, y, hki, hky, rfl, rfl⟩
        · have HST := Lib.hid HST.out
          clear HFU
          by_cases hz : (str (parentB x.path.data.toList)).size = 0
          · have hq : str (parentB x.path.data.toList) = ⟨#[]⟩ := ByteArray.ext (Array.size_eq_zero_iff.1 hz)
            have hq2 : parentB x.path.data.toList = [] := congrArg (fun s : ByteArray => s.data.toList) hq
            rw [hq]
            have HST := Lib.hid (HST.out.trans (show (upOk L i x && decide (x.group ≤ mg + 1)) = decide (x.group ≤ mg + 1) by rw [HUP.out, decide_eq_true hq2]; rfl))
            clear hz hq hq2 HUP
            rcases Int.lt_or_le (mg + 1) x.group with hgr | hgr
            · have f1 : decide (mg + 1 < x.group) = true := decide_eq_true hgr
              have K := Lib.hid (show X = false from HNO.out (by rw [HST.out]; exact decide_eq_false (by omega)))
              go_wp2_with fail
              go_ret
              exact ⟨⟨_, rfl, by rw [K.out]; rfl⟩, B7.out⟩
            have f1 : decide (mg + 1 < x.group) = false := decide_eq_false (by omega)
            have f2 : ¬ (mg + 1 < x.group) := by omega
            have KC := Lib.hid (HCK.out.succ (show stepOk L i = true by rw [HST.out]; exact decide_eq_true hgr))
            clear hgr
            go_wp2_with fail
            go_roundw
            case rel => exact ⟨i + 1, by rw [HG.out], by go_num, by omega, KC.out, B7.out⟩
            case measure => simp [intOf] <;> omega
          · have hnil := nil_toList _ hz
            have hq2 : parentB x.path.data.toList ≠ [] := fun e => hz (by rw [e]; rfl)
            have K0 := Lib.hid (HNO.out (by rw [HST.out, HUP.out, decide_eq_false hq2] <;> rfl))
            clear hz hq2 HUP
            have K := Lib.hid (show X = false from K0.out)
            go_wp2_with fail
            go_ret
            exact ⟨⟨_, rfl, by rw [K.out]; rfl⟩, B7.out⟩
        · clear HFU
          obtain ⟨b', o', y', hA', hr', hsg'⟩ := (HS.out.below B7.out).enRow (show k < n by omega)
          injection hA' with hA'
          injection hA' with e1 e2
          subst e1 e2
          rw [hky] at hr'
          cases hr'
          have yk := (enCells hsg').2.1
          have yk0 := (enCells hsg').1
          clear hsg'
          have hk1 : (0 : Int) ≤ (k : Int) := by omega
          have hk2 : (k : Int) < (n : Int) := by omega
          by_cases hz : (str (parentB x.path.data.toList)).size = 0
          · have hq : str (parentB x.path.data.toList) = ⟨#[]⟩ := ByteArray.ext (Array.size_eq_zero_iff.1 hz)
            have hq2 : parentB x.path.data.toList = [] := congrArg (fun s : ByteArray => s.data.toList) hq
            rw [hq]
            have HST := Lib.hid (HST.out.trans (show (upOk L i x && decide (x.group ≤ mg + 1)) = decide (x.group ≤ mg + 1) by rw [HUP.out, decide_eq_true hq2]; rfl))
            clear hz hq hq2 HUP
            rcases Int.lt_or_le (mg + 1) x.group with hgr | hgr
            · have f1 : decide (mg + 1 < x.group) = true := decide_eq_true hgr
              have K := Lib.hid (show X = false from HNO.out (by rw [HST.out]; exact decide_eq_false (by omega)))
              go_wp2_with fail
              go_ret
              exact ⟨⟨_, rfl, by rw [K.out]; rfl⟩, B7.out⟩
            have f1 : decide (mg + 1 < x.group) = false := decide_eq_false (by omega)
            have f2 : ¬ (mg + 1 < x.group) := by omega
            have KC := Lib.hid (HCK.out.succ (show stepOk L i = true by rw [HST.out]; exact decide_eq_true hgr))
            clear hgr
            go_wp2_with fail
            go_roundw
            case rel => exact ⟨i + 1, by rw [HG.out], by go_num, by omega, KC.out, B7.out⟩
            case measure => simp [intOf] <;> omega
          have hnil := nil_toList _ hz
          have hq2 : parentB x.path.data.toList ≠ [] := fun e => hz (by rw [e]; rfl)
          by_cases hyk : y.kind = 2
          · have g1 : (y.kind == 2) = true := by rw [hyk]; rfl
            have g2 : (y.kind != 2) = false := by rw [bne, g1]; rfl
            have HST := Lib.hid (HST.out.trans (show (upOk L i x && decide (x.group ≤ mg + 1)) = decide (x.group ≤ mg + 1) by rw [HUP.out, g1]; simp))
            clear hz hq2 HUP hyk
            rcases Int.lt_or_le (mg + 1) x.group with hgr | hgr
            · have f1 : decide (mg + 1 < x.group) = true := decide_eq_true hgr
              have K := Lib.hid (show X = false from HNO.out (by rw [HST.out]; exact decide_eq_false (by omega)))
              go_wp2_with fail
              go_ret
              exact ⟨⟨_, rfl, by rw [K.out]; rfl⟩, B7.out⟩
            have f1 : decide (mg + 1 < x.group) = false := decide_eq_false (by omega)
            have f2 : ¬ (mg + 1 < x.group) := by omega
            have KC := Lib.hid (HCK.out.succ (show stepOk L i = true by rw [HST.out]; exact decide_eq_true hgr))
            clear hgr
            go_wp2_with fail
            go_roundw
            case rel => exact ⟨i + 1, by rw [HG.out], by go_num, by omega, KC.out, B7.out⟩
            case measure => simp [intOf] <;> omega
          have g1 : (y.kind == 2) = false := by rw [beq_eq_false_iff_ne]; exact hyk
          have g2 : (y.kind != 2) = true := by rw [bne, g1]; rfl
          have K0 := Lib.hid (HNO.out (by rw [HST.out, HUP.out, decide_eq_false hq2, g1] <;> first | rfl | simp))
          clear hz hq2 HUP hyk
          have K := Lib.hid (show X = false from K0.out)
          go_wp2_with fail
          go_ret
          exact ⟨⟨_, rfl, by rw [K.out]; rfl⟩, B7.out⟩
    · obtain rfl : i = n := by omega
      have K := Lib.hid (show X = true by rw [← HX.out]; exact check_yes HLN.out HCK.out)
      have hin : ¬ ((i : Int) < (i : Int)) := by omega
      clear hi h hb
      go_wp2_with fail
      go_ret
      exact ⟨⟨_, rfl, by rw [K.out]; rfl⟩, HB.out⟩
end Go.Proofs.Ytcagonpnjionhaa
