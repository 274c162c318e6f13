import Derived.WalkKit
import Derived.WalkSpells
import Derived.WalkLawsBesides
import Derived.BigQuiet
import Derived.Deep.QuietTactic
import Derived.Deep.Upon
import Derived.Deep.AppendLies
import Derived.Lib.AppendStr
import Derived.Lib.Hide
import Derived.Laws.BytesArg
import Derived.Laws.RangeAny
import Derived.Lib.OthersKept
import Derived.Maps.AppendAt
import Derived.Laws.IdiomStrings
import Derived.Laws.MakeOwn
import Derived.Deep.RegionHeld2
import Derived.Test.YtlbbehfbjbbckaaGreatDoorChecked
import Derived.StillTailTactics
import Derived.IntWalk
import Derived.Deep.MidRow
import Derived.Lib.Strings
import Derived.Lib.Slices
import Derived.Lib.Walk
import Derived.Lib.Bytealg
/-! Plain laws on numbers in bytes: no program here. -/
namespace Go.Proofs.YtlbbehfbjbbckaaGreatDoor

def mxI (a b : Int) : Int := if a < b then b else a
def mnI (a b : Int) : Int := if b < a then b else a
def clampN (m : Int) : Nat := (mnI (mxI m 0) 4611686018427387903).toNat
theorem clamp_eq (m : Int) : mnI (mxI m 0) 4611686018427387903 = (clampN m : Int) := by unfold clampN mnI mxI; split <;> split <;> omega
theorem clamp_le (m : Int) : clampN m ≤ 4611686018427387903 := by unfold clampN mnI mxI; split <;> split <;> omega
/-- the bytes of a number, least bits first -/
def grp : Nat → Nat → List UInt8
  | 0, n => [UInt8.ofNat n]
  | f+1, n => if n ≤ 127 then [UInt8.ofNat n] else UInt8.ofNat (n % 128 + 128) :: grp f (n / 128)
def putN (m : Int) : List UInt8 := grp 9 (clampN m)
theorem grp_one {f n : Nat} (h : n ≤ 127) : grp f n = [UInt8.ofNat n] := by cases f <;> simp [grp, h]
theorem grp_more {f n : Nat} (h : 127 < n) : grp (f+1) n = UInt8.ofNat (n % 128 + 128) :: grp f (n / 128) := by rw [grp, if_neg (by omega)]
theorem grp_pos (f n : Nat) : 0 < (grp f n).length := by cases f <;> simp [grp]; split <;> simp
theorem grp_le (f n : Nat) : (grp f n).length ≤ f + 1 := by
  induction f generalizing n with
  | zero => simp [grp]
  | succ f ih => simp only [grp]; split <;> simp; exact ih _

def putT (s : ByteArray) : List UInt8 := putN s.size ++ s.data.toList
theorem putN_len_le (m : Int) : (putN m).length ≤ 10 := grp_le 9 _
theorem putN_len_pos (m : Int) : 0 < (putN m).length := grp_pos 9 _
theorem putT_len (s : ByteArray) : (putT s).length = (putN s.size).length + s.size := by simp only [putT, List.length_append]; rfl


def str (l : List UInt8) : ByteArray := ⟨l.toArray⟩
def addL (q m j : Nat) : Except Nat (Nat × Nat) → Except Nat (Nat × Nat)
  | .error e => .error e
  | .ok (n, k) => .ok (q + m * n, k + j)
/-- A number at the head of bytes: its value and how many bytes it has; or the error (5: its form, 4: the bytes end). -/
def getL : Nat → List UInt8 → Bool → Except Nat (Nat × Nat)
  | 0, _, _ => .error 5
  | _+1, [], _ => .error 4
  | f+1, c :: l, first =>
    if 127 < c.toNat then addL (c.toNat % 128) 128 1 (getL f l false)
    else if c.toNat = 0 ∧ first = false then .error 5 else .ok (c.toNat, 1)
/-- What Get answers: the number, the place behind it, the error. -/
def getR (p : Int) : Except Nat (Nat × Nat) → Int × Int × Int
  | .error e => (0, 0, e)
  | .ok (n, k) => if 4611686018427387903 < n then (0, 0, 7) else (n, p + k, 0)
def getS (b : List UInt8) (p : Int) : Int × Int × Int :=
  if p < 0 ∨ (b.length : Int) < p then (0, 0, 3) else getR p (getL 9 (b.drop p.toNat) true)
theorem addL_addL (q m j a : Nat) (x : Except Nat (Nat × Nat)) : addL q m j (addL a 128 1 x) = addL (q + m * a) (m * 128) (j + 1) x := by
  rcases x with e | ⟨n, k⟩
  · rfl
  · simp only [addL, Nat.mul_add, Nat.mul_assoc, Nat.add_assoc, Nat.add_comm j 1]
theorem addL_one (x : Except Nat (Nat × Nat)) : addL 0 1 0 x = x := by rcases x with e | ⟨n, k⟩ <;> simp [addL]
theorem getL_more {f : Nat} {c : UInt8} {l : List UInt8} {first : Bool} (h : 127 < c.toNat) : getL (f+1) (c :: l) first = addL (c.toNat % 128) 128 1 (getL f l false) := by rw [getL, if_pos h]
theorem getL_zero {f : Nat} {c : UInt8} {l : List UInt8} (h : c.toNat = 0) : getL (f+1) (c :: l) false = .error 5 := by rw [getL, if_neg (by omega), if_pos ⟨h, rfl⟩]
theorem getL_last {f : Nat} {c : UInt8} {l : List UInt8} {first : Bool} (h : ¬ 127 < c.toNat) (h0 : c.toNat ≠ 0 ∨ first = true) : getL (f+1) (c :: l) first = .ok (c.toNat, 1) := by
  rw [getL, if_neg h, if_neg]
  rintro ⟨h1, h2⟩
  rcases h0 with h0 | h0
  · exact h0 h1
  · rw [h0] at h2; cases h2
theorem drop_cons {α : Type} {bs : List α} {k : Nat} (h : k < bs.length) : bs.drop k = bs[k] :: bs.drop (k + 1) := (List.drop_eq_getElem_cons h)
theorem getL_ok : ∀ f l first n k, getL f l first = .ok (n, k) → 1 ≤ k ∧ k ≤ l.length ∧ k ≤ f := by
  intro f
  induction f with
  | zero => intro l first n k h; simp [getL] at h
  | succ f ih =>
    intro l first n k h
    cases l with
    | nil => simp [getL] at h
    | cons c l =>
      rw [getL] at h
      split at h
      · rcases hx : getL f l false with e | ⟨m, j⟩
        · rw [hx] at h; simp [addL] at h
        · rw [hx] at h
          have := ih l false m j hx
          simp only [addL, Except.ok.injEq, Prod.mk.injEq] at h
          simp only [List.length_cons]; omega
      · split at h
        · cases h
        · simp only [Except.ok.injEq, Prod.mk.injEq] at h
          simp only [List.length_cons]; omega
theorem getL_err : ∀ f l first e, getL f l first = .error e → e = 4 ∨ e = 5 := by
  intro f
  induction f with
  | zero => intro l first e h; simp [getL] at h; omega
  | succ f ih =>
    intro l first e h
    cases l with
    | nil => simp [getL] at h; omega
    | cons c l =>
      rw [getL] at h
      split at h
      · rcases hx : getL f l false with e' | ⟨m, j⟩
        · rw [hx] at h; simp only [addL, Except.error.injEq] at h; subst h; exact ih l false _ hx
        · rw [hx] at h; simp [addL] at h
      · split at h
        · simp only [Except.error.injEq] at h; omega
        · cases h
theorem getS_cases (b : List UInt8) (p : Int) : (∃ x to : Nat, getS b p = ((x : Int), (to : Int), (0 : Int)) ∧ x ≤ 4611686018427387903 ∧ 0 ≤ p ∧ p < to ∧ to ≤ b.length ∧ to ≤ p + 9) ∨ ∃ e : Int, getS b p = (0, 0, e) ∧ e ≠ 0 ∧ 0 < e ∧ e < 8 := by
  unfold getS
  split
  · exact .inr ⟨3, rfl, by omega, by omega, by omega⟩
  · rename_i hp
    rcases hx : getL 9 (b.drop p.toNat) true with e | ⟨n, k⟩
    · have := getL_err _ _ _ _ hx
      exact .inr ⟨e, rfl, by omega, by omega, by omega⟩
    · have := getL_ok _ _ _ _ _ hx
      simp only [List.length_drop] at this
      simp only [getR]
      split
      · exact .inr ⟨7, rfl, by omega, by omega, by omega⟩
      · refine .inl ⟨n, p.toNat + k, ?_, by omega, by omega, by omega, by omega, by omega⟩
        rw [show ((p.toNat + k : Nat) : Int) = p + k by omega]
/-- The number whose bytes these are, least first; the top bit of each doesn't count. -/
def valLE (l : List UInt8) : Nat := l.foldr (fun c a => c.toNat % 128 + 128 * a) 0
theorem valLE_cons (c : UInt8) (l : List UInt8) : valLE (c :: l) = c.toNat % 128 + 128 * valLE l := rfl
theorem valLE_append (xs ys : List UInt8) : valLE (xs ++ ys) = valLE xs + 128 ^ xs.length * valLE ys := by
  induction xs with
  | nil => simp [valLE]
  | cons c l ih =>
    simp only [List.cons_append, valLE_cons, ih, List.length_cons, Nat.pow_succ, Nat.mul_add, Nat.mul_assoc, Nat.add_assoc]
    rw [Nat.mul_left_comm]
theorem valLE_ge {xs ys : List UInt8} (h : 0 < xs.length) : 128 * valLE ys ≤ valLE (xs ++ ys) := by
  rw [valLE_append]
  have h1 : 128 ^ 1 ≤ 128 ^ xs.length := Nat.pow_le_pow_right (by omega) h
  have := Nat.mul_le_mul_right (valLE ys) h1
  omega
theorem getL_run : ∀ j f l first, j < f → (hj : j < l.length) → (∀ i, i < j → 127 < (l.getD i 0).toNat) → ¬ 127 < (l[j]).toNat → ((l[j]).toNat ≠ 0 ∨ (j = 0 ∧ first = true)) →
    getL f l first = .ok (valLE (l.take (j + 1)), j + 1) := by
  intro j
  induction j with
  | zero =>
    intro f l first hf hj hup h1 h0
    obtain ⟨f, rfl⟩ : ∃ f', f = f' + 1 := ⟨f - 1, by omega⟩
    cases l with
    | nil => simp at hj
    | cons c l =>
      simp only [List.getElem_cons_zero] at h1 h0
      rw [getL_last h1 (by rcases h0 with h | h; exact .inl h; exact .inr h.2)]
      simp [valLE]; omega
  | succ j ih =>
    intro f l first hf hj hup h1 h0
    obtain ⟨f, rfl⟩ : ∃ f', f = f' + 1 := ⟨f - 1, by omega⟩
    cases l with
    | nil => simp at hj
    | cons c l =>
      simp only [List.getElem_cons_succ] at h1 h0
      have hc := hup 0 (by omega)
      simp at hc
      rw [getL_more hc, ih f l false (by omega) (by simpa using hj) (fun i hi => by simpa using hup (i+1) (by omega)) h1 (by left; rcases h0 with h | h; exact h; omega)]
      simp only [addL, List.take_succ_cons, valLE_cons]
theorem getL_run0 : ∀ j f l first, j < f → (hj : j < l.length) → (∀ i, i < j → 127 < (l.getD i 0).toNat) → (l[j]).toNat = 0 → (0 < j ∨ first = false) → getL f l first = .error 5 := by
  intro j
  induction j with
  | zero =>
    intro f l first hf hj hup h1 h0
    obtain ⟨f, rfl⟩ : ∃ f', f = f' + 1 := ⟨f - 1, by omega⟩
    cases l with
    | nil => simp at hj
    | cons c l =>
      obtain rfl : first = false := by rcases h0 with h | h; omega; exact h
      exact getL_zero (by simpa using h1)
  | succ j ih =>
    intro f l first hf hj hup h1 h0
    obtain ⟨f, rfl⟩ : ∃ f', f = f' + 1 := ⟨f - 1, by omega⟩
    cases l with
    | nil => simp at hj
    | cons c l =>
      have hc := hup 0 (by omega)
      simp at hc
      rw [getL_more hc, ih f l false (by omega) (by simpa using hj) (fun i hi => by simpa using hup (i+1) (by omega)) (by simpa using h1) (.inr rfl)]
      rfl
theorem getL_end : ∀ f l first, l.length < f → (∀ i, i < l.length → 127 < (l.getD i 0).toNat) → getL f l first = .error 4 := by
  intro f
  induction f with
  | zero => intro l first h; omega
  | succ f ih =>
    intro l first h hup
    cases l with
    | nil => rfl
    | cons c l =>
      have hc := hup 0 (by simp)
      simp at hc
      rw [getL_more hc, ih l false (by simpa using h) (fun i hi => by simpa using hup (i+1) (by simpa using hi))]
      rfl
theorem getL_long : ∀ f l first, f ≤ l.length → (∀ i, i < f → 127 < (l.getD i 0).toNat) → getL f l first = .error 5 := by
  intro f
  induction f with
  | zero => intro l first h hup; rfl
  | succ f ih =>
    intro l first h hup
    cases l with
    | nil => simp at h
    | cons c l =>
      have hc := hup 0 (by omega)
      simp at hc
      rw [getL_more hc, ih l false (by simpa using h) (fun i hi => by simpa using hup (i+1) (by omega))]
      rfl
/-- What GetText answers: the text, the place behind it, the error. -/
def getTR (b : List UInt8) (most : Int) : Int × Int × Int → List UInt8 × Int × Int
  | (n, to, e) => if e ≠ 0 then ([], 0, e) else if mxI most 0 < n then ([], 0, 7) else if (b.length : Int) - to < n then ([], 0, 4) else ((b.drop to.toNat).take n.toNat, to + n, 0)
def getT (b : List UInt8) (p most : Int) : List UInt8 × Int × Int := getTR b most (getS b p)


end Go.Proofs.YtlbbehfbjbbckaaGreatDoor

set_option linter.unusedVariables false
set_option linter.unusedSimpArgs false
namespace Go.Proofs.YtlbbehfbjbbckaaGreatDoor
open Go.RowKit

/-! 1. max and min -/
theorem max2_I (k k' : IntKind) (x y : Int) : Builtin.max2 (.int k x) (.int k' y) = pure (.int k (mxI x y)) := by simp only [Builtin.max2, gt_iff_lt, mxI]
theorem min2_I (k k' : IntKind) (x y : Int) : Builtin.min2 (.int k x) (.int k' y) = pure (.int k (mnI x y)) := by simp only [Builtin.min2, mnI]
theorem max_two_I (ats : Array TypeId) (ty : TypeId) (a b : Value) : Builtin.max_ ats ty #[a, b] = (Builtin.max2 a b >>= fun s => pure s) := by simp only [Builtin.max_, List.foldlM_cons, List.foldlM_nil]
theorem min_two_I (ats : Array TypeId) (ty : TypeId) (a b : Value) : Builtin.min_ ats ty #[a, b] = (Builtin.min2 a b >>= fun s => pure s) := by simp only [Builtin.min_, List.foldlM_cons, List.foldlM_nil]

/-! 2. what a slice reads as: its cells in a row -/
def bv (b : UInt8) : Value := .int .u8 b.toNat
def bys (l : List UInt8) : List Value := l.map bv
theorem bys_length (l : List UInt8) : (bys l).length = l.length := by simp [bys]
theorem bys_append (a b : List UInt8) : bys (a ++ b) = bys a ++ bys b := by simp [bys]
theorem bys_get {l : List UInt8} {j : Nat} {b : UInt8} (h : l[j]? = some b) : (bys l)[j]? = some (bv b) := by simp [bys, h]
theorem bys_one (l : List UInt8) : ∀ u ∈ bys l, u.oneCell' = true := by
  intro u hu; simp only [bys, List.mem_map] at hu; obtain ⟨x, _, rfl⟩ := hu; rfl
theorem strCells_bys (s : ByteArray) : Lib.strCells s = bys s.data.toList := rfl

structure Sl (sz : Nat) (w : World) (A : Option Addr) (n : Nat) (cs : List Value) : Prop where
  len : cs.length = n * sz
  max : n ≤ 9223372036854775807
  at_ : cs = [] ∨ ∃ b o, A = some ⟨b, o, none⟩ ∧ ∀ j v, cs[j]? = some v → w.cell? ⟨b, o + j, none⟩ = some v

theorem Sl.below {sz : Nat} {w w1 : World} {A : Option Addr} {n : Nat} {cs : List Value} (h : Sl sz w A n cs) (hb : Below w.heap.size w w1) : Sl sz w1 A n cs := by
  refine ⟨h.len, h.max, ?_⟩
  rcases h.at_ with h0 | ⟨b, o, rfl, hc⟩
  · exact .inl h0
  · exact .inr ⟨b, o, rfl, fun j v hj => (hb.cell (p := ⟨b, o + j, none⟩) (World.block_lt_of_cell? w _ (hc j v hj))).trans (hc j v hj)⟩
theorem Sl.grown {sz : Nat} {w w1 : World} {A : Option Addr} {n : Nat} {cs : List Value} (h : Sl sz w A n cs) {row : Option Nat} (hg : w.grownBy w1 row) (hne : ∀ a k, A = some a → row = some k → a.block ≠ k) : Sl sz w1 A n cs := by
  refine ⟨h.len, h.max, ?_⟩
  rcases h.at_ with h0 | ⟨b, o, rfl, hc⟩
  · exact .inl h0
  · refine .inr ⟨b, o, rfl, fun j v hj => hg.cell (hc j v hj) ?_⟩
    rcases row with _ | k
    · simp
    · intro e; exact hne _ k rfl rfl (by simpa using e)
theorem Sl.drew {sz : Nat} {w : World} {A : Option Addr} {n : Nat} {cs : List Value} (h : Sl sz w A n cs) : Sl sz w.drew A n cs := ⟨h.len, h.max, h.at_⟩
theorem below_undrew {B : Nat} {w w1 : World} (h : Below B w.drew w1) : Below B w w1 := ⟨h.os, h.tape, h.output, h.size, h.block⟩
theorem Sl.nil (sz : Nat) (w : World) (A : Option Addr) : Sl sz w A 0 [] := ⟨by simp, by omega, .inl rfl⟩
theorem own_shape {w : World} {base : Nat} {e : TypeId} {sz : Nat} {v : Value} {n : Nat} {cs : List Value} (h : w.ownsRow base e sz v n cs) : ∃ A c, v = .slice A n c ∧ n ≤ c ∧ n ≤ 9223372036854775807 := by
  rcases h.2 with ⟨rfl, rfl⟩ | ⟨g, cap, cur, rfl, hb, hh, h1, h2, h3⟩
  · exact ⟨none, 0, rfl, by omega, by omega⟩
  · exact ⟨_, cap, rfl, h1, by unfold maxLen at h2; omega⟩
theorem own_sl {w : World} {base : Nat} {e : TypeId} {sz : Nat} {v : Value} {n : Nat} {cs : List Value} (h : w.ownsRow base e sz v n cs) : ∃ A c, v = .slice A n c ∧ n ≤ c ∧ Sl sz w A n cs ∧ (∀ a, A = some a → base ≤ a.block ∧ v.ownBlock = some a.block) ∧ (A = none → n = 0) := by
  have hx := h.1
  rcases h.2 with ⟨rfl, rfl⟩ | ⟨g, cap, cur, rfl, hb, hh, h1, h2, h3⟩
  · exact ⟨none, 0, rfl, by omega, ⟨by simpa using hx, by omega, .inl (List.eq_nil_of_length_eq_zero (by simpa using hx))⟩, fun a ha => (by cases ha), fun _ => rfl⟩
  · refine ⟨_, cap, rfl, h1, ⟨hx, by unfold maxLen at h2; omega, .inr ⟨g, 0, rfl, fun j v hj => ?_⟩⟩, fun a ha => ?_, fun h => by cases h⟩
    · have := h.cells (g := g) rfl j v hj
      have ha : (⟨g, 0, none⟩ : Addr).add j = ⟨g, 0 + j, none⟩ := by unfold Addr.add; split <;> simp_all
      rwa [ha] at this
    · obtain rfl := Option.some.inj ha; exact ⟨hb, rfl⟩
theorem own_below {w w1 : World} {base : Nat} {e : TypeId} {sz : Nat} {v : Value} {n : Nat} {cs : List Value} (h : w.ownsRow base e sz v n cs) (hb : Below w.heap.size w w1) : w1.ownsRow base e sz v n cs :=
  h.kept ⟨hb.os, hb.tape, hb.output, hb.size, fun k hk _ => hb.block k hk⟩ (row := none) (by cases v.ownBlock <;> simp)
theorem own_base_mono {w : World} {base base' : Nat} {e : TypeId} {sz : Nat} {v : Value} {n : Nat} {cs : List Value} (h : w.ownsRow base e sz v n cs) (hb : base' ≤ base) : w.ownsRow base' e sz v n cs := by
  refine ⟨h.1, ?_⟩
  rcases h.2 with h | ⟨g, cap, cur, h0, h1, h2⟩
  · exact .inl h
  · exact .inr ⟨g, cap, cur, h0, by omega, h2⟩
/-- A row of the call's own takes what a slice holds. -/
theorem run_append_sl {P : Program} {w : World} (base : Nat) (t ty e : TypeId) (i : TypeInfo) (z : Value) (size bytes : Nat) (ht : P.underlying t = some (.slice e)) (hi : P.info? e = some i) (hz : i.zero = some z)
    (hsize : i.size = size) (hby : i.bytes = bytes) (hzs : z.cells.size = size) (hsz : 0 < size)
    {v : Value} {n : Nat} {xs : List Value} (hown : w.ownsRow base e size v n xs)
    {A : Option Addr} {m c : Nat} {news : List Value} (hs : Sl size w A m news) (h1 : ∀ u ∈ news, u.oneCell' = true)
    (h63 : n + m ≤ 9223372036854775807) (hbytes : (n + m) * bytes ≤ 140737488355328) (hbase : base ≤ w.heap.size) :
    ∃ v' w', (Builtin.append_ #[t, t] ty #[v, .slice A m c]).run P w = .ok v' w' ∧ w'.ownsRow base e size v' (n + m) (xs ++ news) ∧ w.grownBy w' v.ownBlock := by
  rcases hs.at_ with h0 | ⟨b, o, rfl, hc⟩
  · subst h0
    obtain rfl : m = 0 := by
      have := hs.len
      simp only [List.length_nil] at this
      rcases Nat.eq_zero_or_pos m with h | h
      · exact h
      · have := Nat.mul_pos h hsz; omega
    obtain ⟨A', c', rfl, hle, _⟩ := own_shape hown
    refine ⟨_, w, ?_, by simpa using hown, ⟨rfl, rfl, rfl, Nat.le_refl _, fun _ _ _ => rfl⟩⟩
    have hs0 : Src P i.size t (.slice A 0 c) 0 [] w := by
      rcases A with _ | a
      · exact Src.ofNil w ht c
      · exact Src.ofSlice w ht a 0 c [] (by simp) (by simp) (by simp)
    have := run_append_nothing w t t ty e i ht hi A' n c' hle _ hs0
    simpa using this
  · obtain ⟨v', w', h1', h2', h3', _⟩ := run_append_own (P := P) (w := w) base t ty e i z size bytes ht hi hz hsize hby hzs hsz v n xs hown ⟨b, o, none⟩ m c news hs.len (fun j u hj => by
      have ha : (⟨b, o, none⟩ : Addr).add j = ⟨b, o + j, none⟩ := by unfold Addr.add; split <;> simp_all
      rw [ha]; exact hc j u hj) h1 (by unfold maxLen; omega) hbytes hbase
    exact ⟨v', w', h1', h2', h3'⟩

/-! 3. a walk that stands still where it is told to -/
def Halted (p : Prop) : Prop := p
theorem halt_in {p : Prop} (h : Halted p) : p := h
theorem Halted.out {p : Prop} (h : p) : Halted p := h

theorem wpList_append_run {P : Program} {w w' : World} {ops : Array Oper} {rest : List Oper} {o : Oper} {a : Act} {Q : Exit → Act → World → Prop} (hgd : o.guard = none) (s x : Operand) (t u : TypeId)
    (ho : o.op = .call { callee := .builtin .append, args := #[s, x], argTypes := #[t, u] }) {v sv xv : Value} (hs : a.eval s = sv) (hx : a.eval x = xv)
    (hr : (Builtin.append_ #[t, u] o.type #[sv, xv]).run P w = .ok v w')
    (h : wpList P ops Q rest (a.put o.dst v) w') : wpList P ops Q (o :: rest) a w :=
  wpList_plain hgd fun _ hK => by
    unfold Oper.wp execOp
    simp only [ho, resolve, invoke, builtin, Sem.run_bind, Sem.run_pure, Result.andThen_ok, List.map_toArray, List.map_cons, List.map_nil, hs, hx, hr]
    exact hK _ _ h

/-- One element more in a row of the call's own: it lies in a new block first. -/
theorem run_append_one {P : Program} {w0 w : World} (base : Nat) (t ty e : TypeId) (i : TypeInfo) (z : Value) (size bytes : Nat) (ht : P.underlying t = some (.slice e)) (hi : P.info? e = some i) (hz : i.zero = some z)
    (hsize : i.size = size) (hby : i.bytes = bytes) (hzs : z.cells.size = size) (hsz : 0 < size)
    {v : Value} {n : Nat} {xs : List Value} (hown : w.ownsRow base e size v n xs) (hb : Below base w0 w)
    (news : List Value) (hl : news.length = size) (h1 : ∀ u ∈ news, u.oneCell' = true) (c : Nat)
    (h63 : n + 1 ≤ 9223372036854775807) (hbytes : (n + 1) * bytes ≤ 140737488355328) (hbase : base ≤ w.heap.size) :
    ∃ v' w', (Builtin.append_ #[t, t] ty #[v, .slice (some ⟨w.heap.size, 0, none⟩) 1 c]).run P (w.alloc (.cells news.toArray e)) = .ok v' w' ∧ w'.ownsRow base e size v' (n + 1) (xs ++ news) ∧ (w.alloc (.cells news.toArray e)).grownBy w' v.ownBlock ∧ Below base w0 w' := by
  have hown1 := hown.alloc (.cells news.toArray e)
  have hs : Sl size (w.alloc (.cells news.toArray e)) (some ⟨w.heap.size, 0, none⟩) 1 news := ⟨by omega, by omega, .inr ⟨_, 0, rfl, fun j u hj => by
    rw [World.cell?_alloc_new]; simpa using hj⟩⟩
  obtain ⟨v', w', h2, h3, h4⟩ := run_append_sl (P := P) base t ty e i z size bytes ht hi hz hsize hby hzs hsz hown1 (c := c) hs h1 h63 hbytes (by rw [World.size_alloc]; omega)
  exact ⟨v', w', h2, h3, h4, (hb.alloc hbase _).grown h4 (by rw [World.size_alloc]; omega) (fun k hk => (hown.lt k hk).1)⟩

/-! 4. bits of int -/
theorem one_int (k : IntKind) (n : Int) : ∀ u ∈ [Value.int k n], u.oneCell' = true := by intro u hu; simp only [List.mem_singleton] at hu; subst hu; rfl
theorem ret2_eq {k1 k2 : IntKind} {a b a' b' : Int} (h1 : a = a') (h2 : b = b') : Ending.returned (.tuple #[.int k1 a, .int k2 b]) = Ending.returned (.tuple #[.int k1 a', .int k2 b']) := by rw [h1, h2]
theorem ret3_eq {k1 k2 k3 : IntKind} {a b c a' b' c' : Int} (h1 : a = a') (h2 : b = b') (h3 : c = c') : Ending.returned (.tuple #[.int k1 a, .int k2 b, .int k3 c]) = Ending.returned (.tuple #[.int k1 a', .int k2 b', .int k3 c']) := by rw [h1, h2, h3]
theorem wraps_i64' (n : Int) (h₀ : 0 ≤ n) (h₁ : n < 2 ^ 63) : IntKind.i64.wrap n = n := by rw [IntKind.wrap_i64]; omega
theorem i64_or_n (a b : Nat) (ha : a < 2 ^ 63) (hb : b < 2 ^ 63) : bits .or .i64 (a : Int) (b : Int) = ((a ||| b : Nat) : Int) := (bits_nat .i64 63 (by decide) wraps_i64' a b ha hb).2
theorem i64_and_n (a b : Nat) (ha : a < 2 ^ 63) (hb : b < 2 ^ 63) : bits .and .i64 (a : Int) (b : Int) = ((a &&& b : Nat) : Int) := (bits_nat .i64 63 (by decide) wraps_i64' a b ha hb).1
theorem u8_and127 (x : Nat) (h : x < 256) : bits .and .u8 (x : Int) 127 = ((x % 128 : Nat) : Int) := by
  have := bits_mask .u8 8 (by decide) wraps_u8 7 (by decide) (x : Int) (by omega) (by omega)
  rw [show ((2 : Int) ^ 7 - 1) = 127 by decide, show ((2 : Int) ^ 7) = 128 by decide] at this
  rw [this]; omega
theorem or_128 (x : Nat) (h : x < 128) : x ||| 128 = x + 128 := by
  have := Nat.two_pow_add_eq_or_of_lt (i := 7) (b := x) h 1
  rw [Nat.or_comm]; simp only [Nat.mul_one, show (2:Nat)^7 = 128 from rfl] at this; omega

/-! 5. bytes and texts -/
theorem str_data (l : List UInt8) : (str l).data.toList = l := by simp [str]
theorem str_size (l : List UInt8) : (str l).size = l.length := by simp [str, ByteArray.size]
theorem str_toList (l : List UInt8) : (str l).toList = l := by rw [ByteArray.toList_eq]; simp [str]
theorem str_of (s : ByteArray) : str s.data.toList = s := by simp [str]
theorem strOfNums_bys (l : List UInt8) : strOfNums (l.map fun b => (b.toNat : Int)) = str l := by
  have : (fun n : Int => UInt8.ofNat n.toNat) ∘ (fun b : UInt8 => (b.toNat : Int)) = id := by funext b; simp
  simp [strOfNums, str, this]
theorem run_conv_str {P : Program} {w : World} {src e : TypeId} (hs : P.underlying src = some (.slice e)) (he : P.underlying e = some (.int .u8)) {dst : TypeId} (hd : P.underlying dst = some .string)
    {A : Option Addr} {n c : Nat} {bs : List UInt8} (h : Sl 1 w A n (bys bs)) : (convert src dst (.slice A n c)).run P w = .ok (.string (str bs)) w := by
  have hl : bs.length = n := by have := h.len; simpa [bys] using this
  rcases A with _ | a
  · have : bs = [] := by
      rcases h.at_ with h0 | ⟨b, o, h1, _⟩
      · simpa [bys] using h0
      · cases h1
    subst this
    exact run_convert_bytes_nil w src e hs he n c dst hd
  · rcases h.at_ with h0 | ⟨b, o, h1, hc⟩
    · have : bs = [] := by simpa [bys] using h0
      subst this
      obtain rfl : n = 0 := by simpa using hl.symm
      rw [run_convert_bytes_string w src dst e _ 0 c hs he hd]
      simp [Conv.bytesToString, str, loadCells, loadCellsFrom, Sem.run_bind, go_sem]; rfl
    · obtain rfl := Option.some.inj h1
      rw [run_convert_bytes_arg w src e hs he b o n c (bs.map fun b => (b.toNat : Int)) (by simpa using hl) (fun i hi => ?_) dst hd, strOfNums_bys]
      have := hc i (bv bs[i]) (bys_get (List.getElem?_eq_getElem (by omega)))
      rw [this]
      simp [bv, List.getElem?_eq_getElem (show i < bs.length by omega)]
def subAt (A : Option Addr) (lo c s : Nat) : Option Addr := if c = lo then A else A.map (·.add (lo * s))
theorem run_slice_sub {P : Program} {w : World} {T e : TypeId} {i : TypeInfo} (ht : P.underlying T = some (.slice (P.elem T))) (he : P.elem T = e) (hi : P.info? e = some i) {s : Nat} (hsz : i.size = s) (A : Option Addr) (n c lo hi' : Nat) (h1 : lo ≤ hi') (h2 : hi' ≤ c) (kl kh : IntKind) (l h : Int) (hl : l = lo) (hh : h = hi') :
    (Instr.slice T (.slice A n c) (some (.int kl l)) (some (.int kh h)) none).run P w = .ok (.slice (subAt A lo c s) (hi' - lo) (c - lo)) w := by
  subst hl; subst hh
  rw [run_slice_lh (ht := ht) (len := n) (kl := kl) (kh := kh) (l := lo) (h := hi') (h0 := by omega) (h1 := by omega) (h2 := by omega)]
  have : (sizeOf (P.elem T)).run P w = .ok s w := by rw [he]; simp [sizeOf, run_typeInfo w hi, hsz]
  rw [this]; simp [Result.andThen, sliced, subAt]
theorem run_slice_from {P : Program} {w : World} {T e : TypeId} {i : TypeInfo} (ht : P.underlying T = some (.slice (P.elem T))) (he : P.elem T = e) (hi : P.info? e = some i) {s : Nat} (hsz : i.size = s) (A : Option Addr) (n c lo : Nat) (h1 : lo ≤ n) (kl : IntKind) (l : Int) (hl : l = lo) :
    (Instr.slice T (.slice A n c) (some (.int kl l)) none none).run P w = .ok (.slice (subAt A lo c s) (n - lo) (c - lo)) w := by
  subst hl
  rw [run_slice_l (ht := ht) (len := n) (kl := kl) (l := lo) (h0 := by omega) (h1 := by omega)]
  have : (sizeOf (P.elem T)).run P w = .ok s w := by rw [he]; simp [sizeOf, run_typeInfo w hi, hsz]
  rw [this]; simp [Result.andThen, sliced, subAt]
theorem run_slice_to {P : Program} {w : World} {T e : TypeId} {i : TypeInfo} (ht : P.underlying T = some (.slice (P.elem T))) (he : P.elem T = e) (hi : P.info? e = some i) {s : Nat} (hsz : i.size = s) (A : Option Addr) (n c hi' : Nat) (h2 : hi' ≤ c) (kh : IntKind) (h : Int) (hh : h = hi') :
    (Instr.slice T (.slice A n c) none (some (.int kh h)) none).run P w = .ok (.slice (subAt A 0 c s) hi' c) w := by
  subst hh
  rw [run_slice_h (ht := ht) (len := n) (kh := kh) (h := hi') (h0 := by omega) (h2 := by omega)]
  have : (sizeOf (P.elem T)).run P w = .ok s w := by rw [he]; simp [sizeOf, run_typeInfo w hi, hsz]
  rw [this]; simp [Result.andThen, sliced, subAt]
theorem Sl.from {w : World} {A : Option Addr} {n : Nat} {bs : List UInt8} (h : Sl 1 w A n (bys bs)) (lo c : Nat) (h2 : lo ≤ n) (hc : n ≤ c) (sub : ∀ lo hi c : Nat, lo ≤ hi → hi ≤ n → n ≤ c → Sl 1 w (subAt A lo c 1) (hi - lo) (bys ((bs.drop lo).take (hi - lo)))) :
    Sl 1 w (subAt A lo c 1) (n - lo) (bys (bs.drop lo)) := by
  have hl : bs.length = n := by have := h.len; simpa [bys] using this
  have := sub lo n c h2 (Nat.le_refl _) hc
  rwa [List.take_of_length_le (by rw [List.length_drop]; omega)] at this
theorem Sl.sub {w : World} {A : Option Addr} {n : Nat} {bs : List UInt8} (h : Sl 1 w A n (bys bs)) (lo hi c : Nat) (h1 : lo ≤ hi) (h2 : hi ≤ n) (hc : n ≤ c) :
    Sl 1 w (subAt A lo c 1) (hi - lo) (bys ((bs.drop lo).take (hi - lo))) := by
  have hl : bs.length = n := by have := h.len; simpa [bys] using this
  refine ⟨by simp [bys]; omega, by have := h.max; omega, ?_⟩
  rcases Nat.eq_or_lt_of_le h1 with h3 | h3
  · left; subst h3; simp [bys]
  · right
    rcases h.at_ with h0 | ⟨b, o, rfl, hcell⟩
    · have : bs = [] := by simpa [bys] using h0
      subst this; simp at hl; omega
    · refine ⟨b, o + lo, ?_, fun j v hj => ?_⟩
      · unfold subAt; rw [if_neg (by omega)]; simp only [Option.map_some, Addr.add, Nat.mul_one]; split <;> simp_all
      · have : (bys bs)[lo + j]? = some v := by
          simp only [bys, List.getElem?_map] at hj ⊢
          rw [List.getElem?_take] at hj
          split at hj
          · rw [List.getElem?_drop] at hj; exact hj
          · cases hj
        rw [Nat.add_assoc]; exact hcell _ _ this
end Go.Proofs.YtlbbehfbjbbckaaGreatDoor

/-! A path's parts: plain laws. -/
set_option linter.unusedVariables false
set_option linter.unusedSimpArgs false
namespace Go.Proofs.YtlbbehfbjbbckaaGreatDoor
open Go.RowKit

/-- What stands behind a rune's first byte is no ASCII. -/
theorem decode_gap (s : ByteArray) (pos : Nat) (h : pos < s.size) : 1 ≤ (Utf8.decode s pos).2 ∧ pos + (Utf8.decode s pos).2 ≤ s.size ∧ ∀ j, pos < j → j < pos + (Utf8.decode s pos).2 → 128 ≤ (s.get! j).toNat := by
  have key : ∀ k, s.get! (pos + k) = s.get! (pos + k) := fun _ => rfl
  simp only [Utf8.decode]
  split
  · exact ⟨by simp, by simp; omega, fun j h1 h2 => by simp at h2; omega⟩
  split
  · rename_i h1 h2
    split
    · simp only [Bool.and_eq_true, decide_eq_true_eq, beq_iff_eq] at h2
      refine ⟨by simp, by simp; omega, fun j h3 h4 => ?_⟩
      simp at h4
      obtain rfl : j = pos + 1 := by omega
      omega
    · exact ⟨by simp, by simp; omega, fun j h1 h2 => by simp at h2; omega⟩
  split
  · rename_i h1 h2 h3
    split
    · simp only [Bool.and_eq_true, decide_eq_true_eq, beq_iff_eq] at h3
      refine ⟨by simp, by simp; omega, fun j h4 h5 => ?_⟩
      simp at h5
      obtain rfl | rfl : j = pos + 1 ∨ j = pos + 2 := by omega
      · omega
      · omega
    · exact ⟨by simp, by simp; omega, fun j h1 h2 => by simp at h2; omega⟩
  split
  · rename_i h1 h2 h3 h4
    split
    · simp only [Bool.and_eq_true, decide_eq_true_eq, beq_iff_eq] at h4
      refine ⟨by simp, by simp; omega, fun j h5 h6 => ?_⟩
      simp at h6
      obtain rfl | rfl | rfl : j = pos + 1 ∨ j = pos + 2 ∨ j = pos + 3 := by omega
      · omega
      · omega
      · omega
    · exact ⟨by simp, by simp; omega, fun j h1 h2 => by simp at h2; omega⟩
  · exact ⟨by simp, by simp; omega, fun j h1 h2 => by simp at h2; omega⟩
theorem get_bang (s : ByteArray) (j : Nat) (h : j < s.size) : s.get! j = s[j]'h := by
  simp [ByteArray.get!, getElem!_pos, h]; rfl
theorem data_at (s : ByteArray) (j : Nat) (h : j < s.size) : s.data.toList[j]? = some (s[j]'h) := by
  rw [List.getElem?_eq_getElem (by simpa using h)]; simp; rfl

/-- The parts that a slash has ended among the first bytes, and where the next one begins. -/
def cutN (l : List UInt8) : Nat → List (List UInt8) × Nat
  | 0 => ([], 0)
  | i+1 => if l[i]? = some 47 then ((cutN l i).1 ++ [(l.drop (cutN l i).2).take (i - (cutN l i).2)], i + 1) else cutN l i
def splitB (l : List UInt8) : List (List UInt8) := if l = [] then [] else (cutN l l.length).1 ++ [l.drop (cutN l l.length).2]
theorem cutN_slash {l : List UInt8} {i : Nat} (h : l[i]? = some 47) : cutN l (i + 1) = ((cutN l i).1 ++ [(l.drop (cutN l i).2).take (i - (cutN l i).2)], i + 1) := by rw [cutN, if_pos h]
theorem cutN_other {l : List UInt8} {i : Nat} (h : l[i]? ≠ some 47) : cutN l (i + 1) = cutN l i := by rw [cutN, if_neg h]
theorem cutN_le (l : List UInt8) (i : Nat) : (cutN l i).2 ≤ i ∧ (cutN l i).1.length ≤ i := by
  induction i with
  | zero => simp [cutN]
  | succ i ih =>
    rw [cutN]; split
    · simp; omega
    · omega
theorem cutN_skip (l : List UInt8) (i : Nat) : ∀ k, (∀ j, i ≤ j → j < i + k → l[j]? ≠ some 47) → cutN l (i + k) = cutN l i
  | 0, _ => rfl
  | k+1, h => by
    rw [show i + (k + 1) = (i + k) + 1 by omega, cutN_other (h _ (by omega) (by omega))]
    exact cutN_skip l i k fun j h1 h2 => h j h1 (by omega)
/-- The text between two places. -/
theorem extract_str (s : ByteArray) (f i : Nat) (h1 : f ≤ i) (h2 : i ≤ s.size) : s.extract f i = str ((s.data.toList.drop f).take (i - f)) := by
  have : (s.extract f i).data.toList = (s.data.toList.drop f).take (i - f) := by
    rw [ByteArray.data_extract, Array.toList_extract, List.extract_eq_take_drop]
  rw [← this, str_of]
def strs (L : List (List UInt8)) : List Value := L.map fun x => .string (str x)
theorem strs_len (L : List (List UInt8)) : (strs L).length = L.length := by simp [strs]
theorem strs_snoc (L : List (List UInt8)) (x : List UInt8) : strs (L ++ [x]) = strs L ++ [.string (str x)] := by simp [strs]
theorem strs_get {L : List (List UInt8)} {i : Nat} {x : List UInt8} (h : L[i]? = some x) : (strs L)[i]? = some (.string (str x)) := by simp [strs, h]
theorem str_inj {a b : List UInt8} (h : str a = str b) : a = b := by
  have := congrArg (fun s : ByteArray => s.data.toList) h
  simpa [str] using this
theorem splitB_len (l : List UInt8) : (splitB l).length ≤ l.length + 1 := by
  unfold splitB; split
  · simp
  · have := (cutN_le l l.length).2; simp; omega
/-- Is a path under another? -/
def pfxB (X Y : List (List UInt8)) : Bool := decide (X.take Y.length = Y)
end Go.Proofs.YtlbbehfbjbbckaaGreatDoor

set_option linter.unusedVariables false
set_option linter.unusedSimpArgs false
namespace Go.Proofs.YtlbbehfbjbbckaaGreatDoor
open Go.RowKit

/-- A block that is known whole. -/
def Blk (w : World) (g : Nat) (T : TypeId) (cs : List Value) : Prop := w.heap[g]? = some (.cells cs.toArray T (0, 0))
theorem Blk.lt {w : World} {g : Nat} {T : TypeId} {cs : List Value} (h : Blk w g T cs) : g < w.heap.size := (Array.getElem?_eq_some_iff.1 h).1
theorem Blk.new (w : World) (T : TypeId) (cs : List Value) : Blk (w.alloc (.cells cs.toArray T)) w.heap.size T cs := heap_alloc_new w _
theorem Blk.newA (w : World) (T : TypeId) (cs : Array Value) : Blk (w.alloc (.cells cs T)) w.heap.size T cs.toList := by
  have := heap_alloc_new w (.cells cs T); unfold Blk; rwa [Array.toArray_toList]
theorem Blk.alloc {w : World} {g : Nat} {T : TypeId} {cs : List Value} (h : Blk w g T cs) (o : Obj) : Blk (w.alloc o) g T cs := (heap_alloc_old w o h.lt).trans h
theorem Blk.below {w w1 : World} {g : Nat} {T : TypeId} {cs : List Value} (h : Blk w g T cs) (hb : Below w.heap.size w w1) : Blk w1 g T cs := (hb.block g h.lt).trans h
theorem Blk.set {w : World} {g : Nat} {T : TypeId} {cs : List Value} (h : Blk w g T cs) (i : Nat) (v : Value) : Blk (w.setCell ⟨g, i, none⟩ v) g T (cs.set i v) := by
  have := heap_setCell_same w g i cs.toArray T v h
  unfold Blk; rw [this]; simp
theorem Blk.other {w : World} {g : Nat} {T : TypeId} {cs : List Value} (h : Blk w g T cs) {a : Addr} (ha : g ≠ a.block) (v : Value) : Blk (w.setCell a v) g T cs := (heap_setCell_other w a g v ha).trans h
theorem Blk.drew {w : World} {g : Nat} {T : TypeId} {cs : List Value} (h : Blk w g T cs) : Blk w.drew g T cs := h
theorem Blk.drewN {w : World} {g : Nat} {T : TypeId} {cs : List Value} (h : Blk w g T cs) (n : Nat) : Blk (w.drewN n) g T cs := by unfold Blk; rw [World.heap_drewN]; exact h
theorem Blk.cell {w : World} {g : Nat} {T : TypeId} {cs : List Value} (h : Blk w g T cs) (j : Nat) : w.cell? ⟨g, j, none⟩ = cs[j]? := by
  rw [cell_of_row w g j _ T _ h]; simp
theorem Blk.frozen {w : World} {g : Nat} {T : TypeId} {cs : List Value} (h : Blk w g T cs) (j : Nat) : w.frozen? ⟨g, j, none⟩ = false := frozen_of_row w g j _ T h
theorem Blk.grown {w w1 : World} {g : Nat} {T : TypeId} {cs : List Value} (h : Blk w g T cs) {row : Option Nat} (hg : w.grownBy w1 row) (hne : some g ≠ row) : Blk w1 g T cs := (hg.block g h.lt hne).trans h
theorem Blk.setRow {w : World} {g : Nat} {T : TypeId} {cs : List Value} (h : Blk w g T cs) (ds : List Value) : Blk (w.setRow g ds.toArray) g T ds := setRow_heap w g _ _ T _ h
theorem Blk.setRow_other {w : World} {g k : Nat} {T : TypeId} {cs : List Value} (h : Blk w g T cs) (hne : g ≠ k) (ds : Array Value) : Blk (w.setRow k ds) g T cs := (Go.setRow_other w k g ds hne).trans h
theorem Blk.ne {w : World} {g g' : Nat} {T T' : TypeId} {cs cs' : List Value} (h : Blk w g T cs) (h' : Blk w g' T' cs') (hne : T ≠ T') : g ≠ g' := by
  rintro rfl
  have e := Eq.trans (Eq.symm h) h'
  simp only [Option.some.injEq, Obj.cells.injEq] at e
  exact hne e.2.1
theorem Blk.sl {w : World} {g : Nat} {T : TypeId} {cs : List Value} (h : Blk w g T cs) {o n sz : Nat} {ds : List Value} (hd : (cs.drop o).take (n * sz) = ds) (hl : ds.length = n * sz) (hm : n ≤ 9223372036854775807) : Sl sz w (some ⟨g, o, none⟩) n ds :=
  ⟨hl, hm, .inr ⟨g, o, rfl, fun j v hj => by
    rw [h.cell, ← hj, ← hd, List.getElem?_take]
    have : j < n * sz := by rw [← hl]; exact (List.getElem?_eq_some_iff.1 hj).1
    rw [if_pos this, List.getElem?_drop]⟩⟩
end Go.Proofs.YtlbbehfbjbbckaaGreatDoor

set_option linter.unusedVariables false
set_option linter.unusedSimpArgs false
namespace Go.Proofs.YtlbbehfbjbbckaaGreatDoor
open Go.RowKit

/-- '[]byte(s)': a new row of the string's bytes. -/
theorem conv_bytes {P : Program} (w : World) (src dst e : TypeId) (s : ByteArray) (hs : P.underlying src = some .string) (hd : P.underlying dst = some (.slice e)) (he : P.underlying e = some (.int .u8)) (hsz : s.size ≤ 9223372036854775807) :
    ∃ c w', (convert src dst (.string s)).run P w = .ok (.slice (some ⟨w.heap.size, 0, none⟩) s.size c) w' ∧ s.size ≤ c ∧ Sl 1 w' (some ⟨w.heap.size, 0, none⟩) s.size (bys s.data.toList) ∧ Below w.heap.size w w' ∧ w.heap.size < w'.heap.size := by
  refine ⟨_, _, run_bytes_of_string w src dst e s hs hd he, grownCap_ge _ _ _ _, ⟨?_, hsz, .inr ⟨_, 0, rfl, fun j v hj => ?_⟩⟩, ((Below.refl _ _).drew).alloc (Nat.le_refl _) _, by rw [World.size_alloc]; exact Nat.lt_succ_self _⟩
  · rw [bys_length, Nat.mul_one]; rfl
  · have hjs : j < s.data.size := by
      have := (List.getElem?_eq_some_iff.1 hj).1
      rw [bys_length] at this; simpa using this
    rw [Nat.zero_add]
    refine (cell_of_row _ w.drew.heap.size _ _ _ _ (heap_alloc_new w.drew _)).trans ?_
    rw [bytesRow_at s _ j hjs, ← hj]
    simp only [bys, List.getElem?_map, Array.getElem?_toList]
    rw [Array.getElem?_eq_getElem hjs]; rfl
theorem run_append_at {P : Program} {w : World} (base : Nat) (t ty e : TypeId) (i : TypeInfo) (z : Value) (size bytes : Nat) (ht : P.underlying t = some (.slice e)) (hi : P.info? e = some i) (hz : i.zero = some z)
    (hsize : i.size = size) (hby : i.bytes = bytes) (hzs : z.cells.size = size) (hsz : 0 < size)
    {v : Value} {n : Nat} {xs : List Value} (hown : w.ownsRow base e size v n xs)
    {A : Option Addr} {m c : Nat} {news : List Value} (hs : Sl size w A m news) (hm : 0 < m) (h1 : ∀ u ∈ news, u.oneCell' = true)
    (h63 : n + m ≤ 9223372036854775807) (hbytes : (n + m) * bytes ≤ 140737488355328) (hbase : base ≤ w.heap.size) :
    ∃ v' w', (Builtin.append_ #[t, t] ty #[v, .slice A m c]).run P w = .ok v' w' ∧ w'.ownsRow base e size v' (n + m) (xs ++ news) ∧ w.grownBy w' v.ownBlock ∧ (v'.ownBlock = v.ownBlock ∨ v'.ownBlock = some w.heap.size) := by
  rcases hs.at_ with h0 | ⟨b, o, rfl, hc⟩
  · subst h0
    have := hs.len
    simp only [List.length_nil] at this
    have := Nat.mul_pos hm hsz
    omega
  · obtain ⟨v', w', h1', h2', h3', h4'⟩ := run_append_own_at (P := P) (w := w) base t ty e i z size bytes ht hi hz hsize hby hzs hsz v n xs hown ⟨b, o, none⟩ m c news hs.len (fun j u hj => by
      have ha : (⟨b, o, none⟩ : Addr).add j = ⟨b, o + j, none⟩ := by unfold Addr.add; split <;> simp_all
      rw [ha]; exact hc j u hj) h1 (by unfold maxLen; omega) hbytes hbase
    exact ⟨v', w', h1', h2', h3', h4'.2⟩
end Go.Proofs.YtlbbehfbjbbckaaGreatDoor

/-! A region that draws its order: the condition that holds between its operations, made stronger on the way. -/
namespace Go.Proofs.YtlbbehfbjbbckaaGreatDoor

theorem wpAnyH_change {P : Program} {md : Region.Mode} {ops : Array Oper} {Q : Exit → Act → World → Prop} {S S' : World → Prop} (hi : ∀ w, S' w → S w) :
    ∀ (fuel : Nat) (listed : Array Bool) (a : Act) (w : World), wpAnyH P md ops Q S' fuel listed a w → wpAnyH P md ops Q S fuel listed a w
  | 0, _, _, _, h => h
  | fuel + 1, _, _, _, h => ⟨h.1, fun i hr => wpOp_mono (fun _ _ h' => ⟨hi _ h'.1, wpAnyH_change hi fuel _ _ _ h'.2⟩) (h.2 i hr)⟩
end Go.Proofs.YtlbbehfbjbbckaaGreatDoor

/-! The program at hand, and bytes in it. -/
set_option linter.unusedVariables false
set_option linter.unusedSimpArgs false
namespace Go.Proofs.YtlbbehfbjbbckaaGreatDoor
open Go.RowKit

theorem below_drewN {B : Nat} {a w : World} (h : Below B a w) (n : Nat) : Below B a (w.drewN n) := h.trans ⟨rfl, rfl, rfl, Nat.le_refl _, fun _ _ => rfl⟩
theorem infoB : (Tryz.prog.info? 5).map (fun i => (i.zero, i.size, i.bytes)) = some (some (.int .u8 0), 1, 1) := by kernel_rfl
end Go.Proofs.YtlbbehfbjbbckaaGreatDoor

/-! path.Split. -/
set_option linter.unusedVariables false
set_option linter.unusedSimpArgs false
namespace Go.Proofs.YtlbbehfbjbbckaaGreatDoor
open Go.RowKit
attribute [local go_sem] str_toList

theorem infoS : (Tryz.prog.info? 9).map (fun i => (i.zero, i.size, i.bytes)) = some (some (.string ⟨#[]⟩), 1, 16) := by kernel_rfl
theorem strs_one (L : List (List UInt8)) : ∀ u ∈ strs L, u.oneCell' = true := by
  intro u hu; simp only [strs, List.mem_map] at hu; obtain ⟨x, _, rfl⟩ := hu; rfl
theorem iterAt_grown (w : World) (k : Nat) (s : ByteArray) (pos : Nat) : w.grownBy (w.iterAt k s pos) (some k) := ⟨rfl, rfl, rfl, by rw [Lib.iterAt_size]; exact Nat.le_refl _, fun j _ hne => Lib.iterAt_other w k j s pos (fun e => hne (by rw [e]))⟩
theorem nil_toList (s : ByteArray) (h : s.size ≠ 0) : (s.toList == []) = false := by
  rw [ByteArray.toList_eq]
  cases hl : s.data.toList with
  | nil => exact absurd (by rw [← ByteArray.size_data, ← Array.length_toList, hl]; rfl) h
  | cons a l => rfl
/-- The parts, the place of the next one, the place of the iterator. -/
theorem strs_step {w0 : World} {w : World} (base : Nat) {v : Value} {L : List (List UInt8)} (hown : w.ownsRow base 9 1 v L.length (strs L)) (hb : Below base w0 w) (x : List UInt8) (hn : L.length ≤ 4194304) (hbase : base ≤ w.heap.size) :
    ∃ v' w', (Builtin.append_ #[35, 35] 35 #[v, .slice (some ⟨w.heap.size, 0, none⟩) 1 1]).run Tryz.prog (w.alloc (.cells #[.string (str x)] 9)) = .ok v' w' ∧ w'.ownsRow base 9 1 v' (L ++ [x]).length (strs (L ++ [x])) ∧ (w.alloc (.cells #[.string (str x)] 9)).grownBy w' v.ownBlock ∧ Below base w0 w' := by
  obtain ⟨i0, hi, hz0, hz1, hz2⟩ := info_parts infoS
  obtain ⟨v', w', h1, h2, h3, h4⟩ := run_append_one (P := Tryz.prog) (w0 := w0) base 35 35 9 i0 _ 1 16 Tryz.underlying35 hi hz0 hz1 hz2 rfl (by decide) hown hb [.string (str x)] rfl (fun u hu => by simp only [List.mem_singleton] at hu; subst hu; rfl) 1 (by omega) (by omega) hbase
  exact ⟨v', w', h1, by rw [strs_snoc, List.length_append]; exact h2, h3, h4⟩
set_option maxRecDepth 100000 in
set_option maxHeartbeats 2000000 in
theorem pathSplit_own (s : ByteArray) (w : World) (hs : s.size ≤ 2097152) :
    Calls Tryz.prog 41 #[.string s] w fun e w' => (∃ v, e = .returned v ∧ w'.ownsRow (w.heap.size + 1) 9 1 v (splitB s.data.toList).length (strs (splitB s.data.toList))) ∧ Below w.heap.size w w' := by
  go_enter Tryz.func41, Tryz.ntmps41
  by_cases h0 : s.size = 0
  · obtain rfl : s = ⟨#[]⟩ := by
      obtain ⟨⟨l⟩⟩ := s
      cases l with
      | nil => rfl
      | cons a l => simp [ByteArray.size] at h0
    go_wp2_with fail
    go_ret
    exact ⟨⟨_, rfl, World.ownsRow_nil _ _ _ _⟩, Below.refl _ _⟩
  · have hne := nil_toList s h0
    go_wp2_with fail
    clear hne
    go_loopw [3, 4] (fun v a wr => ∃ pos : Nat, pos ≤ s.size ∧ a = .int .i64 (cutN s.data.toList pos).2 ∧ wr.heap[w.heap.size]? = some (.stringIter s pos) ∧ wr.ownsRow (w.heap.size + 1) 9 1 v (cutN s.data.toList pos).1.length (strs (cutN s.data.toList pos).1) ∧ w.heap.size + 1 ≤ wr.heap.size ∧ Below w.heap.size w wr) (fun _ _ wr => s.size - wr.iterPos w.heap.size)
    case atStart => exact ⟨0, by omega, rfl, World.iter_heap w s 0, World.ownsRow_nil _ _ _ _, by simp [World.iter], (Below.refl _ _).alloc (Nat.le_refl _) _⟩
    case round =>
      obtain ⟨pos, hps, rfl, hit, hown, hsz, hb⟩ := hrel
      have HIT := Lib.hid hit
      have HOW := Lib.hid hown
      have HB := Lib.hid hb
      obtain ⟨hc1, hc2⟩ := cutN_le s.data.toList pos
      by_cases hp : pos < s.size
      · have hnx : ∀ ty, (Instr.next (.pointer (some ⟨w.heap.size, 0, none⟩)) true ty).run Tryz.prog wr = _ := fun ty => Lib.run_next_any_at (P := Tryz.prog) wr w.heap.size s pos ty hit hp
        obtain ⟨hw1, hw2, hgap⟩ := decode_gap s pos hp
        have hit2 : (wr.iterAt w.heap.size s (pos + (Utf8.decode s pos).2)).heap[w.heap.size]? = some (.stringIter s (pos + (Utf8.decode s pos).2)) := Lib.iterAt_heap wr w.heap.size s pos _ hit
        have hown2 := hown.kept (iterAt_grown wr w.heap.size s (pos + (Utf8.decode s pos).2)) (.inr fun e => by have := (hown.lt _ e).1; omega)
        have hb2 := Lib.below_iterAt hb (Nat.le_refl _) s (pos + (Utf8.decode s pos).2)
        have hsz2 : w.heap.size + 1 ≤ (wr.iterAt w.heap.size s (pos + (Utf8.decode s pos).2)).heap.size := by rw [Lib.iterAt_size]; exact hsz
        have hsl : s.data.toList.length = s.size := by rw [Array.length_toList]; rfl
        generalize hw2' : wr.iterAt w.heap.size s (pos + (Utf8.decode s pos).2) = w2 at *
        by_cases hq : (s[pos]'hp).toNat = 47
        · have hd : Utf8.decode s pos = (47, 1) := by rw [decode_ascii s pos hp (by omega), hq]
          have hl47 : s.data.toList[pos]? = some 47 := by
            rw [data_at s pos hp]; congr 1; exact UInt8.toNat_inj.1 (by rw [hq]; rfl)
          rw [hd] at hnx hit2
          simp only at hnx hit2
          have hcut := cutN_slash hl47
          obtain ⟨v5, w5, hap, hown5, hg5, hb5⟩ := strs_step (w.heap.size + 1) hown2 ((Below.refl (w.heap.size + 1) w2)) ((s.data.toList.drop (cutN s.data.toList pos).2).take (pos - (cutN s.data.toList pos).2)) (by omega) hsz2
          rw [← extract_str s _ pos hc1 hps] at hap hg5
          have hit5 : w5.heap[w.heap.size]? = some (.stringIter s (pos + 1)) := by
            rw [hb5.block _ (by omega)]; exact hit2
          have hbw5 := hb2.trans (hb5.mono (Nat.le_succ _))
          have hip : w5.iterPos w.heap.size = pos + 1 := by simp [World.iterPos, hit5]
          have hipr : wr.iterPos w.heap.size = pos := by simp [World.iterPos, HIT.out]
          have hsz5 : w.heap.size + 1 ≤ w5.heap.size := Nat.le_trans hsz2 hb5.size
          have R5 := Lib.hid (And.intro hit5 (And.intro hown5 (And.intro hsz5 hbw5)))
          have HCUT := Lib.hid hcut
          clear hit hit2 hown hown2 hb hb2 hsz2 hit5 hown5 hg5 hb5 hbw5 hcut hl47 hd hgap hw1 hw2 hw2'
          go_wp2_with (at_builtin; refine halt_in ?_)
          refine Halted.out (wpList_append_run rfl _ _ _ _ rfl rfl rfl hap ?_)
          clear hap
          go_wp2_with fail
          go_roundw
          case rel => exact ⟨pos + 1, by omega, by rw [HCUT.out]; rfl, R5.out.1, by rw [HCUT.out]; exact R5.out.2.1, R5.out.2.2.1, R5.out.2.2.2⟩
          case measure => rw [hip, hipr]; omega
        · have hcut : cutN s.data.toList (pos + (Utf8.decode s pos).2) = cutN s.data.toList pos := by
            refine cutN_skip _ _ _ fun j h1 h2 h3 => ?_
            have hj : j < s.size := by omega
            rw [data_at s j hj] at h3
            have h4 : (s[j]'hj).toNat = 47 := by rw [Option.some.inj h3]; rfl
            rcases Nat.lt_or_ge pos j with h | h
            · have := hgap j h h2
              rw [get_bang s j hj] at this; omega
            · obtain rfl : j = pos := by omega
              exact hq h4
          have hd : (((Utf8.decode s pos).1 : Int) == 47) = false := by
            rcases Nat.lt_or_ge (s[pos]'hp).toNat 128 with h | h
            · rw [decode_ascii s pos hp h]; simp; omega
            · have := (decode_high s pos hp h).1
              simp; omega
          have hip : w2.iterPos w.heap.size = pos + (Utf8.decode s pos).2 := by simp [World.iterPos, hit2]
          have hipr : wr.iterPos w.heap.size = pos := by simp [World.iterPos, HIT.out]
          have R5 := Lib.hid (And.intro hit2 (And.intro hown2 (And.intro hsz2 hb2)))
          have HCUT := Lib.hid hcut
          clear hit hit2 hown hown2 hb hb2 hsz2 hcut hgap hw2' hq
          go_wp2_with fail
          go_roundw
          case rel => exact ⟨pos + (Utf8.decode s pos).2, by omega, by rw [HCUT.out], R5.out.1, by rw [HCUT.out]; exact R5.out.2.1, R5.out.2.2.1, R5.out.2.2.2⟩
          case measure => rw [hip, hipr]; omega
      · obtain rfl : pos = s.size := by omega
        have hnx : ∀ ty, (Instr.next (.pointer (some ⟨w.heap.size, 0, none⟩)) true ty).run Tryz.prog wr = _ := fun ty => Lib.run_next_end_at (P := Tryz.prog) wr w.heap.size s s.size ty hit hp
        have hsl : s.data.toList.length = s.size := by rw [Array.length_toList]; rfl
        obtain ⟨v5, w5, hap, hown5, hg5, hb5⟩ := strs_step (w.heap.size + 1) hown (Below.refl (w.heap.size + 1) wr) ((s.data.toList.drop (cutN s.data.toList s.size).2).take (s.size - (cutN s.data.toList s.size).2)) (by omega) hsz
        rw [← extract_str s _ s.size hc1 (Nat.le_refl _)] at hap hg5
        have hfin : (cutN s.data.toList s.size).1 ++ [(s.data.toList.drop (cutN s.data.toList s.size).2).take (s.size - (cutN s.data.toList s.size).2)] = splitB s.data.toList := by
          unfold splitB
          rw [if_neg (by intro e; rw [e] at hsl; simp at hsl; omega), hsl, List.take_of_length_le (by rw [List.length_drop]; omega)]
        rw [hfin] at hown5
        have R5 := Lib.hid (And.intro hown5 (HB.out.trans (hb5.mono (Nat.le_succ _))))
        clear hit hown hb hown5 hg5 hb5 hfin
        go_wp2_with (at_builtin; refine halt_in ?_)
        refine Halted.out (wpList_append_run rfl _ _ _ _ rfl rfl rfl hap ?_)
        clear hap
        go_wp2_with fail
        go_ret
        exact ⟨⟨_, rfl, R5.out.1⟩, R5.out.2⟩
theorem pathSplit_any (s : ByteArray) (w : World) (hs : s.size ≤ 2097152) :
    Calls Tryz.prog 41 #[.string s] w fun e w' => (∃ A n c, e = .returned (.slice A n c) ∧ n = (splitB s.data.toList).length ∧ n ≤ c ∧ Sl 1 w' A n (strs (splitB s.data.toList))) ∧ Below w.heap.size w w' := by
  refine (pathSplit_own s w hs).mono ?_
  rintro e w' ⟨⟨v, rfl, h⟩, hb⟩
  obtain ⟨A, c, rfl, hle, hsl, _, _⟩ := own_sl h
  exact ⟨⟨A, _, c, rfl, rfl, hle, hsl⟩, hb⟩
end Go.Proofs.YtlbbehfbjbbckaaGreatDoor

/-! The document's Split. -/
set_option linter.unusedVariables false
set_option linter.unusedSimpArgs false
namespace Go.Proofs.YtlbbehfbjbbckaaGreatDoor
open Go.RowKit
attribute [local go_sem] str_toList

set_option maxRecDepth 100000 in
set_option maxHeartbeats 2000000 in
theorem refSplit_any (s : ByteArray) (w : World) (hs : s.size ≤ 2097152) :
    Calls Tryz.prog 45 #[.string s] w fun e w' => (∃ A n c, e = .returned (.slice A n c) ∧ n = (splitB s.data.toList).length ∧ n ≤ c ∧ Sl 1 w' A n (strs (splitB s.data.toList))) ∧ Below w.heap.size w w' := by
  go_enter Tryz.func45, Tryz.ntmps45
  by_cases h0 : s.size = 0
  · obtain rfl : s = ⟨#[]⟩ := by
      obtain ⟨⟨l⟩⟩ := s
      cases l with
      | nil => rfl
      | cons a l => simp [ByteArray.size] at h0
    go_wp2_with fail
    go_ret
    exact ⟨⟨none, 0, 0, rfl, rfl, Nat.le_refl _, Sl.nil 1 _ none⟩, Below.refl _ _⟩
  · have hne := nil_toList s h0
    have hsl : s.data.toList.length = s.size := by rw [Array.length_toList]; rfl
    go_wp2_with fail
    clear hne
    go_loopw [3, 4, 5] (fun v a b wr => ∃ (i f : Nat) (L : List (List UInt8)), b = .int .i64 i ∧ a = .int .i64 f ∧ (i ≤ s.size ∧ L = (cutN s.data.toList i).1 ∧ f = (cutN s.data.toList i).2 ∨ i = s.size + 1 ∧ f = s.size + 1 ∧ L = splitB s.data.toList) ∧ wr.ownsRow w.heap.size 9 1 v L.length (strs L) ∧ Below w.heap.size w wr) (fun _ _ b _ => s.size + 1 - (intOf b).toNat)
    case atStart => exact ⟨0, 0, [], rfl, rfl, .inl ⟨by omega, rfl, rfl⟩, World.ownsRow_nil _ _ _ _, Below.refl _ _⟩
    case round =>
      obtain ⟨i, f, L, rfl, rfl, hcase, hown, hb⟩ := hrel
      rcases hcase with ⟨his, hL, hf⟩ | ⟨hi, hf, hL⟩
      · obtain ⟨hc1, hc2⟩ := cutN_le s.data.toList i
        rw [← hf] at hc1
        rw [← hL] at hc2
        obtain ⟨v5, w5, hap, hown5, hg5, hb5⟩ := strs_step w.heap.size hown hb ((s.data.toList.drop f).take (i - f)) (by omega) hb.size
        rw [← extract_str s f i hc1 his] at hap
        rcases Nat.lt_or_ge i s.size with hp | hp
        · by_cases hq : (s[i]'hp).toNat = 47
          · have hl47 : s.data.toList[i]? = some 47 := by
              rw [data_at s i hp]; congr 1; exact UInt8.toNat_inj.1 (by rw [hq]; rfl)
            have hcut := cutN_slash hl47
            rw [← hf, ← hL] at hcut
            have hq2 : (((s[i]'hp).toNat : Int) == 47) = true := by simp [hq]
            have R5 := Lib.hid (And.intro hown5 hb5)
            have HCUT := Lib.hid hcut
            clear hown hb hown5 hg5 hb5 hcut hl47 hL hf hq hc2
            go_wp2_with (at_builtin; refine halt_in ?_)
            refine Halted.out (wpList_append_run rfl _ _ _ _ rfl rfl rfl hap ?_)
            clear hap
            go_wp2_with fail
            go_roundw
            case rel => exact ⟨i + 1, i + 1, _, by go_num, by go_num, .inl ⟨by omega, by rw [HCUT.out], by rw [HCUT.out]⟩, R5.out.1, R5.out.2⟩
            case measure => simp [intOf]; omega
          · have hcut : cutN s.data.toList (i + 1) = cutN s.data.toList i := cutN_other (by
              rw [data_at s i hp]; intro e; exact hq (by rw [Option.some.inj e]; rfl))
            have hq2 : (((s[i]'hp).toNat : Int) == 47) = false := by simp; omega
            have R5 := Lib.hid (And.intro hown hb)
            have HC := Lib.hid (show L = (cutN s.data.toList (i + 1)).1 ∧ f = (cutN s.data.toList (i + 1)).2 from by rw [hcut]; exact ⟨hL, hf⟩)
            clear hown hb hown5 hg5 hb5 hcut hL hf hq hc2 hap
            go_wp2_with fail
            go_roundw
            case rel => exact ⟨i + 1, f, L, by go_num, rfl, .inl ⟨by omega, HC.out.1, HC.out.2⟩, R5.out.1, R5.out.2⟩
            case measure => simp [intOf]; omega
        · obtain rfl : i = s.size := by omega
          have hfin : L ++ [(s.data.toList.drop f).take (s.size - f)] = splitB s.data.toList := by
            unfold splitB
            rw [if_neg (by intro e; rw [e] at hsl; simp at hsl; omega), hsl, hL, hf, List.take_of_length_le (by rw [List.length_drop]; omega)]
          rw [hfin] at hown5
          have R5 := Lib.hid (And.intro hown5 hb5)
          clear hown hb hown5 hg5 hb5 hL hf hc2 hfin
          go_wp2_with (at_builtin; refine halt_in ?_)
          refine Halted.out (wpList_append_run rfl _ _ _ _ rfl rfl rfl hap ?_)
          clear hap
          go_wp2_with fail
          go_roundw
          case rel => exact ⟨s.size + 1, s.size + 1, _, by go_num, by go_num, .inr ⟨rfl, rfl, rfl⟩, R5.out.1, R5.out.2⟩
          case measure => simp [intOf]
      · subst hi hf hL
        obtain ⟨Af, cf, rfl, hcf, hslf, _, _⟩ := own_sl hown
        have R5 := Lib.hid (And.intro hslf hb)
        clear hown hb hslf
        go_wp2_with fail
        go_ret
        exact ⟨⟨_, _, _, rfl, rfl, hcf, R5.out.1⟩, R5.out.2⟩
end Go.Proofs.YtlbbehfbjbbckaaGreatDoor

/-! slices.Equal, path.Under, the document's Under. -/
set_option linter.unusedVariables false
set_option linter.unusedSimpArgs false
namespace Go.Proofs.YtlbbehfbjbbckaaGreatDoor
open Go.RowKit
attribute [local go_sem] str_toList

theorem Sl.drewN {sz : Nat} {w : World} {A : Option Addr} {n : Nat} {cs : List Value} (h : Sl sz w A n cs) (m : Nat) : Sl sz (w.drewN m) A n cs := ⟨h.len, h.max, h.at_⟩
theorem Sl.strsLen {w : World} {A : Option Addr} {n : Nat} {L : List (List UInt8)} (h : Sl 1 w A n (strs L)) : L.length = n := by
  have := h.len; rw [strs_len] at this; omega
theorem Sl.strRow {w : World} {A : Option Addr} {n : Nat} {L : List (List UInt8)} (h : Sl 1 w A n (strs L)) {i : Nat} (hi : i < n) : ∃ (b o : Nat) (x : List UInt8), A = some ⟨b, o, none⟩ ∧ L[i]? = some x ∧ w.cell? ⟨b, o + i, none⟩ = some (.string (str x)) := by
  have hl := h.strsLen
  rcases h.at_ with h0 | ⟨b, o, rfl, hc⟩
  · have : (strs L).length = 0 := by rw [h0]; rfl
    rw [strs_len] at this; omega
  · have hg : L[i]? = some (L[i]'(by omega)) := List.getElem?_eq_getElem (by omega)
    exact ⟨b, o, _, rfl, hg, hc i _ (strs_get hg)⟩
theorem take_snocS {L : List (List UInt8)} {i : Nat} {x : List UInt8} (h : L[i]? = some x) : L.take (i+1) = L.take i ++ [x] := by rw [List.take_add_one, h]; rfl
set_option maxRecDepth 100000 in
set_option maxHeartbeats 2000000 in
theorem equal_any (A B : Option Addr) (n c m d : Nat) (X Y : List (List UInt8)) (w : World) (hA : Sl 1 w A n (strs X)) (hB : Sl 1 w B m (strs Y)) :
    Calls Tryz.prog 155 #[.slice A n c, .slice B m d] w fun e w' => e = .returned (.bool (decide (X = Y))) ∧ Below w.heap.size w w' := by
  have HX := Lib.hid hA.strsLen
  have HY := Lib.hid hB.strsLen
  have HA := Lib.hid hA
  have HB := Lib.hid hB
  have ha := hA.max
  have hb := hB.max
  clear hA hB
  go_enter Tryz.func155, Tryz.ntmps155
  by_cases hnm : n = m
  · subst hnm
    go_wp2_with fail
    go_loopw [13] (fun a wr => ∃ i k : Nat, a = .int .i64 i ∧ i ≤ n ∧ X.take i = Y.take i ∧ wr = w.drewN k) (fun a _ => n - (intOf a).toNat)
    case atStart => exact ⟨0, 0, rfl, by omega, rfl, rfl⟩
    case round =>
      obtain ⟨i, k, rfl, hin, htk, rfl⟩ := hrel
      have HT := Lib.hid htk
      clear htk
      rcases Nat.lt_or_ge i n with h | h
      · obtain ⟨b1, o1, x, hA1, hr1, c1⟩ := HA.out.strRow h
        obtain ⟨b2, o2, y, hA2, hr2, c2⟩ := HB.out.strRow h
        subst hA1 hA2
        have HR1 := Lib.hid hr1
        have HR2 := Lib.hid hr2
        clear hr1 hr2
        by_cases hxy : x = y
        · subst hxy
          go_wp2_with fail
          go_quiet (fail)
          go_wp2_with fail
          go_roundw
          case rel => exact ⟨i+1, _, by go_num, by omega, by rw [take_snocS HR1.out, take_snocS HR2.out, HT.out], rfl⟩
          case measure => simp [intOf]; omega
        · have hne : (x == y) = false := by simpa using hxy
          have HNE := Lib.hid (show X ≠ Y from fun e => hxy (by have h1 := HR1.out; have h2 := HR2.out; rw [e, h2] at h1; exact (Option.some.inj h1).symm))
          clear hxy
          go_wp2_with fail
          go_quiet (fail)
          go_wp2_with fail
          go_ret
          exact ⟨by rw [decide_eq_false HNE.out]; rfl, (Below.refl _ _).trans ⟨rfl, rfl, rfl, Nat.le_refl _, fun _ _ => rfl⟩⟩
      · obtain rfl : i = n := by omega
        go_wp2_with fail
        go_ret
        have h3 := HT.out
        rw [List.take_of_length_le (by have := HX.out; omega), List.take_of_length_le (by have := HY.out; omega)] at h3
        exact ⟨by rw [decide_eq_true h3]; rfl, (Below.refl _ _).trans ⟨rfl, rfl, rfl, Nat.le_refl _, fun _ _ => rfl⟩⟩
  · have HNE := Lib.hid (show X ≠ Y from fun e => hnm (by rw [← HX.out, ← HY.out, e]))
    have hne : ((n : Int) != m) = true := by simp; omega
    clear hnm
    go_wp2_with fail
    go_ret
    exact ⟨by rw [decide_eq_false HNE.out]; rfl, Below.refl _ _⟩
theorem elemSt : Tryz.prog.elem 35 = 9 := by kernel_rfl
theorem undSt : Tryz.prog.underlying 35 = some (.slice (Tryz.prog.elem 35)) := by rw [elemSt]; exact Tryz.underlying35
theorem Sl.head {w : World} {A : Option Addr} {n : Nat} {X : List (List UInt8)} (h : Sl 1 w A n (strs X)) (m c : Nat) (hm : m ≤ n) : Sl 1 w (subAt A 0 c 1) m (strs (X.take m)) := by
  have hl := h.strsLen
  have hmx := h.max
  refine ⟨by rw [strs_len, List.length_take]; omega, by omega, ?_⟩
  rcases h.at_ with h0 | ⟨b, o, rfl, hc⟩
  · left
    have : (strs X).length = 0 := by rw [h0]; rfl
    rw [strs_len] at this
    have : X = [] := List.eq_nil_of_length_eq_zero this
    subst this; simp [strs]
  · right
    refine ⟨b, o, ?_, fun j v hj => hc j v ?_⟩
    · unfold subAt; split
      · rfl
      · simp only [Option.map_some, Addr.add]; split <;> simp_all
    · simp only [strs, List.getElem?_map, List.getElem?_take] at hj ⊢
      split at hj
      · exact hj
      · cases hj
theorem pfx_short {X Y : List (List UInt8)} (h : X.length < Y.length) : pfxB X Y = false := by
  unfold pfxB
  rw [decide_eq_false]
  intro e
  have := congrArg List.length e
  rw [List.length_take] at this; omega
set_option maxRecDepth 100000 in
set_option maxHeartbeats 2000000 in
theorem under_any (p q : ByteArray) (w : World) (hp : p.size ≤ 2097152) (hq : q.size ≤ 2097152) :
    Calls Tryz.prog 131 #[.string p, .string q] w fun e w' => e = .returned (.bool (pfxB (splitB p.data.toList) (splitB q.data.toList))) ∧ Below w.heap.size w w' := by
  obtain ⟨i0, hi, hz0, hz1, hz2⟩ := info_parts infoS
  have HP := Lib.hid hp
  have HQ := Lib.hid hq
  clear hp hq
  go_enter Tryz.func131, Tryz.ntmps131
  go_wp2_with fail
  refine (pathSplit_any p _ HP.out).mono ?_
  rintro e w1 ⟨⟨A, n, c, rfl, hn, hnc, hsA⟩, hb1⟩
  have HB1 := Lib.hid hb1
  have HSA := Lib.hid hsA
  have HN := Lib.hid hn
  clear hb1 hsA hn
  go_wp2_with fail
  refine (pathSplit_any q _ HQ.out).mono ?_
  rintro e w2 ⟨⟨B, m, d, rfl, hm, hmd, hsB⟩, hb2⟩
  have HB2 := Lib.hid (HB1.out.trans (hb2.mono HB1.out.size))
  have HSA2 := Lib.hid (HSA.out.below hb2)
  have HSB2 := Lib.hid hsB
  have HM := Lib.hid hm
  clear hb2 hsB hm
  rcases Nat.lt_or_ge n m with h | h
  · have K := Lib.hid (pfx_short (X := splitB p.data.toList) (Y := splitB q.data.toList) (by rw [← HN.out, ← HM.out]; exact h))
    clear hi hz0 hz1 hz2
    go_wp2_with fail
    go_ret
    exact ⟨by rw [K.out]; rfl, HB2.out⟩
  · have hsl : ∀ w : World, (Instr.slice 35 (.slice A n c) none (some (.int .i64 m)) none).run Tryz.prog w = .ok (.slice (subAt A 0 c 1) m c) w := fun w => run_slice_to undSt elemSt hi hz1 A n c m (by omega) .i64 _ rfl
    have HH := Lib.hid (HSA2.out.head m c h)
    clear hi hz0 hz1 hz2
    go_wp2_with fail
    refine (equal_any _ _ _ _ _ _ _ _ _ HH.out HSB2.out).mono ?_
    rintro e w3 ⟨rfl, hb3⟩
    have HB3 := Lib.hid (HB2.out.trans (hb3.mono HB2.out.size))
    clear hb3 hsl
    have K := Lib.hid (show decide ((splitB p.data.toList).take m = splitB q.data.toList) = pfxB (splitB p.data.toList) (splitB q.data.toList) from by unfold pfxB; rw [HM.out])
    go_wp2_with fail
    go_ret
    exact ⟨by rw [← K.out]; rfl, HB3.out⟩
set_option maxRecDepth 100000 in
set_option maxHeartbeats 2000000 in
theorem refUnder_any (p q : ByteArray) (X Y : List (List UInt8)) (w : World) (hX : splitB p.data.toList = X) (hY : splitB q.data.toList = Y) (hp : p.size ≤ 2097152) (hq : q.size ≤ 2097152) :
    Calls Tryz.prog 134 #[.string p, .string q] w fun e w' => e = .returned (.bool (pfxB X Y)) ∧ Below w.heap.size w w' := by
  have HP := Lib.hid hp
  have HX0 := Lib.hid hX
  have HY0 := Lib.hid hY
  clear hX hY
  have HQ := Lib.hid hq
  clear hp hq
  go_enter Tryz.func134, Tryz.ntmps134
  go_wp2_with fail
  refine (refSplit_any p _ HP.out).mono ?_
  rintro e w1 ⟨⟨A, n, c, rfl, hn, hnc, hsA⟩, hb1⟩
  rw [HX0.out] at hn hsA
  have HB1 := Lib.hid hb1
  have HSA := Lib.hid hsA
  have HN := Lib.hid hn
  clear hb1 hsA hn
  go_wp2_with fail
  refine (refSplit_any q _ HQ.out).mono ?_
  rintro e w2 ⟨⟨B, m, d, rfl, hm, hmd, hsB⟩, hb2⟩
  rw [HY0.out] at hm hsB
  have HB2 := Lib.hid (HB1.out.trans (hb2.mono HB1.out.size))
  have HSA2 := Lib.hid (HSA.out.below hb2)
  have HSB2 := Lib.hid hsB
  have HM := Lib.hid hm
  clear hb2 hsB hm
  have hmx := HSB2.out.max
  go_wp2_with fail
  go_loopw [7] (fun a wr => ∃ i k : Nat, a = .int .i64 i ∧ i ≤ m ∧ i ≤ n ∧ X.take i = Y.take i ∧ wr = w2.drewN k) (fun a _ => m - (intOf a).toNat)
  case atStart => exact ⟨0, 0, rfl, by omega, by omega, rfl, rfl⟩
  case round =>
    obtain ⟨i, k, rfl, him, hin, htk, rfl⟩ := hrel
    have HT := Lib.hid htk
    clear htk
    rcases Nat.lt_or_ge i m with h | h
    · obtain ⟨b2, o2, y, hA2, hr2, c2⟩ := HSB2.out.strRow h
      subst hA2
      have HR2 := Lib.hid hr2
      clear hr2
      rcases Nat.lt_or_ge i n with h' | h'
      · obtain ⟨b1, o1, x, hA1, hr1, c1⟩ := HSA2.out.strRow h'
        subst hA1
        have HR1 := Lib.hid hr1
        clear hr1
        have hd : decide ((n : Int) ≤ i) = false := by simp; omega
        by_cases hxy : x = y
        · subst hxy
          go_wp2_with fail
          go_quiet (fail)
          go_wp2_with fail
          go_roundw
          case rel => exact ⟨i+1, _, by go_num, by omega, by omega, by rw [take_snocS HR1.out, take_snocS HR2.out, HT.out], rfl⟩
          case measure => simp [intOf]; omega
        · have hne : (x == y) = false := by simpa using hxy
          have HNE := Lib.hid (show pfxB X Y = false from decide_eq_false fun e => hxy (by
            have h1 := HR1.out; have h2 := HR2.out
            rw [← e, List.getElem?_take, if_pos (by rw [← HM.out]; exact h), h1] at h2
            exact Option.some.inj h2))
          clear hxy
          go_wp2_with fail
          go_quiet (fail)
          go_wp2_with fail
          go_ret
          exact ⟨by rw [HNE.out]; rfl, HB2.out.trans ⟨rfl, rfl, rfl, Nat.le_refl _, fun _ _ => rfl⟩⟩
      · have hd : decide ((n : Int) ≤ i) = true := by simp; omega
        have HNE := Lib.hid (pfx_short (X := X) (Y := Y) (by rw [← HN.out, ← HM.out]; omega))
        go_wp2_with fail
        go_quiet (fail)
        go_wp2_with fail
        go_ret
        exact ⟨by rw [HNE.out]; rfl, HB2.out.trans ⟨rfl, rfl, rfl, Nat.le_refl _, fun _ _ => rfl⟩⟩
    · obtain rfl : i = m := by omega
      have HYY := Lib.hid (show pfxB X Y = true from decide_eq_true (by
        have h3 := HT.out
        rw [List.take_of_length_le (l := Y) (by rw [← HM.out]; exact Nat.le_refl _)] at h3
        rw [← HM.out]; exact h3))
      go_wp2_with fail
      go_ret
      exact ⟨by rw [HYY.out]; rfl, HB2.out.trans ⟨rfl, rfl, rfl, Nat.le_refl _, fun _ _ => rfl⟩⟩
end Go.Proofs.YtlbbehfbjbbckaaGreatDoor

/-! Paths: plain laws: what stands ahead of the last slash, and behind it; right paths; their order. -/
set_option linter.unusedVariables false
set_option linter.unusedSimpArgs false
namespace Go.Proofs.YtlbbehfbjbbckaaGreatDoor
open Go.RowKit

/-- The place behind the last slash. -/
def lastB (l : List UInt8) : Nat := (cutN l l.length).2
def parentB (l : List UInt8) : List UInt8 := l.take (lastB l - 1)
def baseB (l : List UInt8) : List UInt8 := l.drop (lastB l)
/-- Parts, with a slash between. -/
def glueB : List (List UInt8) → List UInt8
  | [] => []
  | [x] => x
  | x :: y :: r => x ++ 47 :: glueB (y :: r)
theorem glueB_snoc : ∀ (L : List (List UInt8)) (x : List UInt8), L ≠ [] → glueB (L ++ [x]) = glueB L ++ 47 :: x
  | [], _, h => absurd rfl h
  | [a], x, _ => rfl
  | a :: b :: r, x, _ => by
    have := glueB_snoc (b :: r) x (by simp)
    simp only [List.cons_append, glueB] at this ⊢
    rw [this]; simp
theorem cutN_inv (l : List UInt8) : ∀ i, i ≤ l.length → ((cutN l i).1 = [] ↔ (cutN l i).2 = 0) ∧ (0 < (cutN l i).2 → l[(cutN l i).2 - 1]? = some 47) ∧ glueB (cutN l i).1 = l.take ((cutN l i).2 - 1)
  | 0, _ => ⟨by simp [cutN], by simp [cutN], by simp [cutN, glueB]⟩
  | i+1, h => by
    obtain ⟨h1, h2, h3⟩ := cutN_inv l i (by omega)
    obtain ⟨hle, _⟩ := cutN_le l i
    rw [cutN]
    split
    · rename_i h47
      refine ⟨by simp, fun _ => by simpa using h47, ?_⟩
      simp only [Nat.add_sub_cancel]
      by_cases hL : (cutN l i).1 = []
      · rw [hL, h1.1 hL]; simp [glueB]
      · rw [glueB_snoc _ _ hL, h3]
        have hpos : 0 < (cutN l i).2 := Nat.pos_of_ne_zero fun e => hL (h1.2 e)
        have h47' := h2 hpos
        generalize (cutN l i).2 = f at *
        have e1 : l.take i = l.take (f - 1) ++ (l.drop (f - 1)).take (i - (f - 1)) := by
          rw [← List.take_add, show f - 1 + (i - (f - 1)) = i by omega]
        rw [e1]
        congr 1
        have hf1 : f - 1 < l.length := (List.getElem?_eq_some_iff.1 h47').1
        have e2 : l.drop (f - 1) = 47 :: l.drop f := by
          rw [List.drop_eq_getElem_cons hf1, show f - 1 + 1 = f by omega]
          congr 1
          exact Option.some.inj ((List.getElem?_eq_getElem hf1).symm.trans h47')
        rw [e2, show i - (f - 1) = (i - f) + 1 by omega]; rfl
    · exact ⟨h1, h2, h3⟩
theorem splitB_ne {l : List UInt8} (h : l ≠ []) : splitB l = (cutN l l.length).1 ++ [baseB l] := by unfold splitB; rw [if_neg h]; rfl
theorem splitB_nil : splitB [] = [] := rfl
/-- The document's Parent is the program's. -/
theorem parent_glue (l : List UInt8) : (if (splitB l).length < 2 then [] else glueB ((splitB l).take ((splitB l).length - 1))) = parentB l := by
  by_cases h : l = []
  · subst h; rfl
  · obtain ⟨h1, h2, h3⟩ := cutN_inv l l.length (Nat.le_refl _)
    rw [splitB_ne h]
    have e : ((cutN l l.length).1 ++ [baseB l]).take (((cutN l l.length).1 ++ [baseB l]).length - 1) = (cutN l l.length).1 := by simp
    rw [e, h3]
    unfold parentB lastB
    split
    · rename_i h4
      have : (cutN l l.length).1 = [] := by
        cases hc : (cutN l l.length).1 with
        | nil => rfl
        | cons a r => rw [hc] at h4; simp at h4; omega
      rw [h1.1 this]; simp
    · rfl
/-- The document's Base is the program's. -/
theorem base_last (l : List UInt8) : (splitB l).getLast?.getD [] = baseB l := by
  by_cases h : l = []
  · subst h; rfl
  · rw [splitB_ne h]; simp
theorem lastB_le (l : List UInt8) : lastB l ≤ l.length := (cutN_le l l.length).1
/-- The place behind the last slash, by its two marks. -/
theorem lastB_slash {l : List UInt8} {r : Nat} (h : l[r]? = some 47) (hn : ∀ j : Nat, r < j → l[j]? ≠ some 47) : lastB l = r + 1 := by
  have hr : r < l.length := (List.getElem?_eq_some_iff.1 h).1
  have := cutN_skip l (r + 1) (l.length - (r + 1)) (fun j h1 _ => hn j (by omega))
  unfold lastB
  rw [show l.length = r + 1 + (l.length - (r + 1)) by omega, this, cutN_slash h]
theorem lastB_none {l : List UInt8} (hn : ∀ j : Nat, l[j]? ≠ some 47) : lastB l = 0 := by
  have := cutN_skip l 0 l.length (fun j _ _ => hn j)
  unfold lastB
  rw [Nat.zero_add] at this
  rw [this]; rfl

/-- May a text be a part? -/
def partOk (s : List UInt8) : Bool := decide (s ≠ []) && (decide (s.length ≤ 48) && (decide (s ≠ [46]) && (decide (s ≠ [46, 46]) && decide ((0 : UInt8) ∉ s))))
/-- Is a text a path? -/
def rightB (l : List UInt8) : Bool := (splitB l).all partOk && (decide ((splitB l).length ≤ 12) && decide (l.length ≤ 200))
theorem rightB_len {l : List UInt8} (h : rightB l = true) : l.length ≤ 200 := by
  unfold rightB at h
  simp only [Bool.and_eq_true, decide_eq_true_eq] at h
  exact h.2.2
end Go.Proofs.YtlbbehfbjbbckaaGreatDoor

/-! Go's strings: IndexByte, Contains at one byte (laid off the shelf's templates), LastIndexByte. -/
set_option linter.unusedVariables false
set_option linter.unusedSimpArgs false
namespace Go.Proofs.YtlbbehfbjbbckaaGreatDoor
open Go.RowKit

set_option maxHeartbeats 1000000 in
set_option maxRecDepth 100000 in
theorem slIndexByte_any (s : ByteArray) (c : Int) (w : World) :
    Calls Tryz.prog 153 #[.string s, .int .u8 c] w fun e w' => e = .returned (.int .i64 (Lib.indexByte s.data.toList c.toNat.toUInt8)) ∧ w' = w := by
  go_enter Tryz.func153, Tryz.ntmps153
  go_wp2
  rw [run_callFunc_extern Tryz.func171 (by kernel_rfl) (by kernel_rfl) (by kernel_rfl) (e := Extern.BytealgIndexByte.indexByte) (by kernel_rfl), Lib.run_indexByteString]
  simp only [Result.andThen]
  rw [Oper.upon_value]
  go_wp2
  go_ret
  exact ⟨rfl, rfl⟩
set_option maxHeartbeats 1000000 in
theorem indexByte_any (s : ByteArray) (c : Int) (w : World) :
    Calls Tryz.prog 129 #[.string s, .int .u8 c] w fun e w' => e = .returned (.int .i64 (Lib.indexByte s.data.toList c.toNat.toUInt8)) ∧ w' = w := by
  go_enter Tryz.func129, Tryz.ntmps129
  go_wp2_with (go_at_call 153; refine (slIndexByte_any _ _ _).mono ?_; rintro e w' ⟨rfl, rfl⟩)
  go_ret
  exact ⟨rfl, rfl⟩
set_option maxHeartbeats 2000000 in
set_option maxRecDepth 100000 in
theorem slIndex_one (s : ByteArray) (c : UInt8) (w : World) :
    Calls Tryz.prog 169 #[.string s, .string ⟨#[c]⟩] w fun e w' => e = .returned (.int .i64 (Lib.indexByte s.data.toList c)) ∧ w' = w := by
  go_enter Tryz.func169, Tryz.ntmps169
  go_wp2_with (go_at_call 153; refine (slIndexByte_any _ _ _).mono ?_; rintro e w' ⟨rfl, rfl⟩)
  · have h : ([c] == s.toList) = true := by assumption
    go_ret
    refine ⟨?_, rfl⟩
    have e : s.data.toList = [c] := by rw [← Lib.toList_data]; exact (beq_iff_eq.1 h).symm
    rw [e]
    simp [Lib.indexByte]
  · go_ret
    exact ⟨rfl, rfl⟩
/-- A byte's place is told just where it stands. -/
theorem indexByte_mem (l : List UInt8) (c : UInt8) : 0 ≤ Lib.indexByte l c ↔ c ∈ l := by
  induction l with
  | nil => simp [Lib.indexByte]
  | cons b r ih =>
    simp only [Lib.indexByte, List.mem_cons]
    by_cases h : b == c
    · rw [if_pos h]; simp [(beq_iff_eq.1 h)]
    · rw [if_neg h]
      have hbc : c ≠ b := fun e => h (by rw [e]; simp)
      by_cases h2 : Lib.indexByte r c == -1
      · rw [if_pos h2]
        have h3 : Lib.indexByte r c = -1 := beq_iff_eq.1 h2
        rw [← ih, h3]; simp [hbc]
      · rw [if_neg h2]
        have h3 : ¬ Lib.indexByte r c = -1 := fun e => h2 (by rw [e]; rfl)
        have h4 : -1 ≤ Lib.indexByte r c := by
          clear ih h h2 h3
          induction r with
          | nil => simp [Lib.indexByte]
          | cons x r ih => simp only [Lib.indexByte]; split <;> (try split) <;> omega
        rw [← ih]; constructor
        · intro h5; exact .inr (by omega)
        · rintro (h5 | h5)
          · exact absurd h5 hbc
          · omega
set_option maxRecDepth 100000 in
set_option maxHeartbeats 1000000 in
theorem lastIndex_any (s : ByteArray) (w : World) (hs : s.size ≤ 9223372036854775807) :
    Calls Tryz.prog 150 #[.string s, .int .u8 47] w fun e w' => e = .returned (.int .i64 ((lastB s.data.toList : Int) - 1)) ∧ w' = w := by
  have key : Calls Tryz.prog 170 #[.string s, .int .u8 47] w fun e w' => e = .returned (.int .i64 ((lastB s.data.toList : Int) - 1)) ∧ w' = w := by
    go_enter Tryz.func170, Tryz.ntmps170
    go_wp2_with fail
    go_loopw [5] (fun a wr => ∃ i : Nat, a = .int .i64 ((i : Int) - 1) ∧ i ≤ s.size ∧ (∀ j : Nat, i ≤ j → s.data.toList[j]? ≠ some 47) ∧ wr = w) (fun a _ => (intOf a + 1).toNat)
    case atStart => exact ⟨s.size, rfl, Nat.le_refl _, fun j hj h => by
      have := (List.getElem?_eq_some_iff.1 h).1
      rw [Array.length_toList] at this
      have h2 : s.data.size = s.size := rfl
      omega, rfl⟩
    case round =>
      obtain ⟨i, rfl, hi, hn, rfl⟩ := hrel
      have HN := Lib.hid hn
      clear hn
      cases i with
      | zero =>
        go_wp2_with fail
        go_ret
        exact ⟨by rw [lastB_none (fun j => HN.out j (Nat.zero_le _))]; rfl, rfl⟩
      | succ i =>
        have hii : ((i + 1 : Nat) : Int) - 1 = (i : Int) := by omega
        rw [hii]
        clear hii
        have hlt : i < s.size := by omega
        by_cases hq : (s[i]'hlt).toNat = 47
        · have h47 : s.data.toList[i]? = some 47 := by
            rw [data_at s i hlt]; congr 1; exact UInt8.toNat_inj.1 (by rw [hq]; rfl)
          have hq2 : (((s[i]'hlt).toNat : Int) == 47) = true := by simp [hq]
          have HL := Lib.hid (lastB_slash h47 (fun j hj => HN.out j (by omega)))
          clear hq h47
          go_wp2_with fail
          go_ret
          exact ⟨by rw [HL.out, show ((i + 1 : Nat) : Int) - 1 = i by omega]; rfl, rfl⟩
        · have hq2 : (((s[i]'hlt).toNat : Int) == 47) = false := by simp; omega
          have HQ := Lib.hid (show s.data.toList[i]? ≠ some 47 from by
            rw [data_at s i hlt]; intro e; exact hq (by rw [Option.some.inj e]; rfl))
          clear hq
          go_wp2_with fail
          go_roundw
          case rel => exact ⟨i, by go_num, by omega, fun j hj => by
            rcases Nat.lt_or_ge i j with h | h
            · exact HN.out j h
            · obtain rfl : j = i := by omega
              exact HQ.out, by trivial⟩
          case measure => simp [intOf]
  go_enter Tryz.func150, Tryz.ntmps150
  go_wp2_with fail
  refine key.mono ?_
  rintro e w' ⟨rfl, rfl⟩
  go_wp2_with fail
  go_ret
  exact ⟨rfl, rfl⟩
end Go.Proofs.YtlbbehfbjbbckaaGreatDoor

/-! Paths: Right, Parent, Base, the program's and the document's. -/
set_option linter.unusedVariables false
set_option linter.unusedSimpArgs false
namespace Go.Proofs.YtlbbehfbjbbckaaGreatDoor
open Go.RowKit
attribute [local go_sem] str_toList max2_I max_two_I

theorem size_toList (l : List UInt8) : (str l).size = l.length := str_size l
set_option maxRecDepth 100000 in
set_option maxHeartbeats 1000000 in
theorem part_any (x : List UInt8) (w : World) :
    Calls Tryz.prog 89 #[.string (str x)] w fun e w' => e = .returned (.bool (partOk x)) ∧ w' = w := by
  have HZ := Lib.hid (str_size x)
  have HM := Lib.hid (indexByte_mem x 0)
  have hd : (str x).data.toList = x := str_data x
  by_cases h1 : x = []
  · subst h1
    go_enter Tryz.func89, Tryz.ntmps89
    go_wp2_with fail
    go_ret
    exact ⟨rfl, rfl⟩
  by_cases h3 : x = [46]
  · subst h3
    go_enter Tryz.func89, Tryz.ntmps89
    go_wp2_with fail
    go_ret
    exact ⟨rfl, rfl⟩
  by_cases h4 : x = [46, 46]
  · subst h4
    go_enter Tryz.func89, Tryz.ntmps89
    go_wp2_with fail
    go_ret
    exact ⟨rfl, rfl⟩
  have K1 := Lib.hid (show decide (x ≠ []) = true by simpa using h1)
  have K3 := Lib.hid (show decide (x ≠ [46]) = true by simpa using h3)
  have K4 := Lib.hid (show decide (x ≠ [46, 46]) = true by simpa using h4)
  have KP : Hid (partOk x = (decide (x.length ≤ 48) && decide ((0 : UInt8) ∉ x))) := Lib.hid (by unfold partOk; rw [K1.out, K3.out, K4.out]; simp)
  have KV : Hid ((!x.isEmpty && !x == [46] && !x == [46, 46]) = true) := Lib.hid (by simp [h1, h3, h4])
  go_enter Tryz.func89, Tryz.ntmps89
  rcases Nat.lt_or_ge 48 x.length with h2 | h2
  · have q2 : ¬ (((str x).size : Int) ≤ 48) := by rw [HZ.out]; omega
    have K := Lib.hid (show decide (x.length ≤ 48) = false by simp; omega)
    clear h2
    go_wp2_with fail
    go_ret
    exact ⟨by rw [KP.out, K.out]; rfl, rfl⟩
  have q2 : ((str x).size : Int) ≤ 48 := by rw [HZ.out]; omega
  have K2 := Lib.hid (show decide (x.length ≤ 48) = true by simpa using h2)
  clear h2
  go_wp2_with fail
  refine (indexByte_any (str x) 0 w).mono ?_
  rintro e w' ⟨rfl, rfl⟩
  rw [hd, show (0 : Int).toNat.toUInt8 = (0 : UInt8) from rfl]
  by_cases h5 : (0 : UInt8) ∈ x
  · have q5 : ¬ Lib.indexByte x 0 < 0 := by have := HM.out.2 h5; omega
    have K := Lib.hid (show decide ((0 : UInt8) ∉ x) = false by simpa using h5)
    clear h5
    go_wp2_with fail
    go_ret
    refine ⟨congrArg (fun b => Ending.returned (.bool b)) (a₁ := (!x.isEmpty && !x == [46] && !x == [46, 46] && decide (Lib.indexByte x 0 < 0))) ?_, rfl⟩
    rw [KV.out, KP.out, K2.out, K.out]; simp; omega
  · have q5 : Lib.indexByte x 0 < 0 := by
      rcases Int.lt_or_le (Lib.indexByte x 0) 0 with h | h
      · exact h
      · exact absurd (HM.out.1 h) h5
    have K := Lib.hid (show decide ((0 : UInt8) ∉ x) = true by simpa using h5)
    clear h5
    go_wp2_with fail
    go_ret
    refine ⟨congrArg (fun b => Ending.returned (.bool b)) (a₁ := (!x.isEmpty && !x == [46] && !x == [46, 46])) ?_, rfl⟩
    rw [KV.out, KP.out, K2.out, K.out]; rfl

theorem all_false {L : List (List UInt8)} {i : Nat} {x : List UInt8} (h : L[i]? = some x) (hp : partOk x = false) : L.all partOk = false := by
  rw [List.all_eq_false]
  exact ⟨x, List.mem_of_getElem? h, by rw [hp]; simp⟩
theorem all_true {L : List (List UInt8)} (h : ∀ (i : Nat) x, L[i]? = some x → partOk x = true) : L.all partOk = true := by
  rw [List.all_eq_true]
  intro x hx
  obtain ⟨i, hi⟩ := List.getElem?_of_mem hx
  exact h i x hi
set_option maxRecDepth 100000 in
set_option maxHeartbeats 1000000 in
theorem right_any (p : ByteArray) (X : List (List UInt8)) (w : World) (hX : splitB p.data.toList = X) (hp : p.size ≤ 2097152) :
    Calls Tryz.prog 40 #[.string p] w fun e w' => e = .returned (.bool (rightB p.data.toList)) ∧ Below w.heap.size w w' := by
  have HX0 := Lib.hid hX
  have hlen : p.data.toList.length = p.size := by rw [Array.length_toList]; rfl
  have HR : Hid (rightB p.data.toList = (X.all partOk && (decide (X.length ≤ 12) && decide (p.size ≤ 200)))) := Lib.hid (by unfold rightB; rw [hX, hlen])
  clear hX hlen
  go_enter Tryz.func40, Tryz.ntmps40
  go_wp2_with fail
  refine (pathSplit_any p _ hp).mono ?_
  rintro e w1 ⟨⟨A, n, c, rfl, hn, hnc, hsA⟩, hb1⟩
  rw [HX0.out] at hn hsA
  have HB1 := Lib.hid hb1
  have HSA := Lib.hid hsA
  have HN := Lib.hid hn
  have hmx := hsA.max
  clear hb1 hsA hn
  go_wp2_with fail
  go_loopw [10] (fun a wr => ∃ i : Nat, a = .int .i64 i ∧ i ≤ n ∧ (∀ j x, j < i → X[j]? = some x → partOk x = true) ∧ wr = w1) (fun a _ => n - (intOf a).toNat)
  case atStart => exact ⟨0, rfl, by omega, fun j x h => by omega, rfl⟩
  case round =>
    obtain ⟨i, rfl, hin, hall, rfl⟩ := hrel
    have HA := Lib.hid hall
    clear hall
    rcases Nat.lt_or_ge i n with h | h
    · obtain ⟨b1, o1, x, hA1, hr1, c1⟩ := HSA.out.strRow h
      subst hA1
      have HR1 := Lib.hid hr1
      clear hr1
      go_wp2_with fail
      refine (part_any x _).mono ?_
      rintro e w' ⟨rfl, rfl⟩
      cases hpo : partOk x with
      | false =>
        have K := Lib.hid (all_false HR1.out hpo)
        clear hpo
        go_wp2_with fail
        go_ret
        exact ⟨by rw [HR.out, K.out]; rfl, HB1.out⟩
      | true =>
        have K := Lib.hid hpo
        clear hpo
        go_wp2_with fail
        go_roundw
        case rel => exact ⟨i+1, by go_num, by omega, fun j y hj hy => by
          rcases Nat.lt_or_ge j i with h' | h'
          · exact HA.out j y h' hy
          · obtain rfl : j = i := by omega
            rw [HR1.out] at hy; cases hy; exact K.out, by trivial⟩
        case measure => simp [intOf]; omega
    · obtain rfl : i = n := by omega
      have KA := Lib.hid (all_true (L := X) fun j x hx => HA.out j x (by rw [HN.out]; exact (List.getElem?_eq_some_iff.1 hx).1) hx)
      by_cases h1 : i ≤ 12
      · have q1 : decide ((i : Int) ≤ 12) = true := by simp; omega
        have K1 := Lib.hid (show decide (X.length ≤ 12) = true by rw [← HN.out]; simpa using h1)
        by_cases h2 : p.size ≤ 200
        · have q2 : decide ((p.size : Int) ≤ 200) = true := by simp; omega
          have K2 := Lib.hid (show decide (p.size ≤ 200) = true by simpa using h2)
          clear h1 h2
          go_wp2_with fail
          go_ret
          exact ⟨by rw [HR.out, KA.out, K1.out, K2.out]; rfl, HB1.out⟩
        · have q2 : decide ((p.size : Int) ≤ 200) = false := by simp; omega
          have K2 := Lib.hid (show decide (p.size ≤ 200) = false by simpa using h2)
          clear h1 h2
          go_wp2_with fail
          go_ret
          exact ⟨by rw [HR.out, KA.out, K1.out, K2.out]; rfl, HB1.out⟩
      · have q1 : decide ((i : Int) ≤ 12) = false := by simp; omega
        have K1 := Lib.hid (show decide (X.length ≤ 12) = false by rw [← HN.out]; simpa using h1)
        clear h1
        go_wp2_with fail
        go_ret
        exact ⟨by rw [HR.out, KA.out, K1.out]; rfl, HB1.out⟩
set_option maxRecDepth 100000 in
theorem parent_any (p : ByteArray) (w : World) (hp : p.size ≤ 9223372036854775807) :
    Calls Tryz.prog 128 #[.string p] w fun e w' => e = .returned (.string (str (parentB p.data.toList))) ∧ w' = w := by
  have hle : lastB p.data.toList ≤ p.size := by have := lastB_le p.data.toList; rwa [Array.length_toList] at this
  go_enter Tryz.func128, Tryz.ntmps128
  go_wp2_with fail
  refine (lastIndex_any p w hp).mono ?_
  rintro e w' ⟨rfl, rfl⟩
  have hmx : mxI ((lastB p.data.toList : Int) - 1) 0 = ((lastB p.data.toList - 1 : Nat) : Int) := by unfold mxI; split <;> omega
  have hx : p.extract 0 (lastB p.data.toList - 1) = str (parentB p.data.toList) := by
    rw [extract_str p 0 _ (Nat.zero_le _) (by omega)]; rfl
  have HX := Lib.hid hx
  have hlt : lastB p.data.toList - 1 ≤ p.size := by omega
  clear hx hle
  generalize lastB p.data.toList = m at *
  go_wp2_with fail
  go_ret
  exact ⟨by rw [← HX.out]; rfl, rfl⟩
set_option maxRecDepth 100000 in
theorem base_any (p : ByteArray) (w : World) (hp : p.size ≤ 9223372036854775807) :
    Calls Tryz.prog 124 #[.string p] w fun e w' => e = .returned (.string (str (baseB p.data.toList))) ∧ w' = w := by
  have hle : lastB p.data.toList ≤ p.size := by have := lastB_le p.data.toList; rwa [Array.length_toList] at this
  go_enter Tryz.func124, Tryz.ntmps124
  go_wp2_with fail
  refine (lastIndex_any p w hp).mono ?_
  rintro e w' ⟨rfl, rfl⟩
  have hx : p.extract (lastB p.data.toList) p.size = str (baseB p.data.toList) := by
    rw [extract_str p _ _ hle (Nat.le_refl _), List.take_of_length_le (by rw [List.length_drop, Array.length_toList]; exact Nat.le_refl _)]; rfl
  have HX := Lib.hid hx
  clear hx
  generalize lastB p.data.toList = m at *
  go_wp2_with fail
  go_ret
  exact ⟨by rw [← HX.out]; rfl, rfl⟩
end Go.Proofs.YtlbbehfbjbbckaaGreatDoor
