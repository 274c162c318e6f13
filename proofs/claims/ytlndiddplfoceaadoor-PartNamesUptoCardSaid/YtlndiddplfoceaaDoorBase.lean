import Derived.Test.YtlndiddplfoceaaDoorJP
import Derived.WalkKit
import Derived.WalkSpells
import Derived.WalkLawsBesides
import Derived.BigQuiet
import Derived.Deep.QuietTactic
import Derived.Deep.Upon
import Derived.Deep.AppendLies
import Derived.Lib.AppendStr
import Derived.Lib.Hide
import Derived.Laws.BytesArg
set_option linter.unusedVariables false
set_option linter.unusedSimpArgs false
namespace Go.Proofs.YtlndiddplfoceaaDoor
open Go.RowKit

/-! 1. max and min -/
theorem max2_I (k k' : IntKind) (x y : Int) : Builtin.max2 (.int k x) (.int k' y) = pure (.int k (mxI x y)) := by simp only [Builtin.max2, gt_iff_lt, mxI]
theorem min2_I (k k' : IntKind) (x y : Int) : Builtin.min2 (.int k x) (.int k' y) = pure (.int k (mnI x y)) := by simp only [Builtin.min2, mnI]
theorem max_two_I (ats : Array TypeId) (ty : TypeId) (a b : Value) : Builtin.max_ ats ty #[a, b] = (Builtin.max2 a b >>= fun s => pure s) := by simp only [Builtin.max_, List.foldlM_cons, List.foldlM_nil]
theorem min_two_I (ats : Array TypeId) (ty : TypeId) (a b : Value) : Builtin.min_ ats ty #[a, b] = (Builtin.min2 a b >>= fun s => pure s) := by simp only [Builtin.min_, List.foldlM_cons, List.foldlM_nil]

/-! 2. what a slice reads as: its cells in a row -/
def bv (b : UInt8) : Value := .int .u8 b.toNat
def bys (l : List UInt8) : List Value := l.map bv
theorem bys_length (l : List UInt8) : (bys l).length = l.length := by simp [bys]
theorem bys_append (a b : List UInt8) : bys (a ++ b) = bys a ++ bys b := by simp [bys]
theorem bys_get {l : List UInt8} {j : Nat} {b : UInt8} (h : l[j]? = some b) : (bys l)[j]? = some (bv b) := by simp [bys, h]
theorem bys_one (l : List UInt8) : ∀ u ∈ bys l, u.oneCell' = true := by
  intro u hu; simp only [bys, List.mem_map] at hu; obtain ⟨x, _, rfl⟩ := hu; rfl
theorem strCells_bys (s : ByteArray) : Lib.strCells s = bys s.data.toList := rfl

structure Sl (sz : Nat) (w : World) (A : Option Addr) (n : Nat) (cs : List Value) : Prop where
  len : cs.length = n * sz
  max : n ≤ 9223372036854775807
  at_ : cs = [] ∨ ∃ b o, A = some ⟨b, o, none⟩ ∧ ∀ j v, cs[j]? = some v → w.cell? ⟨b, o + j, none⟩ = some v

theorem Sl.below {sz : Nat} {w w1 : World} {A : Option Addr} {n : Nat} {cs : List Value} (h : Sl sz w A n cs) (hb : Below w.heap.size w w1) : Sl sz w1 A n cs := by
  refine ⟨h.len, h.max, ?_⟩
  rcases h.at_ with h0 | ⟨b, o, rfl, hc⟩
  · exact .inl h0
  · exact .inr ⟨b, o, rfl, fun j v hj => (hb.cell (p := ⟨b, o + j, none⟩) (World.block_lt_of_cell? w _ (hc j v hj))).trans (hc j v hj)⟩
theorem Sl.grown {sz : Nat} {w w1 : World} {A : Option Addr} {n : Nat} {cs : List Value} (h : Sl sz w A n cs) {row : Option Nat} (hg : w.grownBy w1 row) (hne : ∀ a k, A = some a → row = some k → a.block ≠ k) : Sl sz w1 A n cs := by
  refine ⟨h.len, h.max, ?_⟩
  rcases h.at_ with h0 | ⟨b, o, rfl, hc⟩
  · exact .inl h0
  · refine .inr ⟨b, o, rfl, fun j v hj => hg.cell (hc j v hj) ?_⟩
    rcases row with _ | k
    · simp
    · intro e; exact hne _ k rfl rfl (by simpa using e)
theorem Sl.drew {sz : Nat} {w : World} {A : Option Addr} {n : Nat} {cs : List Value} (h : Sl sz w A n cs) : Sl sz w.drew A n cs := ⟨h.len, h.max, h.at_⟩
theorem below_undrew {B : Nat} {w w1 : World} (h : Below B w.drew w1) : Below B w w1 := ⟨h.os, h.tape, h.output, h.size, h.block⟩
theorem Sl.nil (sz : Nat) (w : World) (A : Option Addr) : Sl sz w A 0 [] := ⟨by simp, by omega, .inl rfl⟩
theorem own_shape {w : World} {base : Nat} {e : TypeId} {sz : Nat} {v : Value} {n : Nat} {cs : List Value} (h : w.ownsRow base e sz v n cs) : ∃ A c, v = .slice A n c ∧ n ≤ c ∧ n ≤ 9223372036854775807 := by
  rcases h.2 with ⟨rfl, rfl⟩ | ⟨g, cap, cur, rfl, hb, hh, h1, h2, h3⟩
  · exact ⟨none, 0, rfl, by omega, by omega⟩
  · exact ⟨_, cap, rfl, h1, by unfold maxLen at h2; omega⟩
theorem own_sl {w : World} {base : Nat} {e : TypeId} {sz : Nat} {v : Value} {n : Nat} {cs : List Value} (h : w.ownsRow base e sz v n cs) : ∃ A c, v = .slice A n c ∧ n ≤ c ∧ Sl sz w A n cs ∧ (∀ a, A = some a → base ≤ a.block ∧ v.ownBlock = some a.block) ∧ (A = none → n = 0) := by
  have hx := h.1
  rcases h.2 with ⟨rfl, rfl⟩ | ⟨g, cap, cur, rfl, hb, hh, h1, h2, h3⟩
  · exact ⟨none, 0, rfl, by omega, ⟨by simpa using hx, by omega, .inl (List.eq_nil_of_length_eq_zero (by simpa using hx))⟩, fun a ha => (by cases ha), fun _ => rfl⟩
  · refine ⟨_, cap, rfl, h1, ⟨hx, by unfold maxLen at h2; omega, .inr ⟨g, 0, rfl, fun j v hj => ?_⟩⟩, fun a ha => ?_, fun h => by cases h⟩
    · have := h.cells (g := g) rfl j v hj
      have ha : (⟨g, 0, none⟩ : Addr).add j = ⟨g, 0 + j, none⟩ := by unfold Addr.add; split <;> simp_all
      rwa [ha] at this
    · obtain rfl := Option.some.inj ha; exact ⟨hb, rfl⟩
theorem own_below {w w1 : World} {base : Nat} {e : TypeId} {sz : Nat} {v : Value} {n : Nat} {cs : List Value} (h : w.ownsRow base e sz v n cs) (hb : Below w.heap.size w w1) : w1.ownsRow base e sz v n cs :=
  h.kept ⟨hb.os, hb.tape, hb.output, hb.size, fun k hk _ => hb.block k hk⟩ (row := none) (by cases v.ownBlock <;> simp)
theorem own_base_mono {w : World} {base base' : Nat} {e : TypeId} {sz : Nat} {v : Value} {n : Nat} {cs : List Value} (h : w.ownsRow base e sz v n cs) (hb : base' ≤ base) : w.ownsRow base' e sz v n cs := by
  refine ⟨h.1, ?_⟩
  rcases h.2 with h | ⟨g, cap, cur, h0, h1, h2⟩
  · exact .inl h
  · exact .inr ⟨g, cap, cur, h0, by omega, h2⟩
/-- A row of the call's own takes what a slice holds. -/
theorem run_append_sl {P : Program} {w : World} (base : Nat) (t ty e : TypeId) (i : TypeInfo) (z : Value) (size bytes : Nat) (ht : P.underlying t = some (.slice e)) (hi : P.info? e = some i) (hz : i.zero = some z)
    (hsize : i.size = size) (hby : i.bytes = bytes) (hzs : z.cells.size = size) (hsz : 0 < size)
    {v : Value} {n : Nat} {xs : List Value} (hown : w.ownsRow base e size v n xs)
    {A : Option Addr} {m c : Nat} {news : List Value} (hs : Sl size w A m news) (h1 : ∀ u ∈ news, u.oneCell' = true)
    (h63 : n + m ≤ 9223372036854775807) (hbytes : (n + m) * bytes ≤ 140737488355328) (hbase : base ≤ w.heap.size) :
    ∃ v' w', (Builtin.append_ #[t, t] ty #[v, .slice A m c]).run P w = .ok v' w' ∧ w'.ownsRow base e size v' (n + m) (xs ++ news) ∧ w.grownBy w' v.ownBlock := by
  rcases hs.at_ with h0 | ⟨b, o, rfl, hc⟩
  · subst h0
    obtain rfl : m = 0 := by
      have := hs.len
      simp only [List.length_nil] at this
      rcases Nat.eq_zero_or_pos m with h | h
      · exact h
      · have := Nat.mul_pos h hsz; omega
    obtain ⟨A', c', rfl, hle, _⟩ := own_shape hown
    refine ⟨_, w, ?_, by simpa using hown, ⟨rfl, rfl, rfl, Nat.le_refl _, fun _ _ _ => rfl⟩⟩
    have hs0 : Src P i.size t (.slice A 0 c) 0 [] w := by
      rcases A with _ | a
      · exact Src.ofNil w ht c
      · exact Src.ofSlice w ht a 0 c [] (by simp) (by simp) (by simp)
    have := run_append_nothing w t t ty e i ht hi A' n c' hle _ hs0
    simpa using this
  · obtain ⟨v', w', h1', h2', h3', _⟩ := run_append_own (P := P) (w := w) base t ty e i z size bytes ht hi hz hsize hby hzs hsz v n xs hown ⟨b, o, none⟩ m c news hs.len (fun j u hj => by
      have ha : (⟨b, o, none⟩ : Addr).add j = ⟨b, o + j, none⟩ := by unfold Addr.add; split <;> simp_all
      rw [ha]; exact hc j u hj) h1 (by unfold maxLen; omega) hbytes hbase
    exact ⟨v', w', h1', h2', h3'⟩

/-! 3. a walk that stands still where it is told to -/
def Halted (p : Prop) : Prop := p
theorem halt_in {p : Prop} (h : Halted p) : p := h
theorem Halted.out {p : Prop} (h : p) : Halted p := h

theorem wpList_append_run {P : Program} {w w' : World} {ops : Array Oper} {rest : List Oper} {o : Oper} {a : Act} {Q : Exit → Act → World → Prop} (hgd : o.guard = none) (s x : Operand) (t u : TypeId)
    (ho : o.op = .call { callee := .builtin .append, args := #[s, x], argTypes := #[t, u] }) {v sv xv : Value} (hs : a.eval s = sv) (hx : a.eval x = xv)
    (hr : (Builtin.append_ #[t, u] o.type #[sv, xv]).run P w = .ok v w')
    (h : wpList P ops Q rest (a.put o.dst v) w') : wpList P ops Q (o :: rest) a w :=
  wpList_plain hgd fun _ hK => by
    unfold Oper.wp execOp
    simp only [ho, resolve, invoke, builtin, Sem.run_bind, Sem.run_pure, Result.andThen_ok, List.map_toArray, List.map_cons, List.map_nil, hs, hx, hr]
    exact hK _ _ h

/-- One element more in a row of the call's own: it lies in a new block first. -/
theorem run_append_one {P : Program} {w0 w : World} (base : Nat) (t ty e : TypeId) (i : TypeInfo) (z : Value) (size bytes : Nat) (ht : P.underlying t = some (.slice e)) (hi : P.info? e = some i) (hz : i.zero = some z)
    (hsize : i.size = size) (hby : i.bytes = bytes) (hzs : z.cells.size = size) (hsz : 0 < size)
    {v : Value} {n : Nat} {xs : List Value} (hown : w.ownsRow base e size v n xs) (hb : Below base w0 w)
    (news : List Value) (hl : news.length = size) (h1 : ∀ u ∈ news, u.oneCell' = true) (c : Nat)
    (h63 : n + 1 ≤ 9223372036854775807) (hbytes : (n + 1) * bytes ≤ 140737488355328) (hbase : base ≤ w.heap.size) :
    ∃ v' w', (Builtin.append_ #[t, t] ty #[v, .slice (some ⟨w.heap.size, 0, none⟩) 1 c]).run P (w.alloc (.cells news.toArray e)) = .ok v' w' ∧ w'.ownsRow base e size v' (n + 1) (xs ++ news) ∧ (w.alloc (.cells news.toArray e)).grownBy w' v.ownBlock ∧ Below base w0 w' := by
  have hown1 := hown.alloc (.cells news.toArray e)
  have hs : Sl size (w.alloc (.cells news.toArray e)) (some ⟨w.heap.size, 0, none⟩) 1 news := ⟨by omega, by omega, .inr ⟨_, 0, rfl, fun j u hj => by
    rw [World.cell?_alloc_new]; simpa using hj⟩⟩
  obtain ⟨v', w', h2, h3, h4⟩ := run_append_sl (P := P) base t ty e i z size bytes ht hi hz hsize hby hzs hsz hown1 (c := c) hs h1 h63 hbytes (by rw [World.size_alloc]; omega)
  exact ⟨v', w', h2, h3, h4, (hb.alloc hbase _).grown h4 (by rw [World.size_alloc]; omega) (fun k hk => (hown.lt k hk).1)⟩

/-! 4. bits of int -/
theorem one_int (k : IntKind) (n : Int) : ∀ u ∈ [Value.int k n], u.oneCell' = true := by intro u hu; simp only [List.mem_singleton] at hu; subst hu; rfl
theorem ret2_eq {k1 k2 : IntKind} {a b a' b' : Int} (h1 : a = a') (h2 : b = b') : Ending.returned (.tuple #[.int k1 a, .int k2 b]) = Ending.returned (.tuple #[.int k1 a', .int k2 b']) := by rw [h1, h2]
theorem ret3_eq {k1 k2 k3 : IntKind} {a b c a' b' c' : Int} (h1 : a = a') (h2 : b = b') (h3 : c = c') : Ending.returned (.tuple #[.int k1 a, .int k2 b, .int k3 c]) = Ending.returned (.tuple #[.int k1 a', .int k2 b', .int k3 c']) := by rw [h1, h2, h3]
theorem wraps_i64' (n : Int) (h₀ : 0 ≤ n) (h₁ : n < 2 ^ 63) : IntKind.i64.wrap n = n := by rw [IntKind.wrap_i64]; omega
theorem i64_or_n (a b : Nat) (ha : a < 2 ^ 63) (hb : b < 2 ^ 63) : bits .or .i64 (a : Int) (b : Int) = ((a ||| b : Nat) : Int) := (bits_nat .i64 63 (by decide) wraps_i64' a b ha hb).2
theorem i64_and_n (a b : Nat) (ha : a < 2 ^ 63) (hb : b < 2 ^ 63) : bits .and .i64 (a : Int) (b : Int) = ((a &&& b : Nat) : Int) := (bits_nat .i64 63 (by decide) wraps_i64' a b ha hb).1
theorem u8_and127 (x : Nat) (h : x < 256) : bits .and .u8 (x : Int) 127 = ((x % 128 : Nat) : Int) := by
  have := bits_mask .u8 8 (by decide) wraps_u8 7 (by decide) (x : Int) (by omega) (by omega)
  rw [show ((2 : Int) ^ 7 - 1) = 127 by decide, show ((2 : Int) ^ 7) = 128 by decide] at this
  rw [this]; omega
theorem or_128 (x : Nat) (h : x < 128) : x ||| 128 = x + 128 := by
  have := Nat.two_pow_add_eq_or_of_lt (i := 7) (b := x) h 1
  rw [Nat.or_comm]; simp only [Nat.mul_one, show (2:Nat)^7 = 128 from rfl] at this; omega

/-! 5. bytes and texts -/
theorem str_data (l : List UInt8) : (str l).data.toList = l := by simp [str]
theorem str_size (l : List UInt8) : (str l).size = l.length := by simp [str, ByteArray.size]
theorem str_toList (l : List UInt8) : (str l).toList = l := by rw [ByteArray.toList_eq]; simp [str]
theorem str_of (s : ByteArray) : str s.data.toList = s := by simp [str]
theorem strOfNums_bys (l : List UInt8) : strOfNums (l.map fun b => (b.toNat : Int)) = str l := by
  have : (fun n : Int => UInt8.ofNat n.toNat) ∘ (fun b : UInt8 => (b.toNat : Int)) = id := by funext b; simp
  simp [strOfNums, str, this]
theorem run_conv_str {P : Program} {w : World} {src e : TypeId} (hs : P.underlying src = some (.slice e)) (he : P.underlying e = some (.int .u8)) {dst : TypeId} (hd : P.underlying dst = some .string)
    {A : Option Addr} {n c : Nat} {bs : List UInt8} (h : Sl 1 w A n (bys bs)) : (convert src dst (.slice A n c)).run P w = .ok (.string (str bs)) w := by
  have hl : bs.length = n := by have := h.len; simpa [bys] using this
  rcases A with _ | a
  · have : bs = [] := by
      rcases h.at_ with h0 | ⟨b, o, h1, _⟩
      · simpa [bys] using h0
      · cases h1
    subst this
    exact run_convert_bytes_nil w src e hs he n c dst hd
  · rcases h.at_ with h0 | ⟨b, o, h1, hc⟩
    · have : bs = [] := by simpa [bys] using h0
      subst this
      obtain rfl : n = 0 := by simpa using hl.symm
      rw [run_convert_bytes_string w src dst e _ 0 c hs he hd]
      simp [Conv.bytesToString, str, loadCells, loadCellsFrom, Sem.run_bind, go_sem]; rfl
    · obtain rfl := Option.some.inj h1
      rw [run_convert_bytes_arg w src e hs he b o n c (bs.map fun b => (b.toNat : Int)) (by simpa using hl) (fun i hi => ?_) dst hd, strOfNums_bys]
      have := hc i (bv bs[i]) (bys_get (List.getElem?_eq_getElem (by omega)))
      rw [this]
      simp [bv, List.getElem?_eq_getElem (show i < bs.length by omega)]
def subAt (A : Option Addr) (lo c s : Nat) : Option Addr := if c = lo then A else A.map (·.add (lo * s))
theorem run_slice_sub {P : Program} {w : World} {T e : TypeId} {i : TypeInfo} (ht : P.underlying T = some (.slice (P.elem T))) (he : P.elem T = e) (hi : P.info? e = some i) {s : Nat} (hsz : i.size = s) (A : Option Addr) (n c lo hi' : Nat) (h1 : lo ≤ hi') (h2 : hi' ≤ c) (kl kh : IntKind) (l h : Int) (hl : l = lo) (hh : h = hi') :
    (Instr.slice T (.slice A n c) (some (.int kl l)) (some (.int kh h)) none).run P w = .ok (.slice (subAt A lo c s) (hi' - lo) (c - lo)) w := by
  subst hl; subst hh
  rw [run_slice_lh (ht := ht) (len := n) (kl := kl) (kh := kh) (l := lo) (h := hi') (h0 := by omega) (h1 := by omega) (h2 := by omega)]
  have : (sizeOf (P.elem T)).run P w = .ok s w := by rw [he]; simp [sizeOf, run_typeInfo w hi, hsz]
  rw [this]; simp [Result.andThen, sliced, subAt]
theorem run_slice_from {P : Program} {w : World} {T e : TypeId} {i : TypeInfo} (ht : P.underlying T = some (.slice (P.elem T))) (he : P.elem T = e) (hi : P.info? e = some i) {s : Nat} (hsz : i.size = s) (A : Option Addr) (n c lo : Nat) (h1 : lo ≤ n) (kl : IntKind) (l : Int) (hl : l = lo) :
    (Instr.slice T (.slice A n c) (some (.int kl l)) none none).run P w = .ok (.slice (subAt A lo c s) (n - lo) (c - lo)) w := by
  subst hl
  rw [run_slice_l (ht := ht) (len := n) (kl := kl) (l := lo) (h0 := by omega) (h1 := by omega)]
  have : (sizeOf (P.elem T)).run P w = .ok s w := by rw [he]; simp [sizeOf, run_typeInfo w hi, hsz]
  rw [this]; simp [Result.andThen, sliced, subAt]
theorem run_slice_to {P : Program} {w : World} {T e : TypeId} {i : TypeInfo} (ht : P.underlying T = some (.slice (P.elem T))) (he : P.elem T = e) (hi : P.info? e = some i) {s : Nat} (hsz : i.size = s) (A : Option Addr) (n c hi' : Nat) (h2 : hi' ≤ c) (kh : IntKind) (h : Int) (hh : h = hi') :
    (Instr.slice T (.slice A n c) none (some (.int kh h)) none).run P w = .ok (.slice (subAt A 0 c s) hi' c) w := by
  subst hh
  rw [run_slice_h (ht := ht) (len := n) (kh := kh) (h := hi') (h0 := by omega) (h2 := by omega)]
  have : (sizeOf (P.elem T)).run P w = .ok s w := by rw [he]; simp [sizeOf, run_typeInfo w hi, hsz]
  rw [this]; simp [Result.andThen, sliced, subAt]
theorem Sl.from {w : World} {A : Option Addr} {n : Nat} {bs : List UInt8} (h : Sl 1 w A n (bys bs)) (lo c : Nat) (h2 : lo ≤ n) (hc : n ≤ c) (sub : ∀ lo hi c : Nat, lo ≤ hi → hi ≤ n → n ≤ c → Sl 1 w (subAt A lo c 1) (hi - lo) (bys ((bs.drop lo).take (hi - lo)))) :
    Sl 1 w (subAt A lo c 1) (n - lo) (bys (bs.drop lo)) := by
  have hl : bs.length = n := by have := h.len; simpa [bys] using this
  have := sub lo n c h2 (Nat.le_refl _) hc
  rwa [List.take_of_length_le (by rw [List.length_drop]; omega)] at this
theorem Sl.sub {w : World} {A : Option Addr} {n : Nat} {bs : List UInt8} (h : Sl 1 w A n (bys bs)) (lo hi c : Nat) (h1 : lo ≤ hi) (h2 : hi ≤ n) (hc : n ≤ c) :
    Sl 1 w (subAt A lo c 1) (hi - lo) (bys ((bs.drop lo).take (hi - lo))) := by
  have hl : bs.length = n := by have := h.len; simpa [bys] using this
  refine ⟨by simp [bys]; omega, by have := h.max; omega, ?_⟩
  rcases Nat.eq_or_lt_of_le h1 with h3 | h3
  · left; subst h3; simp [bys]
  · right
    rcases h.at_ with h0 | ⟨b, o, rfl, hcell⟩
    · have : bs = [] := by simpa [bys] using h0
      subst this; simp at hl; omega
    · refine ⟨b, o + lo, ?_, fun j v hj => ?_⟩
      · unfold subAt; rw [if_neg (by omega)]; simp only [Option.map_some, Addr.add, Nat.mul_one]; split <;> simp_all
      · have : (bys bs)[lo + j]? = some v := by
          simp only [bys, List.getElem?_map] at hj ⊢
          rw [List.getElem?_take] at hj
          split at hj
          · rw [List.getElem?_drop] at hj; exact hj
          · cases hj
        rw [Nat.add_assoc]; exact hcell _ _ this
end Go.Proofs.YtlndiddplfoceaaDoor
