import Derived.Test.YtlndiddplfoceaaBo
import Derived.Laws.CopyOwn
set_option linter.unusedVariables false
set_option linter.unusedSimpArgs false
namespace Go.Proofs.Ytlndiddplfoceaa
open Go.RowKit

theorem wpList_copy_run {P : Program} {w w' : World} {ops : Array Oper} {rest : List Oper} {o : Oper} {a : Act} {Q : Exit → Act → World → Prop} (hgd : o.guard = none) (s x : Operand) (t u : TypeId)
    (ho : o.op = .call { callee := .builtin .copy, args := #[s, x], argTypes := #[t, u] }) {v sv xv : Value} (hs : a.eval s = sv) (hx : a.eval x = xv)
    (hr : (Builtin.copy_ #[t, u] o.type #[sv, xv]).run P w = .ok v w')
    (h : wpList P ops Q rest (a.put o.dst v) w') : wpList P ops Q (o :: rest) a w :=
  wpList_plain hgd fun _ hK => by
    unfold Oper.wp execOp
    simp only [ho, resolve, invoke, builtin, Sem.run_bind, Sem.run_pure, Result.andThen_ok, List.map_toArray, List.map_cons, List.map_nil, hs, hx, hr]
    exact hK _ _ h
theorem run_copy_any {P : Program} (w : World) (t ty e T : TypeId) (hu : P.underlying t = some (.slice e)) (hz : (P.info? e).map (·.size) = some 1)
    (D : Option Addr) (g off dLen dCap : Nat) (cs : List Value) (hk : Blk w g T cs) (A : Option Addr) (m c : Nat) (b : List UInt8) (hs : Sl 1 w A m (bys b)) (hd : 0 < m → D = some ⟨g, off, none⟩) (hm : m ≤ dLen) (hfit : off + m ≤ cs.length) :
    ∃ w', (Builtin.copy_ #[t, t] ty #[.slice D dLen dCap, .slice A m c]).run P w = .ok (.int .i64 m) w' ∧ Blk w' g T (cs.take off ++ (bys b ++ cs.drop (off + m))) ∧ (∀ B w0, B ≤ g → Below B w0 w → Below B w0 w') := by
  have hbl : b.length = m := by have := hs.len; simpa [bys] using this
  rcases Nat.eq_zero_or_pos m with h0 | hpos
  · subst h0
    have hbn : b = [] := List.eq_nil_of_length_eq_zero hbl
    refine ⟨w, run_copy_none w t t ty e D A dLen dCap 0 c hu hz (Nat.zero_min _), ?_, fun _ _ _ h => h⟩
    subst hbn
    simpa [bys] using hk
  · rw [hd hpos]
    rcases hs.at_ with h0 | ⟨ab, ao, rfl, hc⟩
    · have := congrArg List.length h0; rw [bys_length, hbl] at this; simp at this; omega
    · have hl : (bys b).length = m := by rw [bys_length, hbl]
      have hr := run_copy_row (P := P) w t t ty e g off dLen dCap ⟨ab, ao, none⟩ m c cs.toArray T (bys b) hu hz hk (by rw [hl]; exact (Nat.min_eq_left hm).symm) (fun j v hj => by
        have ha : (⟨ab, ao, none⟩ : Addr).add j = ⟨ab, ao + j, none⟩ := by unfold Addr.add; split <;> simp_all
        rw [ha]; exact hc j v hj) (by rw [hl]; simpa using hfit) (bys_one _)
      rw [hl, List.append_assoc] at hr
      exact ⟨_, hr, Blk.setRow hk _, fun B w0 hB h => below_setRow h hB _⟩
set_option maxRecDepth 100000 in
set_option maxHeartbeats 1000000 in
theorem both_cap (A B : Option Addr) (n c m d : Nat) (a b : List UInt8) (w : World) (ha : Sl 1 w A n (bys a)) (hb : Sl 1 w B m (bys b)) (hn : n ≤ 1099511627776) (hm : m ≤ 1099511627776) :
    Calls Try.prog 6 #[.slice A n c, .slice B m d] w fun e w' => ∃ R k, e = .returned (.slice R (n + m) k) ∧ Sl 1 w' R (n + m) (bys (a ++ b)) ∧ Below w.heap.size w w' ∧ n + m ≤ k := by
  obtain ⟨j0, ji, jz0, jz1, jz2⟩ := info_parts infoB
  have hal : a.length = n := by have := ha.len; simpa [bys] using this
  have hbl : b.length = m := by have := hb.len; simpa [bys] using this
  have hmk := run_make (P := Try.prog) (w := w) 23 5 j0 (.int .u8 0) Try.underlying23 ji jz0 .i64 .i64 ((n : Int) + m) ((n : Int) + m) (by omega) (by omega) (by rw [jz2]; omega) (by omega)
  rw [show ((n : Int) + m).toNat = n + m by omega, jz1] at hmk
  have hlen0 : (madeCells (Value.int .u8 0).cells ((n + m) * 1)).toList.length = n + m := by rw [Array.length_toList, size_madeCells, Nat.mul_one]
  have hk0 := Blk.newA w 5 (madeCells (Value.int .u8 0).cells ((n + m) * 1))
  have hb0 : Below w.heap.size w (w.alloc (.cells (madeCells (Value.int .u8 0).cells ((n + m) * 1)) 5)) := (Below.refl _ _).alloc (Nat.le_refl _) _
  generalize hw1 : w.alloc (.cells (madeCells (Value.int .u8 0).cells ((n + m) * 1)) 5) = w1 at *
  clear hw1
  generalize (madeCells (Value.int .u8 0).cells ((n + m) * 1)).toList = L at *
  obtain ⟨w2, hcp1, hk2, hB2⟩ := run_copy_any (P := Try.prog) w1 23 3 5 5 Try.underlying23 (by kernel_rfl) (some ⟨w.heap.size, 0, none⟩) w.heap.size 0 (n + m) (n + m) L hk0 A n c a (ha.below hb0) (fun _ => rfl) (by omega) (by omega)
  have hb2 := hB2 _ _ (Nat.le_refl _) hb0
  have hsc := run_slice_from (P := Try.prog) (w := w2) underB elemB ji jz1 (some ⟨w.heap.size, 0, none⟩) (n + m) (n + m) n (by omega) .i64 n rfl
  rw [Nat.add_sub_cancel_left] at hsc
  have hl2 : (L.take 0 ++ (bys a ++ L.drop (0 + n))).length = n + m := by simp [bys, hal, hlen0]
  obtain ⟨w3, hcp2, hk3, hB3⟩ := run_copy_any (P := Try.prog) w2 23 3 5 5 Try.underlying23 (by kernel_rfl) (subAt (some ⟨w.heap.size, 0, none⟩) n (n + m) 1) w.heap.size n m m _ hk2 B m d b (hb.below hb2) (fun h => by
    unfold subAt; rw [if_neg (by omega)]; simp [Addr.add]; try omega) (by omega) (by omega)
  have hb3 := hB3 _ _ (Nat.le_refl _) hb2
  have hsl : Sl 1 w3 (some ⟨w.heap.size, 0, none⟩) (n + m) (bys (a ++ b)) := by
    have e1 : L.take 0 ++ (bys a ++ L.drop (0 + n)) = bys a ++ L.drop n := by rw [List.take_zero, List.nil_append, Nat.zero_add]
    have e2 : (bys a ++ L.drop n).take n = bys a := List.take_left' (by rw [bys_length, hal])
    have e3 : (bys a ++ L.drop n).drop (n + m) = [] := List.drop_eq_nil_of_le (by rw [← e1, hl2]; exact Nat.le_refl _)
    rw [e1, e2, e3, List.append_nil, ← bys_append] at hk3
    refine hk3.sl (o := 0) ?_ (by rw [bys_length, List.length_append, hal, hbl, Nat.mul_one]) (by omega)
    rw [List.drop_zero, List.take_of_length_le (by rw [bys_length, List.length_append, hal, hbl, Nat.mul_one]; exact Nat.le_refl _)]
  have R := Lib.hid (And.intro hsl hb3)
  have sz := subAt (some ⟨w.heap.size, 0, none⟩) n (n + m) 1
  clear hsl hb3 hk3 hB3 hl2 hb2 hk2 hB2 hb0 hk0 hlen0 ji jz0 jz1 jz2 ha hb hal hbl sz
  go_enter Try.func6, Try.ntmps6
  go_wp2_with (first | (refine wpList_copy_run rfl _ _ _ _ rfl rfl rfl hcp1 ?_) | (refine wpList_copy_run rfl _ _ _ _ rfl rfl rfl hcp2 ?_))
  go_ret
  exact ⟨_, _, rfl, R.out.1, R.out.2, Nat.le_refl _⟩
theorem both_any (A B : Option Addr) (n c m d : Nat) (a b : List UInt8) (w : World) (ha : Sl 1 w A n (bys a)) (hb : Sl 1 w B m (bys b)) (hn : n ≤ 1099511627776) (hm : m ≤ 1099511627776) :
    Calls Try.prog 6 #[.slice A n c, .slice B m d] w fun e w' => ∃ R k, e = .returned (.slice R (n + m) k) ∧ Sl 1 w' R (n + m) (bys (a ++ b)) ∧ Below w.heap.size w w' :=
  (both_cap A B n c m d a b w ha hb hn hm).mono fun _ _ ⟨R, k, h1, h2, h3, _⟩ => ⟨R, k, h1, h2, h3⟩
end Go.Proofs.Ytlndiddplfoceaa
