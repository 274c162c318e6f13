import Derived.Test.YtlndiddplfoceaaDoorBlk
import Derived.Maps.AppendAt
import Derived.Laws.IdiomStrings
import Derived.Laws.MakeOwn
set_option linter.unusedVariables false
set_option linter.unusedSimpArgs false
namespace Go.Proofs.YtlndiddplfoceaaDoor
open Go.RowKit

/-- '[]byte(s)': a new row of the string's bytes. -/
theorem conv_bytes {P : Program} (w : World) (src dst e : TypeId) (s : ByteArray) (hs : P.underlying src = some .string) (hd : P.underlying dst = some (.slice e)) (he : P.underlying e = some (.int .u8)) (hsz : s.size ≤ 9223372036854775807) :
    ∃ c w', (convert src dst (.string s)).run P w = .ok (.slice (some ⟨w.heap.size, 0, none⟩) s.size c) w' ∧ s.size ≤ c ∧ Sl 1 w' (some ⟨w.heap.size, 0, none⟩) s.size (bys s.data.toList) ∧ Below w.heap.size w w' ∧ w.heap.size < w'.heap.size := by
  refine ⟨_, _, run_bytes_of_string w src dst e s hs hd he, grownCap_ge _ _ _ _, ⟨?_, hsz, .inr ⟨_, 0, rfl, fun j v hj => ?_⟩⟩, ((Below.refl _ _).drew).alloc (Nat.le_refl _) _, by rw [World.size_alloc]; exact Nat.lt_succ_self _⟩
  · rw [bys_length, Nat.mul_one]; rfl
  · have hjs : j < s.data.size := by
      have := (List.getElem?_eq_some_iff.1 hj).1
      rw [bys_length] at this; simpa using this
    rw [Nat.zero_add]
    refine (cell_of_row _ w.drew.heap.size _ _ _ _ (heap_alloc_new w.drew _)).trans ?_
    rw [bytesRow_at s _ j hjs, ← hj]
    simp only [bys, List.getElem?_map, Array.getElem?_toList]
    rw [Array.getElem?_eq_getElem hjs]; rfl
theorem run_append_at {P : Program} {w : World} (base : Nat) (t ty e : TypeId) (i : TypeInfo) (z : Value) (size bytes : Nat) (ht : P.underlying t = some (.slice e)) (hi : P.info? e = some i) (hz : i.zero = some z)
    (hsize : i.size = size) (hby : i.bytes = bytes) (hzs : z.cells.size = size) (hsz : 0 < size)
    {v : Value} {n : Nat} {xs : List Value} (hown : w.ownsRow base e size v n xs)
    {A : Option Addr} {m c : Nat} {news : List Value} (hs : Sl size w A m news) (hm : 0 < m) (h1 : ∀ u ∈ news, u.oneCell' = true)
    (h63 : n + m ≤ 9223372036854775807) (hbytes : (n + m) * bytes ≤ 140737488355328) (hbase : base ≤ w.heap.size) :
    ∃ v' w', (Builtin.append_ #[t, t] ty #[v, .slice A m c]).run P w = .ok v' w' ∧ w'.ownsRow base e size v' (n + m) (xs ++ news) ∧ w.grownBy w' v.ownBlock ∧ (v'.ownBlock = v.ownBlock ∨ v'.ownBlock = some w.heap.size) := by
  rcases hs.at_ with h0 | ⟨b, o, rfl, hc⟩
  · subst h0
    have := hs.len
    simp only [List.length_nil] at this
    have := Nat.mul_pos hm hsz
    omega
  · obtain ⟨v', w', h1', h2', h3', h4'⟩ := run_append_own_at (P := P) (w := w) base t ty e i z size bytes ht hi hz hsize hby hzs hsz v n xs hown ⟨b, o, none⟩ m c news hs.len (fun j u hj => by
      have ha : (⟨b, o, none⟩ : Addr).add j = ⟨b, o + j, none⟩ := by unfold Addr.add; split <;> simp_all
      rw [ha]; exact hc j u hj) h1 (by unfold maxLen; omega) hbytes hbase
    exact ⟨v', w', h1', h2', h3', h4'.2⟩
end Go.Proofs.YtlndiddplfoceaaDoor
