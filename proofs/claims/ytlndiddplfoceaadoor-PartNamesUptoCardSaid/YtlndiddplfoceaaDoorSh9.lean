import Derived.Test.YtlndiddplfoceaaDoorSh8
set_option linter.unusedVariables false
set_option linter.unusedSimpArgs false
namespace Go.Proofs.YtlndiddplfoceaaDoor
open Go.RowKit

set_option maxRecDepth 100000 in
set_option maxHeartbeats 1000000 in
theorem write_nil (g : Nat) (x : Shs) (n : Int) (A : Option Addr) (c : Nat) (w : World) (hx : ShOk x) (hs : StX w g x n) (hn0 : 0 ≤ n) (hn : n ≤ 4611686018427387904) :
    Calls Tryd.prog 17 #[.pointer (some ⟨g, 0, none⟩), .slice A 0 c] w fun e w' => e = .returned (.tuple #[]) ∧ StX w' g x n ∧ w.grownBy w' (some g) := by
  have c73 := Blk.cell hs 73
  rw [stC_at73 rfl hx.1] at c73
  have f73 := Blk.frozen hs 73
  have HS := Lib.hid hs
  have HX := Lib.hid hx
  clear hs hx
  go_enter Tryd.func17, Tryd.ntmps17
  go_wp2_with fail
  have S1 := Blk.set HS.out 73 (.int .i64 n)
  rw [stC_n rfl HX.out.1] at S1
  have hg1 : w.grownBy (w.setCell ⟨g, 73, none⟩ (.int .i64 n)) (some g) := grown_set ⟨rfl, rfl, rfl, Nat.le_refl _, fun _ _ _ => rfl⟩ 73 _
  have R := Lib.hid (And.intro (show StX (w.setCell ⟨g, 73, none⟩ (.int .i64 n)) g x n from S1) hg1)
  clear S1 hg1 c73 f73
  generalize w.setCell ⟨g, 73, none⟩ (.int .i64 n) = w1 at *
  go_loopw [1] (fun v wq => v = .slice A 0 c ∧ wq = w1) (fun v _ => 0)
  case atStart => exact ⟨rfl, rfl⟩
  case round =>
    obtain ⟨rfl, rfl⟩ := hrel
    go_wp2_with fail
    go_end0
    exact ⟨rfl, R.out.1, R.out.2⟩

def shs0 : Shs := ⟨h0S, zeroB, 0⟩
/-- SHA-256. -/
def shaB (b : List UInt8) : List UInt8 := sumX (absorb b.length shs0 b) b.length
theorem absorb_ok : ∀ (f : Nat) (x : Shs) (b : List UInt8), ShOk x → ShOk (absorb f x b) := by
  intro f
  induction f with
  | zero => intro x b h; exact h
  | succ f ih => intro x b h; rw [absorb]; split; exact h; exact ih _ _ (fillS_ok h b)
theorem shs0_ok : ShOk shs0 := by unfold ShOk; exact ⟨rfl, by decide⟩

set_option maxRecDepth 100000 in
set_option maxHeartbeats 1000000 in
theorem sum_any (A : Option Addr) (n c : Nat) (b : List UInt8) (w : World) (hb : Sl 1 w A n (bys b)) (hnc : n ≤ c) (hn : n ≤ 1152921504606846976) :
    Calls Tryd.prog 10 #[.slice A n c] w fun e w' => e = .returned (.string (str (shaB b))) ∧ Below w.heap.size w w' := by
  have HBL := Lib.hid (show b.length = n by have := hb.len; simpa [bys] using this)
  have HB := Lib.hid hb
  clear hb
  have key : ∀ (g : Nat) (w1 : World), StX w1 g shs0 0 → w.heap.size ≤ g → Below w.heap.size w w1 →
      Calls Tryd.prog 17 #[.pointer (some ⟨g, 0, none⟩), .slice A n c] w1 fun e w' => e = .returned (.tuple #[]) ∧ StX w' g (absorb n shs0 b) n ∧ w1.grownBy w' (some g) := by
    intro g w1 hst hg hbel
    rcases Nat.eq_zero_or_pos n with h0 | hpos
    · have hbn : b = [] := List.eq_nil_of_length_eq_zero (by have := HBL.out; omega)
      subst h0
      refine (write_nil g shs0 0 A c w1 shs0_ok hst (by omega) (by omega)).mono ?_
      rintro e w' ⟨rfl, h1, h2⟩
      exact ⟨rfl, by rw [absorb]; exact h1, h2⟩
    · have hsl := HB.out.below hbel
      refine (write_any g shs0 0 A n c b w1 shs0_ok hst hsl hnc ?_ (by omega) (by omega)).mono ?_
      · intro a ha
        rcases HB.out.at_ with h0 | ⟨ab, ao, rfl, hc⟩
        · have := congrArg List.length h0; rw [bys_length, HBL.out] at this; simp at this; omega
        · cases ha
          obtain ⟨v, hv⟩ : ∃ v, (bys b)[0]? = some v := ⟨_, List.getElem?_eq_getElem (by rw [bys_length, HBL.out]; omega)⟩
          have := World.block_lt_of_cell? w _ (hc 0 v hv)
          simp only at this ⊢; omega
      · rintro e w' ⟨rfl, h1, h2⟩
        exact ⟨rfl, by rw [Int.zero_add] at h1; exact h1, h2⟩
  have KEY := Lib.hid key
  clear key
  go_enter Tryd.func10, Tryd.ntmps10
  go_wp2_with fail
  refine (new_any w).mono ?_
  rintro e w1 ⟨g, rfl, hst, hg, hb1⟩
  have HST := Lib.hid hst
  have HB1 := Lib.hid hb1
  clear hst hb1
  go_wp2_with fail
  refine (KEY.out g w1 HST.out hg HB1.out).mono ?_
  rintro e w2 ⟨rfl, hst2, hg2⟩
  have HST2 := Lib.hid hst2
  have HB2 := Lib.hid (HB1.out.grown hg2 HB1.out.size (fun k hk => by cases hk; exact hg))
  clear hst2 hg2
  go_wp2_with fail
  refine (msum_any g (absorb n shs0 b) n w2 (absorb_ok _ _ _ shs0_ok) HST2.out hn).mono ?_
  rintro e w3 ⟨rfl, hb3⟩
  have HB3 := Lib.hid (HB2.out.trans (hb3.mono HB2.out.size))
  clear hb3
  go_wp2_with fail
  go_ret
  exact ⟨by rw [shaB, HBL.out]; rfl, HB3.out⟩
end Go.Proofs.YtlndiddplfoceaaDoor
