import Derived.Test.YtlndiddplfoceaaOps
set_option linter.unusedVariables false
set_option linter.unusedSimpArgs false
namespace Go.Proofs.Ytlndiddplfoceaa
open Go.RowKit

set_option maxRecDepth 100000 in
set_option maxHeartbeats 1000000 in
theorem rboth_any (A B : Option Addr) (n c m d : Nat) (a b : List UInt8) (w : World) (ha : Sl 1 w A n (bys a)) (hb : Sl 1 w B m (bys b)) (hn : n ≤ 1099511627776) (hm : m ≤ 1099511627776) :
    Calls Try.prog 7 #[.slice A n c, .slice B m d] w fun e w' => ∃ v, e = .returned v ∧ w'.ownsRow w.heap.size 5 1 v (n + m) (bys (a ++ b)) ∧ Below w.heap.size w w' := by
  obtain ⟨j0, ji, jz0, jz1, jz2⟩ := info_parts infoB
  obtain ⟨v1, w1, hap1, hown1, hg1⟩ := run_append_sl (P := Try.prog) (w := w) w.heap.size 23 23 5 j0 _ 1 1 Try.underlying23 ji jz0 jz1 jz2 rfl (by decide) (World.ownsRow_nil _ _ _ _) (c := c) ha (bys_one _) (by omega) (by omega) (Nat.le_refl _)
  have hb1 : Below w.heap.size w w1 := (Below.refl _ _).grown hg1 (Nat.le_refl _) (by simp [Value.ownBlock])
  obtain ⟨v2, w2, hap2, hown2, hg2⟩ := run_append_sl (P := Try.prog) (w := w1) w.heap.size 23 23 5 j0 _ 1 1 Try.underlying23 ji jz0 jz1 jz2 rfl (by decide) hown1 (c := d) (hb.below hb1) (bys_one _) (by omega) (by omega) hb1.size
  have hb2 := hb1.grown hg2 hb1.size (fun k hk => (hown1.lt k hk).1)
  rw [Nat.zero_add, List.nil_append, ← bys_append] at hown2
  have R := Lib.hid (And.intro hown2 hb2)
  clear hown2 hb2 hg2 hown1 hg1 hb1 ji jz0 jz1 jz2 ha hb
  go_enter Try.func7, Try.ntmps7
  go_wp2_with (at_builtin; refine halt_in ?_)
  refine Halted.out (wpList_append_run rfl _ _ _ _ rfl rfl rfl hap1 ?_)
  clear hap1
  go_wp2_with (at_builtin; refine halt_in ?_)
  refine Halted.out (wpList_append_run rfl _ _ _ _ rfl rfl rfl hap2 ?_)
  clear hap2
  go_wp2_with fail
  go_ret
  exact ⟨_, rfl, R.out.1, R.out.2⟩
end Go.Proofs.Ytlndiddplfoceaa
