import Derived.Test.YthkjnpbbgfagkaaDoorAlike
import Derived.Test.YthkjnpbbgfagkaaDoorL6A
import Derived.Test.YthkjnpbbgfagkaaDoorJS
import Derived.Deep.RegionLaw
import Derived.IntWalk
set_option linter.unusedVariables false
set_option linter.unusedSimpArgs false
namespace Go.Proofs.YthkjnpbbgfagkaaDoor
open Go.RowKit Go.Maps

theorem encs_drop : ∀ (l : List Rec) (j : Nat), (encs l).drop (j * 4) = encs (l.drop j) := by
  intro l
  induction l with
  | nil => intro j; simp [encs]
  | cons r l ih =>
    intro j
    cases j with
    | zero => simp [encs]
    | succ j =>
      have e : encs (r :: l) = encR r ++ encs l := rfl
      rw [List.drop_succ_cons, e, List.drop_append, List.drop_of_length_le (by simp [encR]; omega), ← ih, List.nil_append]
      congr 1
      simp [encR]; omega
theorem Sl.suf {sz : Nat} {w : World} {A : Option Addr} {n : Nat} {cs : List Value} (h : Sl sz w A n cs) {lo c : Nat} (hj : lo ≤ n) (hc : n ≤ c) : Sl sz w (subAt A lo c sz) (n - lo) (cs.drop (lo * sz)) := by
  have hl := h.len
  refine ⟨by rw [List.length_drop, hl, Nat.sub_mul], by have := h.max; omega, ?_⟩
  by_cases hlc : lo = n
  · left; subst hlc; rw [List.drop_of_length_le (by omega)]
  · rcases h.at_ with rfl | ⟨b, o, rfl, hcell⟩
    · left; simp
    · right
      refine ⟨b, o + lo * sz, ?_, fun k v hk => ?_⟩
      · unfold subAt; rw [if_neg (by omega)]; simp only [Option.map_some, Addr.add]; split <;> simp_all
      · rw [List.getElem?_drop] at hk
        rw [Nat.add_assoc]; exact hcell _ _ hk
theorem Sl.suf4 {w : World} {A : Option Addr} {n : Nat} {l : List Rec} (h : Sl 4 w A n (encs l)) {lo c : Nat} (hj : lo ≤ n) (hc : n ≤ c) : Sl 4 w (subAt A lo c 4) (n - lo) (encs (l.drop lo)) := by
  have := h.suf hj hc; rwa [encs_drop] at this
theorem step_append_run {P : Program} {w w' : World} {ops : Array Oper} {o : Oper} {a : Act} {K : Act → World → Prop} {Q : Exit → Act → World → Prop} {E : Prop} (hgd : o.guard = none) (s x : Operand) (t u : TypeId)
    (ho : o.op = .call { callee := .builtin .append, args := #[s, x], argTypes := #[t, u] }) {v sv xv : Value} (hs : a.eval s = sv) (hx : a.eval x = xv)
    (hr : (Builtin.append_ #[t, u] o.type #[sv, xv]).run P w = .ok v w')
    (h : K (a.put o.dst v) w') :
    if Region.wanted o (yielded ops a.tmps) = true then Oper.wp P o a w K Q else E := by
  have hw : Region.wanted o (yielded ops a.tmps) = true := by simp [Region.wanted, hgd]
  rw [if_pos hw]
  unfold Oper.wp execOp
  simp only [ho, resolve, invoke, builtin, Sem.run_bind, Sem.run_pure, Result.andThen_ok, List.map_toArray, List.map_cons, List.map_nil, hs, hx, hr]
  exact h
end Go.Proofs.YthkjnpbbgfagkaaDoor
