import Derived.Test.YtlbbehfbjbbckaaGreatDoorQe
import Derived.Test.YtlbbehfbjbbckaaGreatDoorQc
/-! One who follows a path: the program's up, enter. -/
set_option linter.unusedVariables false
set_option linter.unusedSimpArgs false
namespace Go.Proofs.YtlbbehfbjbbckaaGreatDoor
open Go.RowKit

def WkAt (w : World) (g t : Nat) (s : Wk) : Prop := ∃ A n c, n ≤ c ∧ Blk w g 78 [.pointer (some ⟨t, 0, none⟩), .string (str s.at_), .slice A n c, .int .i64 (s.hops : Nat)] ∧ Sl 1 w A n (strs s.row) ∧ ∀ a, A = some a → a.block ≠ g
theorem walker_cells {w : World} {g : Nat} {a b c d : Value} (h : Blk w g 78 [a, b, c, d]) : w.cell? ⟨g, 0, none⟩ = some a ∧ w.cell? ⟨g, 1, none⟩ = some b ∧ w.cell? ⟨g, 2, none⟩ = some c ∧ w.cell? ⟨g, 3, none⟩ = some d ∧ (∀ j, w.frozen? ⟨g, j, none⟩ = false) := ⟨h.cell 0, h.cell 1, h.cell 2, h.cell 3, h.frozen⟩
theorem WkAt.below {w w' : World} {g t : Nat} {s : Wk} (h : WkAt w g t s) (hb : Below w.heap.size w w') : WkAt w' g t s := by
  obtain ⟨A, n, c, h0, h1, h2, h3⟩ := h
  exact ⟨A, n, c, h0, h1.below hb, h2.below hb, h3⟩
/-- A block that is of none of the tree's kinds. -/
theorem TreeAt.other {w : World} {t top c : Nat} {next : Int} {N : Nat → Option Nd} (h : TreeAt w t top next c N) {g : Nat} {T : TypeId} {cs : List Value} (hg : Blk w g T cs) (h1 : T ≠ 5) (h2 : T ≠ 111) (h3 : T ≠ 101) {w' : World} (hh : ∀ k, k < w.heap.size → k ≠ g → w'.heap[k]? = w.heap[k]?) : TreeAt w' t top next c N := by
  have hn : N g = none := by
    cases hi : N g with
    | none => rfl
    | some n => exact absurd rfl ((h.node g n hi).ne hg (fun e => h2 e.symm))
  have hlt : ∀ k, heldT N k → k < w.heap.size := by
    rintro k (⟨n, hi⟩ | ⟨i, n, a, hi, ha, rfl⟩ | ⟨i, n, hi, hk⟩)
    · exact (h.node k n hi).lt
    · obtain ⟨cs, hc⟩ := (h.data i n hi).2 a ha
      exact (Array.getElem?_eq_some_iff.1 hc).1
    · exact (h.kids i n k hi hk).lt
  exact h.heap (h.tree.heap (hh t h.tree.lt (h.tree.ne hg (fun e => h3 e.symm)))) (fun k hk => hh k (hlt k hk) (fun e => h.free hg h1 hn (e ▸ hk)))
theorem Sl.strsOnly {w w' : World} {A : Option Addr} {n g : Nat} {l : List (List UInt8)} (h : Sl 1 w A n (strs l)) {T : TypeId} {cs : List Value} (hg : Blk w g T cs) (hA : ∀ a, A = some a → a.block ≠ g) (hh : ∀ k, k < w.heap.size → k ≠ g → w'.heap[k]? = w.heap[k]?) : Sl 1 w' A n (strs l) :=
  ⟨h.len, h.max, by
    rcases h.at_ with h0 | ⟨b, o, rfl, hc⟩
    · exact .inl h0
    · exact .inr ⟨b, o, rfl, fun j v hj => (World.cell?_of_block (a := ⟨b, o + j, none⟩) (hh b (World.block_lt_of_cell? w _ (hc j v hj)) (hA _ rfl))).trans (hc j v hj)⟩⟩
theorem Sl.tailS {w : World} {A : Option Addr} {n c : Nat} {x : List UInt8} {r : List (List UInt8)} (h : Sl 1 w A n (strs (x :: r))) (hc : n ≤ c) : Sl 1 w (subAt A 1 c 1) (n - 1) (strs r) ∧ ∀ a, subAt A 1 c 1 = some a → ∃ a0, A = some a0 ∧ a.block = a0.block := by
  have hl : r.length + 1 = n := by have := h.len; rw [strs_len, List.length_cons] at this; omega
  have hA : ∀ a, subAt A 1 c 1 = some a → ∃ a0, A = some a0 ∧ a.block = a0.block := by
    intro a ha
    unfold subAt at ha
    split at ha
    · exact ⟨a, ha, rfl⟩
    · cases A with
      | none => cases ha
      | some a0 =>
        simp only [Option.map_some, Option.some.injEq] at ha
        subst ha
        refine ⟨a0, rfl, ?_⟩
        unfold Addr.add
        split <;> rfl
  refine ⟨⟨by rw [strs_len]; omega, by have := h.max; omega, ?_⟩, hA⟩
  cases r with
  | nil => exact .inl rfl
  | cons y r =>
    rcases h.at_ with h0 | ⟨b, o, rfl, hc'⟩
    · simp [strs] at h0
    · refine .inr ⟨b, o + 1, ?_, fun j v hj => ?_⟩
      · unfold subAt
        rw [if_neg (by rw [List.length_cons] at hl; omega)]
        rfl
      · have := hc' (j + 1) v (by simpa [strs] using hj)
        rwa [show o + 1 + j = o + (j + 1) by omega]
theorem belowRow {B : Nat} {w w1 : World} (h : Below B w w1) {g : Nat} (hg : B ≤ g) (cs : Array Value) : Below B w (w1.setRow g cs) :=
  ⟨h.os, h.tape, h.output, by simp; exact h.size, fun k hk => (setRow_other w1 g k cs (by omega)).trans (h.block k hk)⟩
theorem str_nil_iff (l : List UInt8) : (str l).size = 0 ↔ l = [] := by rw [size_toList]; exact List.length_eq_zero_iff
set_option maxRecDepth 100000 in
set_option maxHeartbeats 4000000 in
theorem up_any (g t : Nat) (s : Wk) (x : ByteArray) (w : World) (h : WkAt w g t s) (hl : s.at_.length ≤ 200) :
    Calls Tryz.prog 91 #[.pointer (some ⟨g, 0, none⟩), .string x] w fun e w' => e = .returned (.int .i64 (upW s).2) ∧ WkAt w' g t (upW s).1 ∧ Only (fun k => k = g) w w' := by
  obtain ⟨A, n, c, hnc, h1, h2, h3⟩ := h
  obtain ⟨x0, x1, x2, x3, xf⟩ := walker_cells h1
  have f1 := xf 1
  have H1 := Lib.hid h1
  have H2 := Lib.hid h2
  have H3 := Lib.hid h3
  clear h1 h2 h3 xf
  by_cases he : s.at_ = []
  · have K := Lib.hid (show upW s = (s, 16) from if_pos he)
    have hq : (str s.at_) = ⟨#[]⟩ := by rw [he]; rfl
    rw [hq] at x1
    have HQ := Lib.hid hq
    clear hq he
    go_enter Tryz.func91, Tryz.ntmps91
    go_wp2_with fail
    go_ret
    rw [K.out]
    exact ⟨rfl, ⟨A, n, c, hnc, H1.out, H2.out, H3.out⟩, Only.refl _ _⟩
  · have K := Lib.hid (show upW s = ({ s with at_ := parentB s.at_ }, 0) from if_neg he)
    have hnl := nil_toList (str s.at_) (fun e => he ((str_nil_iff _).1 e))
    have hsz : (str s.at_).size ≤ 200 := by rw [size_toList]; exact hl
    have hpe : str (parentB (str s.at_).data.toList) = str (parentB s.at_) := by simp [str]
    clear he
    go_enter Tryz.func91, Tryz.ntmps91
    go_wp2_with fail
    refine (parent_any (str s.at_) w (by omega)).mono ?_
    rintro e w1 ⟨rfl, rfl⟩
    rw [hpe]
    clear hpe
    go_wp2_with fail
    go_ret
    rw [K.out]
    have hh : ∀ k, k < w1.heap.size → k ≠ g → (w1.setCell ⟨g, 1, none⟩ (.string (str (parentB s.at_)))).heap[k]? = w1.heap[k]? := fun k _ hk => Below.heap_setCell _ _ _ _ hk
    exact ⟨rfl, ⟨A, n, c, hnc, H1.out.set 1 _, H2.out.strsOnly H1.out H3.out hh, H3.out⟩, Only.set w1 _ _ rfl⟩
end Go.Proofs.YtlbbehfbjbbckaaGreatDoor

/-! One who follows a path goes on: the program's enter. -/
set_option linter.unusedVariables false
set_option linter.unusedSimpArgs false
namespace Go.Proofs.YtlbbehfbjbbckaaGreatDoor
open Go.RowKit

theorem kind_stat {N : Nat → Option Nd} {top : Nat} {p : List UInt8} {s : Stt} (h : statN N (thereU (lookN N top p)) s) : ((thereU (lookN N top p)).2.2 = 0 ∧ kindP N top p = some (s.kind, s.target.data.toList)) ∨ ((thereU (lookN N top p)).2.2 ≠ 0 ∧ kindP N top p = none) := by
  unfold kindP
  have hno : (thereU (lookN N top p)).2.2 = 0 → (thereU (lookN N top p)).1 ≠ none := fun h0 h1 => by
    unfold thereU at h0 h1
    split at h0
    · simp at h0
    · rename_i hne
      rw [if_neg hne] at h1
      exact hne ⟨h0, h1⟩
  generalize thereU (lookN N top p) = R at *
  obtain ⟨o, d, e⟩ := R
  cases o with
  | none => exact .inr ⟨fun h0 => hno h0 rfl, rfl⟩
  | some i =>
    by_cases he : e = 0
    · subst he
      obtain ⟨n, k, hn, _, rfl⟩ := h
      exact .inl ⟨rfl, by simp [hn, tellN]⟩
    · exact .inr ⟨he, by simp [he]⟩
theorem right_kind {N : Nat → Option Nd} {top : Nat} {p : List UInt8} {k : Int} {t : List UInt8} (h : kindP N top p = some (k, t)) : rightB p = true ∧ ∃ i n, N i = some n ∧ t = n.target.data.toList ∧ k = n.kind := by
  have hr : rightB p = true := by
    cases hq : rightB p with
    | true => rfl
    | false =>
      unfold kindP lookN at h
      rw [if_pos hq] at h
      simp [thereU] at h
  refine ⟨hr, ?_⟩
  unfold kindP at h
  split at h
  · rename_i i d e he
    split at h
    · cases hn : N i with
      | none => rw [hn] at h; cases h
      | some n =>
        rw [hn] at h
        simp only [Option.map_some, Option.some.injEq, Prod.mk.injEq] at h
        exact ⟨i, n, hn, h.2.symm, h.1.symm⟩
    · cases h
  · cases h
theorem okK {N : Nat → Option Nd} (top : Nat) (ht : ∀ i n, N i = some n → n.target.size ≤ 200) : OkK (kindP N top) := by
  intro p k t h
  obtain ⟨hr, i, n, hn, rfl, _⟩ := right_kind h
  exact ⟨rightB_len hr, by rw [Array.length_toList]; exact ht i n hn⟩
theorem join_str (p x : List UInt8) (hp : p ≠ []) : (str p ++ ⟨#[47]⟩) ++ str x = str (joinP p x) := by
  unfold joinP
  rw [if_neg hp]
  simp [str, ByteArray.ext_iff]
theorem prefix_slash (l : List UInt8) : Lib.hasPrefix l (⟨#[47]⟩ : ByteArray).data.toList = true ↔ l[0]? = some 47 := by
  cases l with
  | nil => simp [Lib.hasPrefix]
  | cons a l =>
    simp only [Lib.hasPrefix, List.getElem?_cons_zero, Option.some.injEq]
    show (((47 : UInt8) == a) && true) = true ↔ a = 47
    rw [Bool.and_true, beq_iff_eq]
    exact ⟨Eq.symm, Eq.symm⟩
theorem Only.drew {P : Nat → Prop} {w w' : World} (h : Only P w w') : Only P w w'.drew := ⟨h.os, h.tape, h.output, h.size, h.block⟩
theorem strs_append (a b : List (List UInt8)) : strs (a ++ b) = strs a ++ strs b := by simp [strs]
theorem own_le {w : World} {base base' size n : Nat} {e : TypeId} {v : Value} {xs : List Value} (h : w.ownsRow base e size v n xs) (hb : base' ≤ base) : w.ownsRow base' e size v n xs :=
  ⟨h.1, h.2.imp id (fun ⟨g, cap, cur, a, b, r⟩ => ⟨g, cap, cur, a, Nat.le_trans hb b, r⟩)⟩
theorem Only.cell {P : Nat → Prop} {w w' : World} (h : Only P w w') {a : Addr} {v : Value} (hc : w.cell? a = some v) (hn : ¬ P a.block) : w'.cell? a = some v := by
  rw [← hc]
  exact World.cell?_of_block (h.block a.block (World.block_lt_of_cell? w _ hc) hn)
theorem set_alloc {w w1 : World} {g : Nat} {T : TypeId} {cs : List Value} {A : Option Addr} {n : Nat} {l : List (List UInt8)} (hb : Below w.heap.size w w1) (h : Blk w1 g T cs) (hs : Sl 1 w1 A n (strs l)) (hA : ∀ a, A = some a → a.block ≠ g) (j : Nat) (v : Value) (o : Obj) :
    Blk ((w1.setCell ⟨g, j, none⟩ v).alloc o) g T (cs.set j v) ∧ Sl 1 ((w1.setCell ⟨g, j, none⟩ v).alloc o) A n (strs l) ∧ Only (fun k => k = g) w ((w1.setCell ⟨g, j, none⟩ v).alloc o) := by
  have hal := (Below.refl (w1.setCell ⟨g, j, none⟩ v).heap.size (w1.setCell ⟨g, j, none⟩ v)).alloc (Nat.le_refl _) o
  exact ⟨(h.set j v).alloc o, (hs.strsOnly h hA (fun k _ hk => Below.heap_setCell _ _ _ _ hk)).below hal, ((Only.of hb).trans (Only.set (P := fun k => k = g) w1 ⟨g, j, none⟩ v rfl)).trans (Only.of hal)⟩
set_option maxRecDepth 100000 in
set_option maxHeartbeats 4000000 in
theorem enter_any (g t top c : Nat) (next : Int) (N : Nat → Option Nd) (s : Wk) (x : List UInt8) (w : World) (h : WkAt w g t s) (hT : TreeAt w t top next c N) (hok : OkW (kindP N top) s) (hx : x.length ≤ 200) (htg : ∀ i n, N i = some n → n.target.size ≤ 200) (hln : s.row.length ≤ 4000) :
    Calls Tryz.prog 90 #[.pointer (some ⟨g, 0, none⟩), .string (str x)] w fun e w' => e = .returned (.int .i64 (enterW (kindP N top) s x).2) ∧ WkAt w' g t (enterW (kindP N top) s x).1 ∧ Only (fun k => k = g) w w' := by
  obtain ⟨A, n, cc, hnc, h1, h2, h3⟩ := h
  obtain ⟨x0, x1, x2, x3, xf⟩ := walker_cells h1
  have f1 := xf 1
  have f2 := xf 2
  have f3 := xf 3
  have H1 := Lib.hid h1
  have H2 := Lib.hid h2
  have H3 := Lib.hid h3
  have HT := Lib.hid hT
  have HO := Lib.hid hok
  have HG := Lib.hid htg
  obtain ⟨X, hX⟩ : ∃ X, enterW (kindP N top) s x = X := ⟨_, rfl⟩
  obtain ⟨q, hq⟩ : ∃ q, joinP s.at_ x = q := ⟨_, rfl⟩
  have HX : Hid ((match kindP N top q with
  | none => (s, (10 : Int))
  | some (k, tg) => if k ≠ 3 then ({ s with at_ := q }, 0) else if s.hops = 16 then (s, 15)
    else (⟨if tg[0]? = some 47 then [] else s.at_, splitB tg ++ s.row, s.hops + 1⟩, 0)) = X) := by rw [← hq]; exact Lib.hid hX
  have hql : q.length ≤ 401 := by
    have := hok.at_
    rw [← hq]; unfold joinP
    split
    · omega
    · rw [List.length_append, List.length_cons]; omega
  have HQ := Lib.hid hq
  have hqs : (str q).size ≤ 2097152 := by rw [size_toList]; omega
  have HST := Lib.hid (Stat_any t top c next N (str q) w hT hqs)
  have hsq : (str q).data.toList = q := by simp [str]
  rw [hsq] at HST
  have HKS := Lib.hid (fun sr => kind_stat (N := N) (top := top) (p := q) (s := sr))
  rw [hX]
  clear h1 h2 h3 hT hok htg hX hq hsq
  have hpath : (s.at_ = [] ∧ str x = str q) ∨ (s.at_ ≠ [] ∧ (str s.at_ ++ ⟨#[47]⟩) ++ str x = str q) := by
    rw [← HQ.out]
    by_cases he : s.at_ = []
    · exact .inl ⟨he, by rw [joinP, if_pos he]⟩
    · exact .inr ⟨he, join_str _ _ he⟩
  have RES := Lib.hid (fun (w1 : World) (sr : Stt) (hb1 : Below w.heap.size w w1) (hst : statN N (thereU (lookN N top q)) sr) => HKS.out sr hst)
  obtain ⟨er, hEr⟩ : ∃ er, (thereU (lookN N top q)).2.2 = er := ⟨_, rfl⟩
  rw [hEr] at HST RES
  rcases hpath with ⟨he, hjq⟩ | ⟨he, hjq⟩
  · have hq0 : (str s.at_) = ⟨#[]⟩ := by rw [he]; rfl
    have x1' := x1
    rw [hq0] at x1
    have HE := Lib.hid he
    have HQ0 := Lib.hid hq0
    have HJ := Lib.hid hjq
    rw [← hjq] at HST
    clear he hq0 hjq
    go_enter Tryz.func90, Tryz.ntmps90
    go_wp2_with fail
    clear x1'
    refine HST.out.mono ?_
    rintro e w1 ⟨⟨sr, hst, rfl⟩, hb1⟩
    unfold aggT encT
    have hb2 := hb1.alloc hb1.size (.cells #[.int .i64 sr.kind, .int .i64 sr.ino, .int .i64 sr.size, .int .i64 sr.links, .int .i64 sr.mt.m0, .int .i64 sr.mt.m1, .int .i64 sr.mt.m2, .int .i64 sr.mt.m3, .int .i64 sr.mt.m4, .string sr.target] 55)
    have HB2 := Lib.hid hb2
    have N2 := Lib.hid (Blk.newA w1 55 #[.int .i64 sr.kind, .int .i64 sr.ino, .int .i64 sr.size, .int .i64 sr.links, .int .i64 sr.mt.m0, .int .i64 sr.mt.m1, .int .i64 sr.mt.m2, .int .i64 sr.mt.m3, .int .i64 sr.mt.m4, .string sr.target])
    have W2 := Lib.hid (H1.out.below hb2)
    have S2 := Lib.hid (H2.out.below hb2)
    have HB1 := Lib.hid hb1
    have W1 := Lib.hid (H1.out.below hb1)
    have S1 := Lib.hid (H2.out.below hb1)
    have hgz : g < w1.heap.size := Nat.lt_of_lt_of_le H1.out.lt hb1.size
    obtain ⟨y0, y1, y2, y3, yf⟩ := walker_cells W2.out
    have q1 := yf 1
    have q2 := yf 2
    have q3 := yf 3
    have RS := Lib.hid (RES.out w1 sr hb1 hst)
    clear yf hb1 hb2 hst HST RES xf x0 x1 x2 x3 f1 f2 f3 HKS
    rcases RS.out with ⟨her, hkk⟩ | ⟨her, hkk⟩
    · have e1 : (er != 0) = false := by simpa using her
      have HX1 := Lib.hid (show (if sr.kind ≠ 3 then ({ s with at_ := q }, (0 : Int)) else if s.hops = 16 then (s, 15) else (⟨if sr.target.data.toList[0]? = some 47 then [] else s.at_, splitB sr.target.data.toList ++ s.row, s.hops + 1⟩, 0)) = X by rw [← HX.out]; simp only [hkk])
      have HOK := Lib.hid ((okK top HG.out) q _ _ hkk).2
      clear her hkk HX RS
      by_cases hk3 : sr.kind = 3
      · have e2 : (sr.kind != 3) = false := by simpa using hk3
        by_cases hh : s.hops = 16
        · have e3 : (((s.hops : Nat) : Int) == 16) = true := by rw [hh]; rfl
          have K := Lib.hid (show X = (s, 15) by rw [← HX1.out, if_neg (fun h => h hk3), if_pos hh])
          clear hh hk3
          go_wp2_with fail
          go_ret
          rw [K.out]
          exact ⟨rfl, ⟨A, n, cc, hnc, W2.out, S2.out, H3.out⟩, Only.of HB2.out⟩
        · have e3 : (((s.hops : Nat) : Int) == 16) = false := by
            have : ¬ ((s.hops : Nat) : Int) = 16 := by omega
            simpa using this
          have K := Lib.hid (show X = (⟨if sr.target.data.toList[0]? = some 47 then [] else s.at_, splitB sr.target.data.toList ++ s.row, s.hops + 1⟩, 0) by rw [← HX1.out, if_neg (fun h => h hk3), if_neg hh])
          have hov : IntKind.i64.wrap ((s.hops : Nat) + 1 : Int) = (s.hops : Nat) + 1 := by have := HO.out.hops; rw [IntKind.wrap_i64]; omega
          clear hh hk3 HX1
          go_wp2_with fail
          obtain ⟨hw3, hs3, ho3⟩ := set_alloc HB1.out W1.out S1.out H3.out 3 (.int .i64 ((s.hops : Nat) + 1)) (.cells #[.int .i64 sr.kind, .int .i64 sr.ino, .int .i64 sr.size, .int .i64 sr.links, .int .i64 sr.mt.m0, .int .i64 sr.mt.m1, .int .i64 sr.mt.m2, .int .i64 sr.mt.m3, .int .i64 sr.mt.m4, .string sr.target] 55)
          have hn3 := Blk.newA (w1.setCell ⟨g, 3, none⟩ (.int .i64 ((s.hops : Nat) + 1))) 55 #[.int .i64 sr.kind, .int .i64 sr.ino, .int .i64 sr.size, .int .i64 sr.links, .int .i64 sr.mt.m0, .int .i64 sr.mt.m1, .int .i64 sr.mt.m2, .int .i64 sr.mt.m3, .int .i64 sr.mt.m4, .string sr.target]
          rw [World.size_setCell] at hn3
          have W3 := Lib.hid hw3
          have S3 := Lib.hid hs3
          have O3 := Lib.hid ho3
          have N3 := Lib.hid hn3
          clear hw3 hs3 ho3 hn3 y0 y1 y2 y3 q1 q2 q3
          generalize hw3 : (w1.setCell ⟨g, 3, none⟩ (.int .i64 ((s.hops : Nat) + 1))).alloc (.cells #[.int .i64 sr.kind, .int .i64 sr.ino, .int .i64 sr.size, .int .i64 sr.links, .int .i64 sr.mt.m0, .int .i64 sr.mt.m1, .int .i64 sr.mt.m2, .int .i64 sr.mt.m3, .int .i64 sr.mt.m4, .string sr.target] 55) = w3 at *
          have hnt := N3.out.cell 9
          have hgc := W3.out.cell 2
          simp only [List.getElem?_cons_zero, List.getElem?_cons_succ, List.set_cons_zero, List.set_cons_succ] at hnt hgc
          have hnt' : w3.drew.cell? ⟨w1.heap.size, 9, none⟩ = some (.string sr.target) := hnt
          have hgc' : w3.drew.cell? ⟨g, 2, none⟩ = some (.slice A n cc) := hgc
          have hsg : w1.heap.size ≠ g := by omega
          have htz : sr.target.size ≤ 200 := by have := HOK.out; rwa [Array.length_toList] at this
          have HSP := Lib.hid (pathSplit_own sr.target w3.drew (by omega))
          obtain ⟨i0, hi0, hz0, hz1, hz2⟩ := info_parts infoS
          have HI := Lib.hid hi0
          have hn4 : n ≤ 4000 := by have := H2.out.strsLen; omega
          have hsl4 : (splitB sr.target.data.toList).length ≤ 201 := by have h1 := splitB_len sr.target.data.toList; have h2 : sr.target.data.toList.length = sr.target.size := Array.length_toList; omega
          have HAP := Lib.hid (fun (v5 : Value) (w5 : World) (hb5 : Below w3.drew.heap.size w3.drew w5) (hown : w5.ownsRow w3.drew.heap.size 9 1 v5 (splitB sr.target.data.toList).length (strs (splitB sr.target.data.toList))) (hsz : w3.drew.heap.size ≤ w5.heap.size) => run_append_sl (w := w5) w3.drew.heap.size 35 35 9 i0 _ 1 16 Tryz.underlying35 hi0 hz0 hz1 hz2 rfl (by decide) hown (c := cc) ((show Sl 1 w3.drew A n (strs s.row) from ⟨S3.out.len, S3.out.max, S3.out.at_⟩).below hb5) (strs_one s.row) (by omega) (by omega) hsz)
          clear hi0 hz0 hz1 hz2 hnt hgc
          refine wp_region_held_drew (S := (fun w' => Only (fun k => k = g) w3.drew w')) (by kernel_rfl) (Only.refl _ _) (fun hHeld => ?_)
          refine wpAnyH_take (i := 0) (oi := ?oi1) (v := ?v1) ?hi1 ?hs1 ?hf1 ?hr1 ?hQ1 (Or.inl ⟨?hg1, ?hy1⟩) hHeld ?rest1
          case hi1 => simp only [List.getElem?_toArray, List.getElem?_cons_succ, List.getElem?_cons_zero]; rfl
          case hs1 => kernel_rfl
          case hf1 => kernel_rfl
          case hr1 => kernel_rfl
          case hg1 => rfl
          case hy1 => (intro w hSw; first | (go_simp; done) | (go_simp; with_reducible rfl))
          case hQ1 => exact fun _ _ _ h => h
          try simp only [Act.put, List.setIfInBounds_toArray, List.set_cons_zero, List.set_cons_succ]
          refine wpAnyH_take (i := 1) (oi := ?oi2) (v := ?v2) ?hi2 ?hs2 ?hf2 ?hr2 ?hQ2 (Or.inl ⟨?hg2, ?hy2⟩) hHeld ?rest2
          case hi2 => simp only [List.getElem?_toArray, List.getElem?_cons_succ, List.getElem?_cons_zero]; rfl
          case hs2 => kernel_rfl
          case hf2 => kernel_rfl
          case hr2 => kernel_rfl
          case hg2 => rfl
          case hy2 => (intro w hSw; first | (go_simp; done) | (go_simp; with_reducible rfl))
          case hQ2 => exact fun _ _ _ h => h
          try simp only [Act.put, List.setIfInBounds_toArray, List.set_cons_zero, List.set_cons_succ]
          refine wpAnyH_take (i := 2) (oi := ?oi3) (v := ?v3) ?hi3 ?hs3 ?hf3 ?hr3 ?hQ3 (Or.inl ⟨?hg3, ?hy3⟩) hHeld ?rest3
          case hi3 => simp only [List.getElem?_toArray, List.getElem?_cons_succ, List.getElem?_cons_zero]; rfl
          case hs3 => kernel_rfl
          case hf3 => kernel_rfl
          case hr3 => kernel_rfl
          case hg3 => rfl
          case hy3 => (intro w hSw; have x0 := Only.cell hSw hnt' (fun e => hsg e); first | (go_simp; done) | (go_simp; with_reducible rfl))
          case hQ3 => exact fun _ _ _ h => h
          try simp only [Act.put, List.setIfInBounds_toArray, List.set_cons_zero, List.set_cons_succ]
          refine wpAnyH_take (i := 4) (oi := ?oi4) (v := ?v4) ?hi4 ?hs4 ?hf4 ?hr4 ?hQ4 (Or.inl ⟨?hg4, ?hy4⟩) hHeld ?rest4
          case hi4 => simp only [List.getElem?_toArray, List.getElem?_cons_succ, List.getElem?_cons_zero]; rfl
          case hs4 => kernel_rfl
          case hf4 => kernel_rfl
          case hr4 => kernel_rfl
          case hg4 => rfl
          case hy4 => (intro w hSw; first | (go_simp; done) | (go_simp; with_reducible rfl))
          case hQ4 => exact fun _ _ _ h => h
          try simp only [Act.put, List.setIfInBounds_toArray, List.set_cons_zero, List.set_cons_succ]
          refine wpAnyH_take (i := 5) (oi := ?oi5) (v := ?v5) ?hi5 ?hs5 ?hf5 ?hr5 ?hQ5 (Or.inl ⟨?hg5, ?hy5⟩) hHeld ?rest5
          case hi5 => simp only [List.getElem?_toArray, List.getElem?_cons_succ, List.getElem?_cons_zero]; rfl
          case hs5 => kernel_rfl
          case hf5 => kernel_rfl
          case hr5 => kernel_rfl
          case hg5 => rfl
          case hy5 => (intro w hSw; first | (go_simp; done) | (go_simp; with_reducible rfl))
          case hQ5 => exact fun _ _ _ h => h
          try simp only [Act.put, List.setIfInBounds_toArray, List.set_cons_zero, List.set_cons_succ]
          refine wpAnyH_take (i := 6) (oi := ?oi6) (v := ?v6) ?hi6 ?hs6 ?hf6 ?hr6 ?hQ6 (Or.inl ⟨?hg6, ?hy6⟩) hHeld ?rest6
          case hi6 => simp only [List.getElem?_toArray, List.getElem?_cons_succ, List.getElem?_cons_zero]; rfl
          case hs6 => kernel_rfl
          case hf6 => kernel_rfl
          case hr6 => kernel_rfl
          case hg6 => rfl
          case hy6 => (intro w hSw; first | (go_simp; done) | (go_simp; with_reducible rfl))
          case hQ6 => exact fun _ _ _ h => h
          try simp only [Act.put, List.setIfInBounds_toArray, List.set_cons_zero, List.set_cons_succ]
          refine wpAnyH_ready (rs := [3, 7]) (by kernel_rfl) (by simp) ?_
          refine AllReadyH.cons (o := ?oa7) ?ha7 (fun K hK => ?eA) (AllReadyH.cons (o := ?ob7) ?hb7 (fun K hK => ?eB) AllReadyH.nil)
          case ha7 => simp only [List.getElem?_toArray, List.getElem?_cons_succ, List.getElem?_cons_zero]; rfl
          case hb7 => simp only [List.getElem?_toArray, List.getElem?_cons_succ, List.getElem?_cons_zero]; rfl
          case eA =>
            go_simp; go_at_call 41; refine HSP.out.mono ?_; rintro e w5 ⟨⟨v5, rfl, hown5⟩, hb5⟩; go_wp2_with fail
            refine hK.out _ _ ((Only.of hb5)) (fun hHeld2 => ?_)
            clear hK K hHeld
            have hHeld := hHeld2
            clear hHeld2
            try simp only [Act.put, List.setIfInBounds_toArray, List.set_cons_zero, List.set_cons_succ]
            have hgc5 := cell_below hgc' hb5
            refine wpAnyH_ready (rs := [7]) (by kernel_rfl) (by simp) ?_
            refine AllReadyH.cons (o := ?oi8) ?hi8 (fun K hK => ?_) AllReadyH.nil
            case hi8 => simp only [List.getElem?_toArray, List.getElem?_cons_succ, List.getElem?_cons_zero]; rfl
            go_simp
            refine hK.out _ _ ((Only.of hb5)) (fun hHeld2 => ?_)
            clear hK K hHeld
            have hHeld := hHeld2
            clear hHeld2
            try simp only [Act.put, List.setIfInBounds_toArray, List.set_cons_zero, List.set_cons_succ]
            have hown5 := own_le (base' := w3.drew.heap.size) hown5 (Nat.le_succ _)
            obtain ⟨v6, w6, hap, hown6, hg6⟩ := HAP.out v5 w5 hb5 hown5 hb5.size
            have hb6 : Below w3.drew.heap.size w3.drew w6 := hb5.grown hg6 hb5.size (fun k hk => (hown5.lt k hk).1)
            refine wpAnyH_ready (rs := [8]) (by kernel_rfl) (by simp) ?_
            refine AllReadyH.cons (o := ?oi9) ?hi9 (fun K hK => ?_) AllReadyH.nil
            case hi9 => simp only [List.getElem?_toArray, List.getElem?_cons_succ, List.getElem?_cons_zero]; rfl
            refine step_append_run rfl (.tmp 57) (.tmp 61) 35 35 rfl rfl rfl hap ?_
            refine hK.out _ _ ((Only.of hb6)) (fun hHeld2 => ?_)
            clear hK K hHeld
            have hHeld := hHeld2
            clear hHeld2
            try simp only [Act.put, List.setIfInBounds_toArray, List.set_cons_zero, List.set_cons_succ]
            refine wpAnyH_take (i := 9) (oi := ?oi10) (v := ?v10) ?hi10 ?hs10 ?hf10 ?hr10 ?hQ10 (Or.inl ⟨?hg10, ?hy10⟩) hHeld ?rest10
            case hi10 => simp only [List.getElem?_toArray, List.getElem?_cons_succ, List.getElem?_cons_zero]; rfl
            case hs10 => kernel_rfl
            case hf10 => kernel_rfl
            case hr10 => kernel_rfl
            case hg10 => rfl
            case hy10 => (intro w hSw; first | (go_simp; done) | (go_simp; with_reducible rfl))
            case hQ10 => exact fun _ _ _ h => h
            try simp only [Act.put, List.setIfInBounds_toArray, List.set_cons_zero, List.set_cons_succ]
            refine wpAnyH_take (i := 10) (oi := ?oi11) (v := ?v11) ?hi11 ?hs11 ?hf11 ?hr11 ?hQ11 (Or.inl ⟨?hg11, ?hy11⟩) hHeld ?rest11
            case hi11 => simp only [List.getElem?_toArray, List.getElem?_cons_succ, List.getElem?_cons_zero]; rfl
            case hs11 => kernel_rfl
            case hf11 => kernel_rfl
            case hr11 => kernel_rfl
            case hg11 => rfl
            case hy11 => (intro w hSw; first | (go_simp; done) | (go_simp; with_reducible rfl))
            case hQ11 => exact fun _ _ _ h => h
            try simp only [Act.put, List.setIfInBounds_toArray, List.set_cons_zero, List.set_cons_succ]
            obtain ⟨A6, c6, hv6, hle6, hsl6, ha6, _⟩ := own_sl hown6
            subst hv6
            have gf6 := (W3.out.drew.below hb6).frozen 2
            have gc6 := cell_below hgc' hb6
            refine wpAnyH_ready (rs := [11]) (by kernel_rfl) (by simp) ?_
            refine AllReadyH.cons (o := ?oi12) ?hi12 (fun K hK => ?_) AllReadyH.nil
            case hi12 => simp only [List.getElem?_toArray, List.getElem?_cons_succ, List.getElem?_cons_zero]; rfl
            go_simp
            have W7 := Lib.hid ((W3.out.drew.below hb6).set 2 (.slice A6 ((splitB sr.target.data.toList).length + n) c6))
            have hA6 : ∀ a, A6 = some a → a.block ≠ g := fun a ha => by have := (ha6 a ha).1; have := W3.out.lt; have hz : w3.drew.heap.size = w3.heap.size := rfl; omega
            rw [← strs_append] at hsl6
            have S7 := Lib.hid (hsl6.strsOnly (w' := w6.setCell ⟨g, 2, none⟩ (.slice A6 ((splitB sr.target.data.toList).length + n) c6)) (W3.out.drew.below hb6) hA6 (fun k _ hk => Below.heap_setCell _ _ _ _ hk))
            have HA6 := Lib.hid hA6
            refine hK.out _ _ (((Only.of hb6).trans (Only.set (P := fun k => k = g) _ ⟨g, 2, none⟩ _ rfl))) (fun hHeld2 => ?_)
            clear hK K hHeld
            have hHeld := hHeld2
            clear hHeld2
            try simp only [Act.put, List.setIfInBounds_toArray, List.set_cons_zero, List.set_cons_succ]
            refine wpAnyH_done (by kernel_rfl) ?_ _
            clear hHeld
            have hn7 := ((N3.out.drew.below hb6).other (a := ⟨g, 2, none⟩) hsg (.slice A6 ((splitB sr.target.data.toList).length + n) c6)).cell 9
            have O67 := Lib.hid ((Only.of hb6).trans (Only.set (P := fun k => k = g) w6 ⟨g, 2, none⟩ (.slice A6 ((splitB sr.target.data.toList).length + n) c6) rfl))
            generalize hw7 : w6.setCell ⟨g, 2, none⟩ (.slice A6 ((splitB sr.target.data.toList).length + n) c6) = w7 at *
            simp only [List.getElem?_cons_zero, List.getElem?_cons_succ] at hn7
            obtain ⟨_, u1, _, _, uf⟩ := walker_cells W7.out
            have uf1 := uf 1
            clear hgc' hnt' hw7 gc6 gf6 uf hb6 hap hb5 hown5 hg6 hown6
            go_wp2_with fail
            refine (Tryz.strings_HasPrefix sr.target ⟨#[47]⟩ w7).mono ?_
            rintro e w8 ⟨rfl, rfl⟩
            have HP := Lib.hid (prefix_slash sr.target.data.toList)
            generalize Lib.hasPrefix sr.target.data.toList (⟨#[47]⟩ : ByteArray).data.toList = hp at *
            cases hp with
            | true =>
              have KP := Lib.hid (HP.out.1 rfl)
              have W8 := Lib.hid (W7.out.set 1 (.string ⟨#[]⟩))
              have S8 := Lib.hid (S7.out.strsOnly W7.out HA6.out (w' := w8.setCell ⟨g, 1, none⟩ (.string ⟨#[]⟩)) (fun k _ hk => Below.heap_setCell _ _ _ _ hk))
              go_wp2_with fail
              go_ret
              rw [K.out, if_pos KP.out]
              exact ⟨rfl, ⟨A6, _, c6, hle6, W8.out, S8.out, HA6.out⟩, (O3.out.drew.trans O67.out).trans (Only.set (P := fun k => k = g) _ ⟨g, 1, none⟩ _ rfl)⟩
            | false =>
              have KP := Lib.hid (show ¬ sr.target.data.toList[0]? = some 47 from fun h => by have := HP.out.2 h; cases this)
              go_wp2_with fail
              go_ret
              rw [K.out, if_neg KP.out]
              exact ⟨rfl, ⟨A6, _, c6, hle6, W7.out, S7.out, HA6.out⟩, O3.out.drew.trans O67.out⟩
          case eB =>
            go_simp
            refine hK.out _ _ ((Only.refl _ _)) (fun hHeld2 => ?_)
            clear hK K hHeld
            have hHeld := hHeld2
            clear hHeld2
            try simp only [Act.put, List.setIfInBounds_toArray, List.set_cons_zero, List.set_cons_succ]
            refine wpAnyH_ready (rs := [3]) (by kernel_rfl) (by simp) ?_
            refine AllReadyH.cons (o := ?oi13) ?hi13 (fun K hK => ?_) AllReadyH.nil
            case hi13 => simp only [List.getElem?_toArray, List.getElem?_cons_succ, List.getElem?_cons_zero]; rfl
            go_simp; go_at_call 41; refine HSP.out.mono ?_; rintro e w5 ⟨⟨v5, rfl, hown5⟩, hb5⟩; go_wp2_with fail
            refine hK.out _ _ ((Only.of hb5)) (fun hHeld2 => ?_)
            clear hK K hHeld
            have hHeld := hHeld2
            clear hHeld2
            try simp only [Act.put, List.setIfInBounds_toArray, List.set_cons_zero, List.set_cons_succ]
            have hown5 := own_le (base' := w3.drew.heap.size) hown5 (Nat.le_succ _)
            obtain ⟨v6, w6, hap, hown6, hg6⟩ := HAP.out v5 w5 hb5 hown5 hb5.size
            have hb6 : Below w3.drew.heap.size w3.drew w6 := hb5.grown hg6 hb5.size (fun k hk => (hown5.lt k hk).1)
            refine wpAnyH_ready (rs := [8]) (by kernel_rfl) (by simp) ?_
            refine AllReadyH.cons (o := ?oi14) ?hi14 (fun K hK => ?_) AllReadyH.nil
            case hi14 => simp only [List.getElem?_toArray, List.getElem?_cons_succ, List.getElem?_cons_zero]; rfl
            refine step_append_run rfl (.tmp 57) (.tmp 61) 35 35 rfl rfl rfl hap ?_
            refine hK.out _ _ ((Only.of hb6)) (fun hHeld2 => ?_)
            clear hK K hHeld
            have hHeld := hHeld2
            clear hHeld2
            try simp only [Act.put, List.setIfInBounds_toArray, List.set_cons_zero, List.set_cons_succ]
            refine wpAnyH_take (i := 9) (oi := ?oi15) (v := ?v15) ?hi15 ?hs15 ?hf15 ?hr15 ?hQ15 (Or.inl ⟨?hg15, ?hy15⟩) hHeld ?rest15
            case hi15 => simp only [List.getElem?_toArray, List.getElem?_cons_succ, List.getElem?_cons_zero]; rfl
            case hs15 => kernel_rfl
            case hf15 => kernel_rfl
            case hr15 => kernel_rfl
            case hg15 => rfl
            case hy15 => (intro w hSw; first | (go_simp; done) | (go_simp; with_reducible rfl))
            case hQ15 => exact fun _ _ _ h => h
            try simp only [Act.put, List.setIfInBounds_toArray, List.set_cons_zero, List.set_cons_succ]
            refine wpAnyH_take (i := 10) (oi := ?oi16) (v := ?v16) ?hi16 ?hs16 ?hf16 ?hr16 ?hQ16 (Or.inl ⟨?hg16, ?hy16⟩) hHeld ?rest16
            case hi16 => simp only [List.getElem?_toArray, List.getElem?_cons_succ, List.getElem?_cons_zero]; rfl
            case hs16 => kernel_rfl
            case hf16 => kernel_rfl
            case hr16 => kernel_rfl
            case hg16 => rfl
            case hy16 => (intro w hSw; first | (go_simp; done) | (go_simp; with_reducible rfl))
            case hQ16 => exact fun _ _ _ h => h
            try simp only [Act.put, List.setIfInBounds_toArray, List.set_cons_zero, List.set_cons_succ]
            obtain ⟨A6, c6, hv6, hle6, hsl6, ha6, _⟩ := own_sl hown6
            subst hv6
            have gf6 := (W3.out.drew.below hb6).frozen 2
            have gc6 := cell_below hgc' hb6
            refine wpAnyH_ready (rs := [11]) (by kernel_rfl) (by simp) ?_
            refine AllReadyH.cons (o := ?oi17) ?hi17 (fun K hK => ?_) AllReadyH.nil
            case hi17 => simp only [List.getElem?_toArray, List.getElem?_cons_succ, List.getElem?_cons_zero]; rfl
            go_simp
            have W7 := Lib.hid ((W3.out.drew.below hb6).set 2 (.slice A6 ((splitB sr.target.data.toList).length + n) c6))
            have hA6 : ∀ a, A6 = some a → a.block ≠ g := fun a ha => by have := (ha6 a ha).1; have := W3.out.lt; have hz : w3.drew.heap.size = w3.heap.size := rfl; omega
            rw [← strs_append] at hsl6
            have S7 := Lib.hid (hsl6.strsOnly (w' := w6.setCell ⟨g, 2, none⟩ (.slice A6 ((splitB sr.target.data.toList).length + n) c6)) (W3.out.drew.below hb6) hA6 (fun k _ hk => Below.heap_setCell _ _ _ _ hk))
            have HA6 := Lib.hid hA6
            refine hK.out _ _ (((Only.of hb6).trans (Only.set (P := fun k => k = g) _ ⟨g, 2, none⟩ _ rfl))) (fun hHeld2 => ?_)
            clear hK K hHeld
            have hHeld := hHeld2
            clear hHeld2
            try simp only [Act.put, List.setIfInBounds_toArray, List.set_cons_zero, List.set_cons_succ]
            refine wpAnyH_done (by kernel_rfl) ?_ _
            clear hHeld
            have hn7 := ((N3.out.drew.below hb6).other (a := ⟨g, 2, none⟩) hsg (.slice A6 ((splitB sr.target.data.toList).length + n) c6)).cell 9
            have O67 := Lib.hid ((Only.of hb6).trans (Only.set (P := fun k => k = g) w6 ⟨g, 2, none⟩ (.slice A6 ((splitB sr.target.data.toList).length + n) c6) rfl))
            generalize hw7 : w6.setCell ⟨g, 2, none⟩ (.slice A6 ((splitB sr.target.data.toList).length + n) c6) = w7 at *
            simp only [List.getElem?_cons_zero, List.getElem?_cons_succ] at hn7
            obtain ⟨_, u1, _, _, uf⟩ := walker_cells W7.out
            have uf1 := uf 1
            clear hgc' hnt' hw7 gc6 gf6 uf hb6 hap hb5 hown5 hg6 hown6
            go_wp2_with fail
            refine (Tryz.strings_HasPrefix sr.target ⟨#[47]⟩ w7).mono ?_
            rintro e w8 ⟨rfl, rfl⟩
            have HP := Lib.hid (prefix_slash sr.target.data.toList)
            generalize Lib.hasPrefix sr.target.data.toList (⟨#[47]⟩ : ByteArray).data.toList = hp at *
            cases hp with
            | true =>
              have KP := Lib.hid (HP.out.1 rfl)
              have W8 := Lib.hid (W7.out.set 1 (.string ⟨#[]⟩))
              have S8 := Lib.hid (S7.out.strsOnly W7.out HA6.out (w' := w8.setCell ⟨g, 1, none⟩ (.string ⟨#[]⟩)) (fun k _ hk => Below.heap_setCell _ _ _ _ hk))
              go_wp2_with fail
              go_ret
              rw [K.out, if_pos KP.out]
              exact ⟨rfl, ⟨A6, _, c6, hle6, W8.out, S8.out, HA6.out⟩, (O3.out.drew.trans O67.out).trans (Only.set (P := fun k => k = g) _ ⟨g, 1, none⟩ _ rfl)⟩
            | false =>
              have KP := Lib.hid (show ¬ sr.target.data.toList[0]? = some 47 from fun h => by have := HP.out.2 h; cases this)
              go_wp2_with fail
              go_ret
              rw [K.out, if_neg KP.out]
              exact ⟨rfl, ⟨A6, _, c6, hle6, W7.out, S7.out, HA6.out⟩, O3.out.drew.trans O67.out⟩
      · have e2 : (sr.kind != 3) = true := by simpa using hk3
        have K := Lib.hid (show X = ({ s with at_ := q }, (0 : Int)) by rw [← HX1.out, if_pos hk3])
        clear hk3
        go_wp2_with fail
        go_ret
        rw [K.out]
        obtain ⟨hw3, hs3, ho3⟩ := set_alloc HB1.out W1.out S1.out H3.out 1 (.string (str x)) (.cells #[.int .i64 sr.kind, .int .i64 sr.ino, .int .i64 sr.size, .int .i64 sr.links, .int .i64 sr.mt.m0, .int .i64 sr.mt.m1, .int .i64 sr.mt.m2, .int .i64 sr.mt.m3, .int .i64 sr.mt.m4, .string sr.target] 55)
        exact ⟨rfl, ⟨A, n, cc, hnc, (by rw [HJ.out] at hw3 ⊢; exact hw3), hs3, H3.out⟩, ho3⟩
    · have e1 : (er != 0) = true := by simpa using her
      have K := Lib.hid (show X = (s, (10 : Int)) by rw [← HX.out]; simp only [hkk])
      clear her hkk HX RS
      go_wp2_with fail
      go_ret
      rw [K.out]
      exact ⟨rfl, ⟨A, n, cc, hnc, W2.out, S2.out, H3.out⟩, Only.of HB2.out⟩
  · have hnl := nil_toList (str s.at_) (fun e => he ((str_nil_iff _).1 e))
    have z0 : (str s.at_).size ≤ 200 := by rw [size_toList]; exact HO.out.at_
    have z00 : (str x).size ≤ 200 := by rw [size_toList]; exact hx
    have z1 : ¬ 9223372036854775807 < (str s.at_).size + 1 := by omega
    have z2 : ¬ 9223372036854775807 < (str s.at_).size + 1 + (str x).size := by omega
    clear he z0 z00
    go_enter Tryz.func90, Tryz.ntmps90
    go_wp2_with fail
    refine HST.out.mono ?_
    rintro e w1 ⟨⟨sr, hst, rfl⟩, hb1⟩
    unfold aggT encT
    have hb2 := hb1.alloc hb1.size (.cells #[.int .i64 sr.kind, .int .i64 sr.ino, .int .i64 sr.size, .int .i64 sr.links, .int .i64 sr.mt.m0, .int .i64 sr.mt.m1, .int .i64 sr.mt.m2, .int .i64 sr.mt.m3, .int .i64 sr.mt.m4, .string sr.target] 55)
    have HB2 := Lib.hid hb2
    have N2 := Lib.hid (Blk.newA w1 55 #[.int .i64 sr.kind, .int .i64 sr.ino, .int .i64 sr.size, .int .i64 sr.links, .int .i64 sr.mt.m0, .int .i64 sr.mt.m1, .int .i64 sr.mt.m2, .int .i64 sr.mt.m3, .int .i64 sr.mt.m4, .string sr.target])
    have W2 := Lib.hid (H1.out.below hb2)
    have S2 := Lib.hid (H2.out.below hb2)
    have HB1 := Lib.hid hb1
    have W1 := Lib.hid (H1.out.below hb1)
    have S1 := Lib.hid (H2.out.below hb1)
    have hgz : g < w1.heap.size := Nat.lt_of_lt_of_le H1.out.lt hb1.size
    obtain ⟨y0, y1, y2, y3, yf⟩ := walker_cells W2.out
    have q1 := yf 1
    have q2 := yf 2
    have q3 := yf 3
    have RS := Lib.hid (RES.out w1 sr hb1 hst)
    clear yf hb1 hb2 hst HST RES xf x0 x1 x2 x3 f1 f2 f3 HKS
    rcases RS.out with ⟨her, hkk⟩ | ⟨her, hkk⟩
    · have e1 : (er != 0) = false := by simpa using her
      have HX1 := Lib.hid (show (if sr.kind ≠ 3 then ({ s with at_ := q }, (0 : Int)) else if s.hops = 16 then (s, 15) else (⟨if sr.target.data.toList[0]? = some 47 then [] else s.at_, splitB sr.target.data.toList ++ s.row, s.hops + 1⟩, 0)) = X by rw [← HX.out]; simp only [hkk])
      have HOK := Lib.hid ((okK top HG.out) q _ _ hkk).2
      clear her hkk HX RS
      by_cases hk3 : sr.kind = 3
      · have e2 : (sr.kind != 3) = false := by simpa using hk3
        by_cases hh : s.hops = 16
        · have e3 : (((s.hops : Nat) : Int) == 16) = true := by rw [hh]; rfl
          have K := Lib.hid (show X = (s, 15) by rw [← HX1.out, if_neg (fun h => h hk3), if_pos hh])
          clear hh hk3
          go_wp2_with fail
          go_ret
          rw [K.out]
          exact ⟨rfl, ⟨A, n, cc, hnc, W2.out, S2.out, H3.out⟩, Only.of HB2.out⟩
        · have e3 : (((s.hops : Nat) : Int) == 16) = false := by
            have : ¬ ((s.hops : Nat) : Int) = 16 := by omega
            simpa using this
          have K := Lib.hid (show X = (⟨if sr.target.data.toList[0]? = some 47 then [] else s.at_, splitB sr.target.data.toList ++ s.row, s.hops + 1⟩, 0) by rw [← HX1.out, if_neg (fun h => h hk3), if_neg hh])
          have hov : IntKind.i64.wrap ((s.hops : Nat) + 1 : Int) = (s.hops : Nat) + 1 := by have := HO.out.hops; rw [IntKind.wrap_i64]; omega
          clear hh hk3 HX1
          go_wp2_with fail
          obtain ⟨hw3, hs3, ho3⟩ := set_alloc HB1.out W1.out S1.out H3.out 3 (.int .i64 ((s.hops : Nat) + 1)) (.cells #[.int .i64 sr.kind, .int .i64 sr.ino, .int .i64 sr.size, .int .i64 sr.links, .int .i64 sr.mt.m0, .int .i64 sr.mt.m1, .int .i64 sr.mt.m2, .int .i64 sr.mt.m3, .int .i64 sr.mt.m4, .string sr.target] 55)
          have hn3 := Blk.newA (w1.setCell ⟨g, 3, none⟩ (.int .i64 ((s.hops : Nat) + 1))) 55 #[.int .i64 sr.kind, .int .i64 sr.ino, .int .i64 sr.size, .int .i64 sr.links, .int .i64 sr.mt.m0, .int .i64 sr.mt.m1, .int .i64 sr.mt.m2, .int .i64 sr.mt.m3, .int .i64 sr.mt.m4, .string sr.target]
          rw [World.size_setCell] at hn3
          have W3 := Lib.hid hw3
          have S3 := Lib.hid hs3
          have O3 := Lib.hid ho3
          have N3 := Lib.hid hn3
          clear hw3 hs3 ho3 hn3 y0 y1 y2 y3 q1 q2 q3
          generalize hw3 : (w1.setCell ⟨g, 3, none⟩ (.int .i64 ((s.hops : Nat) + 1))).alloc (.cells #[.int .i64 sr.kind, .int .i64 sr.ino, .int .i64 sr.size, .int .i64 sr.links, .int .i64 sr.mt.m0, .int .i64 sr.mt.m1, .int .i64 sr.mt.m2, .int .i64 sr.mt.m3, .int .i64 sr.mt.m4, .string sr.target] 55) = w3 at *
          have hnt := N3.out.cell 9
          have hgc := W3.out.cell 2
          simp only [List.getElem?_cons_zero, List.getElem?_cons_succ, List.set_cons_zero, List.set_cons_succ] at hnt hgc
          have hnt' : w3.drew.cell? ⟨w1.heap.size, 9, none⟩ = some (.string sr.target) := hnt
          have hgc' : w3.drew.cell? ⟨g, 2, none⟩ = some (.slice A n cc) := hgc
          have hsg : w1.heap.size ≠ g := by omega
          have htz : sr.target.size ≤ 200 := by have := HOK.out; rwa [Array.length_toList] at this
          have HSP := Lib.hid (pathSplit_own sr.target w3.drew (by omega))
          obtain ⟨i0, hi0, hz0, hz1, hz2⟩ := info_parts infoS
          have HI := Lib.hid hi0
          have hn4 : n ≤ 4000 := by have := H2.out.strsLen; omega
          have hsl4 : (splitB sr.target.data.toList).length ≤ 201 := by have h1 := splitB_len sr.target.data.toList; have h2 : sr.target.data.toList.length = sr.target.size := Array.length_toList; omega
          have HAP := Lib.hid (fun (v5 : Value) (w5 : World) (hb5 : Below w3.drew.heap.size w3.drew w5) (hown : w5.ownsRow w3.drew.heap.size 9 1 v5 (splitB sr.target.data.toList).length (strs (splitB sr.target.data.toList))) (hsz : w3.drew.heap.size ≤ w5.heap.size) => run_append_sl (w := w5) w3.drew.heap.size 35 35 9 i0 _ 1 16 Tryz.underlying35 hi0 hz0 hz1 hz2 rfl (by decide) hown (c := cc) ((show Sl 1 w3.drew A n (strs s.row) from ⟨S3.out.len, S3.out.max, S3.out.at_⟩).below hb5) (strs_one s.row) (by omega) (by omega) hsz)
          clear hi0 hz0 hz1 hz2 hnt hgc
          refine wp_region_held_drew (S := (fun w' => Only (fun k => k = g) w3.drew w')) (by kernel_rfl) (Only.refl _ _) (fun hHeld => ?_)
          refine wpAnyH_take (i := 0) (oi := ?oi18) (v := ?v18) ?hi18 ?hs18 ?hf18 ?hr18 ?hQ18 (Or.inl ⟨?hg18, ?hy18⟩) hHeld ?rest18
          case hi18 => simp only [List.getElem?_toArray, List.getElem?_cons_succ, List.getElem?_cons_zero]; rfl
          case hs18 => kernel_rfl
          case hf18 => kernel_rfl
          case hr18 => kernel_rfl
          case hg18 => rfl
          case hy18 => (intro w hSw; first | (go_simp; done) | (go_simp; with_reducible rfl))
          case hQ18 => exact fun _ _ _ h => h
          try simp only [Act.put, List.setIfInBounds_toArray, List.set_cons_zero, List.set_cons_succ]
          refine wpAnyH_take (i := 1) (oi := ?oi19) (v := ?v19) ?hi19 ?hs19 ?hf19 ?hr19 ?hQ19 (Or.inl ⟨?hg19, ?hy19⟩) hHeld ?rest19
          case hi19 => simp only [List.getElem?_toArray, List.getElem?_cons_succ, List.getElem?_cons_zero]; rfl
          case hs19 => kernel_rfl
          case hf19 => kernel_rfl
          case hr19 => kernel_rfl
          case hg19 => rfl
          case hy19 => (intro w hSw; first | (go_simp; done) | (go_simp; with_reducible rfl))
          case hQ19 => exact fun _ _ _ h => h
          try simp only [Act.put, List.setIfInBounds_toArray, List.set_cons_zero, List.set_cons_succ]
          refine wpAnyH_take (i := 2) (oi := ?oi20) (v := ?v20) ?hi20 ?hs20 ?hf20 ?hr20 ?hQ20 (Or.inl ⟨?hg20, ?hy20⟩) hHeld ?rest20
          case hi20 => simp only [List.getElem?_toArray, List.getElem?_cons_succ, List.getElem?_cons_zero]; rfl
          case hs20 => kernel_rfl
          case hf20 => kernel_rfl
          case hr20 => kernel_rfl
          case hg20 => rfl
          case hy20 => (intro w hSw; have x0 := Only.cell hSw hnt' (fun e => hsg e); first | (go_simp; done) | (go_simp; with_reducible rfl))
          case hQ20 => exact fun _ _ _ h => h
          try simp only [Act.put, List.setIfInBounds_toArray, List.set_cons_zero, List.set_cons_succ]
          refine wpAnyH_take (i := 4) (oi := ?oi21) (v := ?v21) ?hi21 ?hs21 ?hf21 ?hr21 ?hQ21 (Or.inl ⟨?hg21, ?hy21⟩) hHeld ?rest21
          case hi21 => simp only [List.getElem?_toArray, List.getElem?_cons_succ, List.getElem?_cons_zero]; rfl
          case hs21 => kernel_rfl
          case hf21 => kernel_rfl
          case hr21 => kernel_rfl
          case hg21 => rfl
          case hy21 => (intro w hSw; first | (go_simp; done) | (go_simp; with_reducible rfl))
          case hQ21 => exact fun _ _ _ h => h
          try simp only [Act.put, List.setIfInBounds_toArray, List.set_cons_zero, List.set_cons_succ]
          refine wpAnyH_take (i := 5) (oi := ?oi22) (v := ?v22) ?hi22 ?hs22 ?hf22 ?hr22 ?hQ22 (Or.inl ⟨?hg22, ?hy22⟩) hHeld ?rest22
          case hi22 => simp only [List.getElem?_toArray, List.getElem?_cons_succ, List.getElem?_cons_zero]; rfl
          case hs22 => kernel_rfl
          case hf22 => kernel_rfl
          case hr22 => kernel_rfl
          case hg22 => rfl
          case hy22 => (intro w hSw; first | (go_simp; done) | (go_simp; with_reducible rfl))
          case hQ22 => exact fun _ _ _ h => h
          try simp only [Act.put, List.setIfInBounds_toArray, List.set_cons_zero, List.set_cons_succ]
          refine wpAnyH_take (i := 6) (oi := ?oi23) (v := ?v23) ?hi23 ?hs23 ?hf23 ?hr23 ?hQ23 (Or.inl ⟨?hg23, ?hy23⟩) hHeld ?rest23
          case hi23 => simp only [List.getElem?_toArray, List.getElem?_cons_succ, List.getElem?_cons_zero]; rfl
          case hs23 => kernel_rfl
          case hf23 => kernel_rfl
          case hr23 => kernel_rfl
          case hg23 => rfl
          case hy23 => (intro w hSw; first | (go_simp; done) | (go_simp; with_reducible rfl))
          case hQ23 => exact fun _ _ _ h => h
          try simp only [Act.put, List.setIfInBounds_toArray, List.set_cons_zero, List.set_cons_succ]
          refine wpAnyH_ready (rs := [3, 7]) (by kernel_rfl) (by simp) ?_
          refine AllReadyH.cons (o := ?oa24) ?ha24 (fun K hK => ?eA) (AllReadyH.cons (o := ?ob24) ?hb24 (fun K hK => ?eB) AllReadyH.nil)
          case ha24 => simp only [List.getElem?_toArray, List.getElem?_cons_succ, List.getElem?_cons_zero]; rfl
          case hb24 => simp only [List.getElem?_toArray, List.getElem?_cons_succ, List.getElem?_cons_zero]; rfl
          case eA =>
            go_simp; go_at_call 41; refine HSP.out.mono ?_; rintro e w5 ⟨⟨v5, rfl, hown5⟩, hb5⟩; go_wp2_with fail
            refine hK.out _ _ ((Only.of hb5)) (fun hHeld2 => ?_)
            clear hK K hHeld
            have hHeld := hHeld2
            clear hHeld2
            try simp only [Act.put, List.setIfInBounds_toArray, List.set_cons_zero, List.set_cons_succ]
            have hgc5 := cell_below hgc' hb5
            refine wpAnyH_ready (rs := [7]) (by kernel_rfl) (by simp) ?_
            refine AllReadyH.cons (o := ?oi25) ?hi25 (fun K hK => ?_) AllReadyH.nil
            case hi25 => simp only [List.getElem?_toArray, List.getElem?_cons_succ, List.getElem?_cons_zero]; rfl
            go_simp
            refine hK.out _ _ ((Only.of hb5)) (fun hHeld2 => ?_)
            clear hK K hHeld
            have hHeld := hHeld2
            clear hHeld2
            try simp only [Act.put, List.setIfInBounds_toArray, List.set_cons_zero, List.set_cons_succ]
            have hown5 := own_le (base' := w3.drew.heap.size) hown5 (Nat.le_succ _)
            obtain ⟨v6, w6, hap, hown6, hg6⟩ := HAP.out v5 w5 hb5 hown5 hb5.size
            have hb6 : Below w3.drew.heap.size w3.drew w6 := hb5.grown hg6 hb5.size (fun k hk => (hown5.lt k hk).1)
            refine wpAnyH_ready (rs := [8]) (by kernel_rfl) (by simp) ?_
            refine AllReadyH.cons (o := ?oi26) ?hi26 (fun K hK => ?_) AllReadyH.nil
            case hi26 => simp only [List.getElem?_toArray, List.getElem?_cons_succ, List.getElem?_cons_zero]; rfl
            refine step_append_run rfl (.tmp 57) (.tmp 61) 35 35 rfl rfl rfl hap ?_
            refine hK.out _ _ ((Only.of hb6)) (fun hHeld2 => ?_)
            clear hK K hHeld
            have hHeld := hHeld2
            clear hHeld2
            try simp only [Act.put, List.setIfInBounds_toArray, List.set_cons_zero, List.set_cons_succ]
            refine wpAnyH_take (i := 9) (oi := ?oi27) (v := ?v27) ?hi27 ?hs27 ?hf27 ?hr27 ?hQ27 (Or.inl ⟨?hg27, ?hy27⟩) hHeld ?rest27
            case hi27 => simp only [List.getElem?_toArray, List.getElem?_cons_succ, List.getElem?_cons_zero]; rfl
            case hs27 => kernel_rfl
            case hf27 => kernel_rfl
            case hr27 => kernel_rfl
            case hg27 => rfl
            case hy27 => (intro w hSw; first | (go_simp; done) | (go_simp; with_reducible rfl))
            case hQ27 => exact fun _ _ _ h => h
            try simp only [Act.put, List.setIfInBounds_toArray, List.set_cons_zero, List.set_cons_succ]
            refine wpAnyH_take (i := 10) (oi := ?oi28) (v := ?v28) ?hi28 ?hs28 ?hf28 ?hr28 ?hQ28 (Or.inl ⟨?hg28, ?hy28⟩) hHeld ?rest28
            case hi28 => simp only [List.getElem?_toArray, List.getElem?_cons_succ, List.getElem?_cons_zero]; rfl
            case hs28 => kernel_rfl
            case hf28 => kernel_rfl
            case hr28 => kernel_rfl
            case hg28 => rfl
            case hy28 => (intro w hSw; first | (go_simp; done) | (go_simp; with_reducible rfl))
            case hQ28 => exact fun _ _ _ h => h
            try simp only [Act.put, List.setIfInBounds_toArray, List.set_cons_zero, List.set_cons_succ]
            obtain ⟨A6, c6, hv6, hle6, hsl6, ha6, _⟩ := own_sl hown6
            subst hv6
            have gf6 := (W3.out.drew.below hb6).frozen 2
            have gc6 := cell_below hgc' hb6
            refine wpAnyH_ready (rs := [11]) (by kernel_rfl) (by simp) ?_
            refine AllReadyH.cons (o := ?oi29) ?hi29 (fun K hK => ?_) AllReadyH.nil
            case hi29 => simp only [List.getElem?_toArray, List.getElem?_cons_succ, List.getElem?_cons_zero]; rfl
            go_simp
            have W7 := Lib.hid ((W3.out.drew.below hb6).set 2 (.slice A6 ((splitB sr.target.data.toList).length + n) c6))
            have hA6 : ∀ a, A6 = some a → a.block ≠ g := fun a ha => by have := (ha6 a ha).1; have := W3.out.lt; have hz : w3.drew.heap.size = w3.heap.size := rfl; omega
            rw [← strs_append] at hsl6
            have S7 := Lib.hid (hsl6.strsOnly (w' := w6.setCell ⟨g, 2, none⟩ (.slice A6 ((splitB sr.target.data.toList).length + n) c6)) (W3.out.drew.below hb6) hA6 (fun k _ hk => Below.heap_setCell _ _ _ _ hk))
            have HA6 := Lib.hid hA6
            refine hK.out _ _ (((Only.of hb6).trans (Only.set (P := fun k => k = g) _ ⟨g, 2, none⟩ _ rfl))) (fun hHeld2 => ?_)
            clear hK K hHeld
            have hHeld := hHeld2
            clear hHeld2
            try simp only [Act.put, List.setIfInBounds_toArray, List.set_cons_zero, List.set_cons_succ]
            refine wpAnyH_done (by kernel_rfl) ?_ _
            clear hHeld
            have hn7 := ((N3.out.drew.below hb6).other (a := ⟨g, 2, none⟩) hsg (.slice A6 ((splitB sr.target.data.toList).length + n) c6)).cell 9
            have O67 := Lib.hid ((Only.of hb6).trans (Only.set (P := fun k => k = g) w6 ⟨g, 2, none⟩ (.slice A6 ((splitB sr.target.data.toList).length + n) c6) rfl))
            generalize hw7 : w6.setCell ⟨g, 2, none⟩ (.slice A6 ((splitB sr.target.data.toList).length + n) c6) = w7 at *
            simp only [List.getElem?_cons_zero, List.getElem?_cons_succ] at hn7
            obtain ⟨_, u1, _, _, uf⟩ := walker_cells W7.out
            have uf1 := uf 1
            clear hgc' hnt' hw7 gc6 gf6 uf hb6 hap hb5 hown5 hg6 hown6
            go_wp2_with fail
            refine (Tryz.strings_HasPrefix sr.target ⟨#[47]⟩ w7).mono ?_
            rintro e w8 ⟨rfl, rfl⟩
            have HP := Lib.hid (prefix_slash sr.target.data.toList)
            generalize Lib.hasPrefix sr.target.data.toList (⟨#[47]⟩ : ByteArray).data.toList = hp at *
            cases hp with
            | true =>
              have KP := Lib.hid (HP.out.1 rfl)
              have W8 := Lib.hid (W7.out.set 1 (.string ⟨#[]⟩))
              have S8 := Lib.hid (S7.out.strsOnly W7.out HA6.out (w' := w8.setCell ⟨g, 1, none⟩ (.string ⟨#[]⟩)) (fun k _ hk => Below.heap_setCell _ _ _ _ hk))
              go_wp2_with fail
              go_ret
              rw [K.out, if_pos KP.out]
              exact ⟨rfl, ⟨A6, _, c6, hle6, W8.out, S8.out, HA6.out⟩, (O3.out.drew.trans O67.out).trans (Only.set (P := fun k => k = g) _ ⟨g, 1, none⟩ _ rfl)⟩
            | false =>
              have KP := Lib.hid (show ¬ sr.target.data.toList[0]? = some 47 from fun h => by have := HP.out.2 h; cases this)
              go_wp2_with fail
              go_ret
              rw [K.out, if_neg KP.out]
              exact ⟨rfl, ⟨A6, _, c6, hle6, W7.out, S7.out, HA6.out⟩, O3.out.drew.trans O67.out⟩
          case eB =>
            go_simp
            refine hK.out _ _ ((Only.refl _ _)) (fun hHeld2 => ?_)
            clear hK K hHeld
            have hHeld := hHeld2
            clear hHeld2
            try simp only [Act.put, List.setIfInBounds_toArray, List.set_cons_zero, List.set_cons_succ]
            refine wpAnyH_ready (rs := [3]) (by kernel_rfl) (by simp) ?_
            refine AllReadyH.cons (o := ?oi30) ?hi30 (fun K hK => ?_) AllReadyH.nil
            case hi30 => simp only [List.getElem?_toArray, List.getElem?_cons_succ, List.getElem?_cons_zero]; rfl
            go_simp; go_at_call 41; refine HSP.out.mono ?_; rintro e w5 ⟨⟨v5, rfl, hown5⟩, hb5⟩; go_wp2_with fail
            refine hK.out _ _ ((Only.of hb5)) (fun hHeld2 => ?_)
            clear hK K hHeld
            have hHeld := hHeld2
            clear hHeld2
            try simp only [Act.put, List.setIfInBounds_toArray, List.set_cons_zero, List.set_cons_succ]
            have hown5 := own_le (base' := w3.drew.heap.size) hown5 (Nat.le_succ _)
            obtain ⟨v6, w6, hap, hown6, hg6⟩ := HAP.out v5 w5 hb5 hown5 hb5.size
            have hb6 : Below w3.drew.heap.size w3.drew w6 := hb5.grown hg6 hb5.size (fun k hk => (hown5.lt k hk).1)
            refine wpAnyH_ready (rs := [8]) (by kernel_rfl) (by simp) ?_
            refine AllReadyH.cons (o := ?oi31) ?hi31 (fun K hK => ?_) AllReadyH.nil
            case hi31 => simp only [List.getElem?_toArray, List.getElem?_cons_succ, List.getElem?_cons_zero]; rfl
            refine step_append_run rfl (.tmp 57) (.tmp 61) 35 35 rfl rfl rfl hap ?_
            refine hK.out _ _ ((Only.of hb6)) (fun hHeld2 => ?_)
            clear hK K hHeld
            have hHeld := hHeld2
            clear hHeld2
            try simp only [Act.put, List.setIfInBounds_toArray, List.set_cons_zero, List.set_cons_succ]
            refine wpAnyH_take (i := 9) (oi := ?oi32) (v := ?v32) ?hi32 ?hs32 ?hf32 ?hr32 ?hQ32 (Or.inl ⟨?hg32, ?hy32⟩) hHeld ?rest32
            case hi32 => simp only [List.getElem?_toArray, List.getElem?_cons_succ, List.getElem?_cons_zero]; rfl
            case hs32 => kernel_rfl
            case hf32 => kernel_rfl
            case hr32 => kernel_rfl
            case hg32 => rfl
            case hy32 => (intro w hSw; first | (go_simp; done) | (go_simp; with_reducible rfl))
            case hQ32 => exact fun _ _ _ h => h
            try simp only [Act.put, List.setIfInBounds_toArray, List.set_cons_zero, List.set_cons_succ]
            refine wpAnyH_take (i := 10) (oi := ?oi33) (v := ?v33) ?hi33 ?hs33 ?hf33 ?hr33 ?hQ33 (Or.inl ⟨?hg33, ?hy33⟩) hHeld ?rest33
            case hi33 => simp only [List.getElem?_toArray, List.getElem?_cons_succ, List.getElem?_cons_zero]; rfl
            case hs33 => kernel_rfl
            case hf33 => kernel_rfl
            case hr33 => kernel_rfl
            case hg33 => rfl
            case hy33 => (intro w hSw; first | (go_simp; done) | (go_simp; with_reducible rfl))
            case hQ33 => exact fun _ _ _ h => h
            try simp only [Act.put, List.setIfInBounds_toArray, List.set_cons_zero, List.set_cons_succ]
            obtain ⟨A6, c6, hv6, hle6, hsl6, ha6, _⟩ := own_sl hown6
            subst hv6
            have gf6 := (W3.out.drew.below hb6).frozen 2
            have gc6 := cell_below hgc' hb6
            refine wpAnyH_ready (rs := [11]) (by kernel_rfl) (by simp) ?_
            refine AllReadyH.cons (o := ?oi34) ?hi34 (fun K hK => ?_) AllReadyH.nil
            case hi34 => simp only [List.getElem?_toArray, List.getElem?_cons_succ, List.getElem?_cons_zero]; rfl
            go_simp
            have W7 := Lib.hid ((W3.out.drew.below hb6).set 2 (.slice A6 ((splitB sr.target.data.toList).length + n) c6))
            have hA6 : ∀ a, A6 = some a → a.block ≠ g := fun a ha => by have := (ha6 a ha).1; have := W3.out.lt; have hz : w3.drew.heap.size = w3.heap.size := rfl; omega
            rw [← strs_append] at hsl6
            have S7 := Lib.hid (hsl6.strsOnly (w' := w6.setCell ⟨g, 2, none⟩ (.slice A6 ((splitB sr.target.data.toList).length + n) c6)) (W3.out.drew.below hb6) hA6 (fun k _ hk => Below.heap_setCell _ _ _ _ hk))
            have HA6 := Lib.hid hA6
            refine hK.out _ _ (((Only.of hb6).trans (Only.set (P := fun k => k = g) _ ⟨g, 2, none⟩ _ rfl))) (fun hHeld2 => ?_)
            clear hK K hHeld
            have hHeld := hHeld2
            clear hHeld2
            try simp only [Act.put, List.setIfInBounds_toArray, List.set_cons_zero, List.set_cons_succ]
            refine wpAnyH_done (by kernel_rfl) ?_ _
            clear hHeld
            have hn7 := ((N3.out.drew.below hb6).other (a := ⟨g, 2, none⟩) hsg (.slice A6 ((splitB sr.target.data.toList).length + n) c6)).cell 9
            have O67 := Lib.hid ((Only.of hb6).trans (Only.set (P := fun k => k = g) w6 ⟨g, 2, none⟩ (.slice A6 ((splitB sr.target.data.toList).length + n) c6) rfl))
            generalize hw7 : w6.setCell ⟨g, 2, none⟩ (.slice A6 ((splitB sr.target.data.toList).length + n) c6) = w7 at *
            simp only [List.getElem?_cons_zero, List.getElem?_cons_succ] at hn7
            obtain ⟨_, u1, _, _, uf⟩ := walker_cells W7.out
            have uf1 := uf 1
            clear hgc' hnt' hw7 gc6 gf6 uf hb6 hap hb5 hown5 hg6 hown6
            go_wp2_with fail
            refine (Tryz.strings_HasPrefix sr.target ⟨#[47]⟩ w7).mono ?_
            rintro e w8 ⟨rfl, rfl⟩
            have HP := Lib.hid (prefix_slash sr.target.data.toList)
            generalize Lib.hasPrefix sr.target.data.toList (⟨#[47]⟩ : ByteArray).data.toList = hp at *
            cases hp with
            | true =>
              have KP := Lib.hid (HP.out.1 rfl)
              have W8 := Lib.hid (W7.out.set 1 (.string ⟨#[]⟩))
              have S8 := Lib.hid (S7.out.strsOnly W7.out HA6.out (w' := w8.setCell ⟨g, 1, none⟩ (.string ⟨#[]⟩)) (fun k _ hk => Below.heap_setCell _ _ _ _ hk))
              go_wp2_with fail
              go_ret
              rw [K.out, if_pos KP.out]
              exact ⟨rfl, ⟨A6, _, c6, hle6, W8.out, S8.out, HA6.out⟩, (O3.out.drew.trans O67.out).trans (Only.set (P := fun k => k = g) _ ⟨g, 1, none⟩ _ rfl)⟩
            | false =>
              have KP := Lib.hid (show ¬ sr.target.data.toList[0]? = some 47 from fun h => by have := HP.out.2 h; cases this)
              go_wp2_with fail
              go_ret
              rw [K.out, if_neg KP.out]
              exact ⟨rfl, ⟨A6, _, c6, hle6, W7.out, S7.out, HA6.out⟩, O3.out.drew.trans O67.out⟩
      · have e2 : (sr.kind != 3) = true := by simpa using hk3
        have K := Lib.hid (show X = ({ s with at_ := q }, (0 : Int)) by rw [← HX1.out, if_pos hk3])
        clear hk3
        go_wp2_with fail
        go_ret
        rw [K.out]
        obtain ⟨hw3, hs3, ho3⟩ := set_alloc HB1.out W1.out S1.out H3.out 1 (.string (str q)) (.cells #[.int .i64 sr.kind, .int .i64 sr.ino, .int .i64 sr.size, .int .i64 sr.links, .int .i64 sr.mt.m0, .int .i64 sr.mt.m1, .int .i64 sr.mt.m2, .int .i64 sr.mt.m3, .int .i64 sr.mt.m4, .string sr.target] 55)
        exact ⟨rfl, ⟨A, n, cc, hnc, (by exact hw3), hs3, H3.out⟩, ho3⟩
    · have e1 : (er != 0) = true := by simpa using her
      have K := Lib.hid (show X = (s, (10 : Int)) by rw [← HX.out]; simp only [hkk])
      clear her hkk HX RS
      go_wp2_with fail
      go_ret
      rw [K.out]
      exact ⟨rfl, ⟨A, n, cc, hnc, W2.out, S2.out, H3.out⟩, Only.of HB2.out⟩
end Go.Proofs.YtlbbehfbjbbckaaGreatDoor
