import Derived.Test.YtlndiddplfoceaaDoorSh2
import Derived.Test.YtlndiddplfoceaaDoorRegI
set_option linter.unusedVariables false
set_option linter.unusedSimpArgs false
namespace Go.Proofs.YtlndiddplfoceaaDoor
open Go.RowKit

/-- A state's block: the words, the bytes that wait, how many wait, how many came. -/
def stC (h : List Int) (bs : List UInt8) (hv n : Int) : List Value := u32s h ++ bys bs ++ [.int .i64 hv, .int .i64 n]
def St (w : World) (g : Nat) (h : List Int) (bs : List UInt8) (hv n : Int) : Prop := Blk w g 50 (stC h bs hv n)
theorem zero8 : (u32s (zeroL 8)).toArray = #[.int .u32 0, .int .u32 0, .int .u32 0, .int .u32 0, .int .u32 0, .int .u32 0, .int .u32 0, .int .u32 0] := by kernel_rfl
def tkF (g : Nat) (x15 x16 x17 x21 x2 x3 x4 : Value) : Act := ⟨#[.pointer (some ⟨g, 0, none⟩), undef, x2, x3, x4, undef, undef, undef, undef, undef, undef, undef, .pointer (some ⟨g, 0, none⟩), .pointer (some ⟨g, 0, none⟩), .pointer (some ⟨g, 8, none⟩), x15, x16, x17, .pointer (some ⟨g, 0, none⟩), .pointer (some ⟨g, 0, none⟩), .pointer (some ⟨g, 0, none⟩), x21, undef, undef, undef, undef, undef, undef, undef, undef, undef, undef, undef, undef, undef, undef, undef, undef, undef, undef, undef, undef, undef, undef, undef, undef, undef, undef, undef, undef, undef, undef, undef, undef, undef, undef, undef, undef, undef, undef, undef, undef, undef, undef, undef, undef, undef, undef, undef, undef, undef, undef, undef, undef, undef, undef, undef, undef, undef, undef, undef, undef, undef, undef, undef, undef, undef, undef, undef, undef, undef, undef, undef, undef, undef, undef, undef, undef, undef, undef, undef, undef, undef, undef, undef, undef, undef, undef, undef, undef, undef, undef, undef, undef, undef, undef], []⟩
def bN (b : Bool) : Nat := if b then 0 else 1

theorem under64b : Tryd.prog.underlying 48 = some (.array 64 5) := by kernel_rfl
def headOps : Code → Array Oper
  | .region _ o _ => o
  | .seq a _ => headOps a
  | .block _ c => headOps c
  | _ => #[]
noncomputable def tkOps : Array Oper := (Tryd.f26.body.map headOps).getD #[]
noncomputable def tkChk (R : List Nat) (d3 d4 d5 d9 d10 d11 d12 d13 d14 d15 : Bool) : Bool :=
  (!R.isEmpty || (d3 && d4 && d5 && d9 && d10 && d11 && d12 && d13 && d14 && d15)) &&
  R.all fun i => i == 3 && !d3 || i == 4 && !d4 && d3 || i == 5 && !d5 || i == 9 && !d9 || i == 10 && !d10 || i == 11 && !d11 || i == 12 && !d12 ||
    i == 13 && !d13 && d4 && d10 || i == 14 && !d14 && d5 && d11 || i == 15 && !d15 && d9 && d12
set_option maxRecDepth 100000 in
theorem tk_chk : ∀ d3 d4 d5 d9 d10 d11 d12 d13 d14 d15 : Bool,
    tkChk (Region.ready .any tkOps #[true, true, true, d3, d4, d5, true, true, true, d9, d10, d11, d12, d13, d14, d15]) d3 d4 d5 d9 d10 d11 d12 d13 d14 d15 = true := by decide +kernel
theorem tk_rdy (d3 d4 d5 d9 d10 d11 d12 d13 d14 d15 : Bool) :
    (Region.ready .any tkOps #[true, true, true, d3, d4, d5, true, true, true, d9, d10, d11, d12, d13, d14, d15] = [] → (d3 && d4 && d5 && d9 && d10 && d11 && d12 && d13 && d14 && d15) = true) ∧
    ∀ i ∈ Region.ready .any tkOps #[true, true, true, d3, d4, d5, true, true, true, d9, d10, d11, d12, d13, d14, d15],
      i = 3 ∧ d3 = false ∨ i = 4 ∧ d4 = false ∧ d3 = true ∨ i = 5 ∧ d5 = false ∨ i = 9 ∧ d9 = false ∨ i = 10 ∧ d10 = false ∨ i = 11 ∧ d11 = false ∨ i = 12 ∧ d12 = false ∨
      i = 13 ∧ d13 = false ∧ d4 = true ∧ d10 = true ∨ i = 14 ∧ d14 = false ∧ d5 = true ∧ d11 = true ∨ i = 15 ∧ d15 = false ∧ d9 = true ∧ d12 = true := by
  have h := tk_chk d3 d4 d5 d9 d10 d11 d12 d13 d14 d15
  generalize Region.ready .any tkOps #[true, true, true, d3, d4, d5, true, true, true, d9, d10, d11, d12, d13, d14, d15] = R at h
  unfold tkChk at h
  rw [Bool.and_eq_true, List.all_eq_true] at h
  refine ⟨fun hR => ?_, fun i hi => ?_⟩
  · subst hR; simpa using h.1
  · have := h.2 i hi
    simp only [Bool.or_eq_true, Bool.and_eq_true, beq_iff_eq, Bool.not_eq_true'] at this
    rcases this with ((((((((((h1 | h1) | h1) | h1) | h1) | h1) | h1)) | h1) | h1) | h1)
    · exact .inl h1
    · exact .inr (.inl ⟨h1.1.1, h1.1.2, h1.2⟩)
    · exact .inr (.inr (.inl h1))
    · exact .inr (.inr (.inr (.inl h1)))
    · exact .inr (.inr (.inr (.inr (.inl h1))))
    · exact .inr (.inr (.inr (.inr (.inr (.inl h1)))))
    · exact .inr (.inr (.inr (.inr (.inr (.inr (.inl h1))))))
    · exact .inr (.inr (.inr (.inr (.inr (.inr (.inr (.inl ⟨h1.1.1.1, h1.1.1.2, h1.1.2, h1.2⟩)))))))
    · exact .inr (.inr (.inr (.inr (.inr (.inr (.inr (.inr (.inl ⟨h1.1.1.1, h1.1.1.2, h1.1.2, h1.2⟩))))))))
    · exact .inr (.inr (.inr (.inr (.inr (.inr (.inr (.inr (.inr ⟨h1.1.1.1, h1.1.1.2, h1.1.2, h1.2⟩))))))))
/-- What holds between the operations of take's first statement. -/
structure TkI (H g : Nat) (W : World) (h : List Int) (bs : List UInt8) (hv n : Int) (d3 d4 d5 d9 d10 d11 d12 d13 d14 d15 : Bool) (x15 x16 x17 x21 x2 x3 x4 : Value) (b2 b3 b4 : Nat) (w : World) : Prop where
  st : St w g h bs hv n
  be : Below H W w
  s3 : d3 = true → x15 = .agg (bys bs).toArray
  s4 : d4 = true → x16 = .agg (u32s (wX bs 48)).toArray
  s5 : d5 = true → x17 = .agg (u32s kI).toArray
  s9 : d9 = true → x21 = .agg (u32s h).toArray
  s10 : d10 = true → x2 = .pointer (some ⟨b2, 0, none⟩) ∧ H ≤ b2 ∧ Blk w b2 55 (if d13 then u32s (wX bs 48) else u32s (zeroL 64))
  s11 : d11 = true → x3 = .pointer (some ⟨b3, 0, none⟩) ∧ H ≤ b3 ∧ Blk w b3 55 (if d14 then u32s kI else u32s (zeroL 64))
  s12 : d12 = true → x4 = .pointer (some ⟨b4, 0, none⟩) ∧ H ≤ b4 ∧ Blk w b4 46 (if d15 then u32s h else u32s (zeroL 8))
  sn : d10 = true → d11 = true → b2 ≠ b3
  c13 : d10 = false → d13 = false
  c14 : d11 = false → d14 = false
  c15 : d12 = false → d15 = false
  be' : H ≤ w.heap.size
def TkJ (H g : Nat) (W : World) (h : List Int) (bs : List UInt8) (hv n : Int) (k : Nat) (L : Array Bool) (a : Act) (w : World) : Prop :=
  ∃ d3 d4 d5 d9 d10 d11 d12 d13 d14 d15, ∃ x15 x16 x17 x21 x2 x3 x4 : Value, ∃ b2 b3 b4,
    L = #[true, true, true, d3, d4, d5, true, true, true, d9, d10, d11, d12, d13, d14, d15] ∧
    k = bN d3 + bN d4 + bN d5 + bN d9 + bN d10 + bN d11 + bN d12 + bN d13 + bN d14 + bN d15 ∧
    a = tkF g x15 x16 x17 x21 x2 x3 x4 ∧ TkI H g W h bs hv n d3 d4 d5 d9 d10 d11 d12 d13 d14 d15 x15 x16 x17 x21 x2 x3 x4 b2 b3 b4 w

theorem stC_h {h : List Int} {bs : List UInt8} {hv n : Int} (hl : h.length = 8) : (stC h bs hv n).take 8 = u32s h := by
  unfold stC; rw [List.append_assoc, List.take_append_of_le_length (by rw [u32s_len]; omega), List.take_of_length_le (by rw [u32s_len]; omega)]
theorem St.range_h {w : World} {g : Nat} {h : List Int} {bs : List UInt8} {hv n : Int} (s : St w g h bs hv n) (hl : h.length = 8) : w.rangeAt g 0 (u32s h) := fun j v hj => by
  have hj8 : j < (u32s h).length := (List.getElem?_eq_some_iff.1 hj).1
  rw [Nat.zero_add, s.cell]
  unfold stC
  rw [List.append_assoc, List.getElem?_append_left hj8, hj]
theorem St.range_b {w : World} {g : Nat} {h : List Int} {bs : List UInt8} {hv n : Int} (s : St w g h bs hv n) (hl : h.length = 8) : w.rangeAt g 8 (bys bs) := fun j v hj => by
  have hj8 : j < (bys bs).length := (List.getElem?_eq_some_iff.1 hj).1
  rw [s.cell]
  unfold stC
  rw [List.append_assoc, List.getElem?_append_right (by rw [u32s_len]; omega), u32s_len, hl, show 8 + j - 8 = j by omega, List.getElem?_append_left hj8, hj]

set_option maxRecDepth 100000 in
set_option maxHeartbeats 2000000 in
theorem tk_region (H g : Nat) (h : List Int) (bs : List UInt8) (hv n : Int) (w : World) (hh : h.length = 8) (hb : bs.length = 64) (hs : St w g h bs hv n) (hH : w.heap.size = H) (Q : Exit → Act → World → Prop)
    (hsz64 : (Tryd.prog.info? 48).map (·.size) = some (bys bs).length)
    {i64 i8 : TypeInfo} (hi64 : Tryd.prog.info? 55 = some i64) (hz64 : i64.zero = some (.agg (u32s (zeroL 64)).toArray)) (hi8 : Tryd.prog.info? 46 = some i8) (hz8 : i8.zero = some (.agg (u32s (zeroL 8)).toArray))
    (hsz8 : (Tryd.prog.info? 46).map (·.size) = some (u32s h).length)
    (hfin : ∀ (x15 x16 x17 x21 x2 x3 x4 : Value) (b2 b3 b4 : Nat) (w1 : World), TkI H g w h bs hv n true true true true true true true true true true x15 x16 x17 x21 x2 x3 x4 b2 b3 b4 w1 → Q Exit.normal (tkF g x15 x16 x17 x21 x2 x3 x4) w1) :
    wpAny Tryd.prog .any tkOps Q 10 #[true, true, true, false, false, false, true, true, true, false, false, false, false, false, false, false] (tkF g undef undef undef undef undef undef undef) w.drew := by
  refine wpAny_inv (ops := tkOps) (TkJ H g w h bs hv n) ?_ ?_ _ _ _ _ ⟨false, false, false, false, false, false, false, false, false, false, undef, undef, undef, undef, undef, undef, undef, 0, 0, 0, rfl, rfl, rfl, hs.drew, (Below.refl _ _).drew, by simp, by simp, by simp, by simp, by simp, by simp, by simp, by simp, fun _ => rfl, fun _ => rfl, fun _ => rfl, by rw [← hH]; exact Nat.le_refl _⟩
  · intro L a w1 hJ
    obtain ⟨d3, d4, d5, d9, d10, d11, d12, d13, d14, d15, x15, x16, x17, x21, x2, x3, x4, b2, b3, b4, rfl, hk, rfl, I⟩ := hJ
    have hall : d3 = true ∧ d4 = true ∧ d5 = true ∧ d9 = true ∧ d10 = true ∧ d11 = true ∧ d12 = true ∧ d13 = true ∧ d14 = true ∧ d15 = true := by
      have e : ∀ d : Bool, bN d = 0 → d = true := by decide
      refine ⟨e _ ?_, e _ ?_, e _ ?_, e _ ?_, e _ ?_, e _ ?_, e _ ?_, e _ ?_, e _ ?_, e _ ?_⟩ <;> omega
    obtain ⟨rfl, rfl, rfl, rfl, rfl, rfl, rfl, rfl, rfl, rfl⟩ := hall
    exact ⟨by kernel_rfl, hfin _ _ _ _ _ _ _ _ _ _ _ I⟩
  · intro k L a w1 hJ
    obtain ⟨d3, d4, d5, d9, d10, d11, d12, d13, d14, d15, x15, x16, x17, x21, x2, x3, x4, b2, b3, b4, rfl, hk, rfl, I⟩ := hJ
    obtain ⟨hr1, hr2⟩ := tk_rdy d3 d4 d5 d9 d10 d11 d12 d13 d14 d15
    refine ⟨fun hr => ?_, fun i hi => ?_⟩
    · have := hr1 hr
      simp only [Bool.and_eq_true] at this
      obtain ⟨⟨⟨⟨⟨⟨⟨⟨⟨rfl, rfl⟩, rfl⟩, rfl⟩, rfl⟩, rfl⟩, rfl⟩, rfl⟩, rfl⟩, rfl⟩ := this
      exact hfin _ _ _ _ _ _ _ _ _ _ _ I
    · rcases hr2 i hi with ⟨rfl, rfl⟩ | ⟨rfl, rfl, rfl⟩ | ⟨rfl, rfl⟩ | ⟨rfl, rfl⟩ | ⟨rfl, rfl⟩ | ⟨rfl, rfl⟩ | ⟨rfl, rfl⟩ | ⟨rfl, rfl, rfl, rfl⟩ | ⟨rfl, rfl, rfl, rfl⟩ | ⟨rfl, rfl, rfl, rfl⟩
      · refine wpOp_do (o := _) rfl rfl ?_
        refine wp_load_mid 48 (.tmp 14) rfl g 8 rfl (bys bs) _ (I.st.range_b hh) under64b rfl hsz64 ?_
        exact ⟨true, d4, d5, d9, d10, d11, d12, d13, d14, d15, _, x16, x17, x21, x2, x3, x4, b2, b3, b4, rfl, by simp [bN] at hk ⊢; omega, rfl, I.st, I.be, fun _ => rfl, I.s4, I.s5, I.s9, I.s10, I.s11, I.s12, I.sn, I.c13, I.c14, I.c15, I.be'⟩
      · refine wpOp_do (o := _) rfl rfl ?_
        refine wp_callT 30 _ _ rfl Tryd.func30 (by kernel_rfl) rfl (vs := #[.agg (bys bs).toArray]) (by rw [← I.s3 rfl]; simp only [List.map_toArray, List.map_cons, List.map_nil]; rfl) (words_any bs hb w1) ?_
        intro w2 hb2
        have hkeep : ∀ g' T cs, Blk w1 g' T cs → Blk w2 g' T cs := fun g' T cs h' => h'.below hb2
        exact ⟨true, true, d5, d9, d10, d11, d12, d13, d14, d15, x15, _, x17, x21, x2, x3, x4, b2, b3, b4, rfl, by simp [bN] at hk ⊢; omega, rfl, hkeep _ _ _ I.st, I.be.trans (hb2.mono I.be'), I.s3, fun _ => rfl, I.s5, I.s9, fun d => ⟨(I.s10 d).1, (I.s10 d).2.1, hkeep _ _ _ (I.s10 d).2.2⟩, fun d => ⟨(I.s11 d).1, (I.s11 d).2.1, hkeep _ _ _ (I.s11 d).2.2⟩, fun d => ⟨(I.s12 d).1, (I.s12 d).2.1, hkeep _ _ _ (I.s12 d).2.2⟩, I.sn, I.c13, I.c14, I.c15, Nat.le_trans I.be' hb2.size⟩
      · refine wpOp_do (o := _) rfl rfl ?_
        refine wp_callT 31 _ _ rfl Tryd.func31 (by kernel_rfl) rfl (vs := #[]) (by simp) (factors_any w1) ?_
        intro w2 hb2
        have hkeep : ∀ g' T cs, Blk w1 g' T cs → Blk w2 g' T cs := fun g' T cs h' => h'.below hb2
        exact ⟨d3, d4, true, d9, d10, d11, d12, d13, d14, d15, x15, x16, _, x21, x2, x3, x4, b2, b3, b4, rfl, by simp [bN] at hk ⊢; omega, rfl, hkeep _ _ _ I.st, I.be.trans (hb2.mono I.be'), I.s3, I.s4, fun _ => rfl, I.s9, fun d => ⟨(I.s10 d).1, (I.s10 d).2.1, hkeep _ _ _ (I.s10 d).2.2⟩, fun d => ⟨(I.s11 d).1, (I.s11 d).2.1, hkeep _ _ _ (I.s11 d).2.2⟩, fun d => ⟨(I.s12 d).1, (I.s12 d).2.1, hkeep _ _ _ (I.s12 d).2.2⟩, I.sn, I.c13, I.c14, I.c15, Nat.le_trans I.be' hb2.size⟩
      · refine wpOp_do (o := _) rfl rfl ?_
        refine wp_load_mid 46 (.tmp 20) rfl g 0 rfl (u32s h) _ (I.st.range_h hh) under8 rfl hsz8 ?_
        exact ⟨d3, d4, d5, true, d10, d11, d12, d13, d14, d15, x15, x16, x17, _, x2, x3, x4, b2, b3, b4, rfl, by simp [bN] at hk ⊢; omega, rfl, I.st, I.be, I.s3, I.s4, I.s5, fun _ => rfl, I.s10, I.s11, I.s12, I.sn, I.c13, I.c14, I.c15, I.be'⟩
      · refine wpOp_do (o := _) rfl rfl ?_
        refine wp_allocT 55 rfl hi64 hz64 ?_
        have hkeep : ∀ g' T cs, Blk w1 g' T cs → Blk (w1.alloc (.cells (u32s (zeroL 64)).toArray 55)) g' T cs := fun g' T cs h' => h'.alloc _
        have hd13 : d13 = false := I.c13 rfl
        exact ⟨d3, d4, d5, d9, true, d11, d12, d13, d14, d15, x15, x16, x17, x21, _, x3, x4, w1.heap.size, b3, b4, rfl, by simp [bN] at hk ⊢; omega, rfl, hkeep _ _ _ I.st, I.be.alloc I.be' _, I.s3, I.s4, I.s5, I.s9, fun d => ⟨rfl, I.be', by rw [hd13]; exact Blk.new _ _ _⟩, fun d => ⟨(I.s11 d).1, (I.s11 d).2.1, hkeep _ _ _ (I.s11 d).2.2⟩, fun d => ⟨(I.s12 d).1, (I.s12 d).2.1, hkeep _ _ _ (I.s12 d).2.2⟩, fun _ d => Nat.ne_of_gt (I.s11 d).2.2.lt, fun h => by simp at h, I.c14, I.c15, by rw [World.size_alloc]; exact Nat.le_succ_of_le I.be'⟩
      · refine wpOp_do (o := _) rfl rfl ?_
        refine wp_allocT 55 rfl hi64 hz64 ?_
        have hkeep : ∀ g' T cs, Blk w1 g' T cs → Blk (w1.alloc (.cells (u32s (zeroL 64)).toArray 55)) g' T cs := fun g' T cs h' => h'.alloc _
        have hd14 : d14 = false := I.c14 rfl
        exact ⟨d3, d4, d5, d9, d10, true, d12, d13, d14, d15, x15, x16, x17, x21, x2, _, x4, b2, w1.heap.size, b4, rfl, by simp [bN] at hk ⊢; omega, rfl, hkeep _ _ _ I.st, I.be.alloc I.be' _, I.s3, I.s4, I.s5, I.s9, fun d => ⟨(I.s10 d).1, (I.s10 d).2.1, hkeep _ _ _ (I.s10 d).2.2⟩, fun d => ⟨rfl, I.be', by rw [hd14]; exact Blk.new _ _ _⟩, fun d => ⟨(I.s12 d).1, (I.s12 d).2.1, hkeep _ _ _ (I.s12 d).2.2⟩, fun d _ => Nat.ne_of_lt (I.s10 d).2.2.lt, I.c13, fun h => by simp at h, I.c15, by rw [World.size_alloc]; exact Nat.le_succ_of_le I.be'⟩
      · refine wpOp_do (o := _) rfl rfl ?_
        refine wp_allocT 46 rfl hi8 hz8 ?_
        have hkeep : ∀ g' T cs, Blk w1 g' T cs → Blk (w1.alloc (.cells (u32s (zeroL 8)).toArray 46)) g' T cs := fun g' T cs h' => h'.alloc _
        have hd15 : d15 = false := I.c15 rfl
        exact ⟨d3, d4, d5, d9, d10, d11, true, d13, d14, d15, x15, x16, x17, x21, x2, x3, _, b2, b3, w1.heap.size, rfl, by simp [bN] at hk ⊢; omega, rfl, hkeep _ _ _ I.st, I.be.alloc I.be' _, I.s3, I.s4, I.s5, I.s9, fun d => ⟨(I.s10 d).1, (I.s10 d).2.1, hkeep _ _ _ (I.s10 d).2.2⟩, fun d => ⟨(I.s11 d).1, (I.s11 d).2.1, hkeep _ _ _ (I.s11 d).2.2⟩, fun d => ⟨rfl, I.be', by rw [hd15]; exact Blk.new _ _ _⟩, I.sn, I.c13, I.c14, fun h => by simp at h, by rw [World.size_alloc]; exact Nat.le_succ_of_le I.be'⟩
      · refine wpOp_do (o := _) rfl rfl ?_
        obtain ⟨e2, hb2, k2⟩ := I.s10 rfl
        have hwl : (u32s (wX bs 48)).toArray.size = 64 := by simp [u32s_len, wX_len]
        refine wp_store_rowT 55 (.tmp 2) (.tmp 16) rfl b2 (u32s (wX bs 48)).toArray _ _ e2 (I.s4 rfl) k2 (by rw [hwl]; kernel_rfl) (by rw [hwl]; simp [u32s_len, zeroL]) (by simp [u32s, Value.oneCell']) ?_
        have hkeep : ∀ g' T cs, Blk w1 g' T cs → g' ≠ b2 → Blk (w1.setRow b2 (u32s (wX bs 48)).toArray) g' T cs := fun g' T cs h' hne => h'.setRow_other hne _
        exact ⟨d3, true, d5, d9, true, d11, d12, true, d14, d15, x15, x16, x17, x21, x2, x3, x4, b2, b3, b4, rfl, by simp [bN] at hk ⊢; omega, rfl, hkeep _ _ _ I.st (Blk.ne k2 I.st (by decide)).symm, below_setRow I.be hb2 _, I.s3, I.s4, I.s5, I.s9, fun d => ⟨e2, hb2, k2.setRow _⟩, fun d => ⟨(I.s11 d).1, (I.s11 d).2.1, hkeep _ _ _ (I.s11 d).2.2 (I.sn rfl d).symm⟩, fun d => ⟨(I.s12 d).1, (I.s12 d).2.1, hkeep _ _ _ (I.s12 d).2.2 (Blk.ne k2 (I.s12 d).2.2 (by decide)).symm⟩, I.sn, fun h => by simp at h, I.c14, I.c15, by simpa using I.be'⟩
      · refine wpOp_do (o := _) rfl rfl ?_
        obtain ⟨e3, hb3, k3⟩ := I.s11 rfl
        refine wp_store_rowT 55 (.tmp 3) (.tmp 17) rfl b3 (u32s kI).toArray _ _ e3 (I.s5 rfl) k3 (by kernel_rfl) (by simp [u32s_len, zeroL]; rfl) (by simp [u32s, Value.oneCell']) ?_
        have hkeep : ∀ g' T cs, Blk w1 g' T cs → g' ≠ b3 → Blk (w1.setRow b3 (u32s kI).toArray) g' T cs := fun g' T cs h' hne => h'.setRow_other hne _
        exact ⟨d3, d4, true, d9, d10, true, d12, d13, true, d15, x15, x16, x17, x21, x2, x3, x4, b2, b3, b4, rfl, by simp [bN] at hk ⊢; omega, rfl, hkeep _ _ _ I.st (Blk.ne k3 I.st (by decide)).symm, below_setRow I.be hb3 _, I.s3, I.s4, I.s5, I.s9, fun d => ⟨(I.s10 d).1, (I.s10 d).2.1, hkeep _ _ _ (I.s10 d).2.2 (I.sn d rfl)⟩, fun d => ⟨e3, hb3, k3.setRow _⟩, fun d => ⟨(I.s12 d).1, (I.s12 d).2.1, hkeep _ _ _ (I.s12 d).2.2 (Blk.ne k3 (I.s12 d).2.2 (by decide)).symm⟩, I.sn, I.c13, fun h => by simp at h, I.c15, by simpa using I.be'⟩
      · refine wpOp_do (o := _) rfl rfl ?_
        obtain ⟨e4, hb4, k4⟩ := I.s12 rfl
        have hwl : (u32s h).toArray.size = 8 := by simp [u32s_len, hh]
        refine wp_store_rowT 46 (.tmp 4) (.tmp 21) rfl b4 (u32s h).toArray _ _ e4 (I.s9 rfl) k4 (by rw [hwl]; kernel_rfl) (by rw [hwl]; simp [u32s_len, zeroL]) (by simp [u32s, Value.oneCell']) ?_
        have hkeep : ∀ g' T cs, Blk w1 g' T cs → g' ≠ b4 → Blk (w1.setRow b4 (u32s h).toArray) g' T cs := fun g' T cs h' hne => h'.setRow_other hne _
        exact ⟨d3, d4, d5, true, d10, d11, true, d13, d14, true, x15, x16, x17, x21, x2, x3, x4, b2, b3, b4, rfl, by simp [bN] at hk ⊢; omega, rfl, hkeep _ _ _ I.st (Blk.ne k4 I.st (by decide)).symm, below_setRow I.be hb4 _, I.s3, I.s4, I.s5, I.s9, fun d => ⟨(I.s10 d).1, (I.s10 d).2.1, hkeep _ _ _ (I.s10 d).2.2 (Blk.ne k4 (I.s10 d).2.2 (by decide)).symm⟩, fun d => ⟨(I.s11 d).1, (I.s11 d).2.1, hkeep _ _ _ (I.s11 d).2.2 (Blk.ne k4 (I.s11 d).2.2 (by decide)).symm⟩, fun d => ⟨e4, hb4, k4.setRow _⟩, I.sn, I.c13, I.c14, fun h => by simp at h, by simpa using I.be'⟩
end Go.Proofs.YtlndiddplfoceaaDoor
