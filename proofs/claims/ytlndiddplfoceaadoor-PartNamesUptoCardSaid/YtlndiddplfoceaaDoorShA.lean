import Derived.Test.YtlndiddplfoceaaDoorSh9
import Derived.Test.YtlndiddplfoceaaDoorAppAt
set_option linter.unusedVariables false
set_option linter.unusedSimpArgs false
namespace Go.Proofs.YtlndiddplfoceaaDoor
open Go.RowKit

theorem step_append_run {P : Program} {w w' : World} {ops : Array Oper} {o : Oper} {a : Act} {K : Act → World → Prop} {Q : Exit → Act → World → Prop} {E : Prop} (hgd : o.guard = none) (s x : Operand) (t u : TypeId)
    (ho : o.op = .call { callee := .builtin .append, args := #[s, x], argTypes := #[t, u] }) {v sv xv : Value} (hs : a.eval s = sv) (hx : a.eval x = xv)
    (hr : (Builtin.append_ #[t, u] o.type #[sv, xv]).run P w = .ok v w')
    (h : K (a.put o.dst v) w') :
    if Region.wanted o (yielded ops a.tmps) = true then Oper.wp P o a w K Q else E := by
  have hw : Region.wanted o (yielded ops a.tmps) = true := by simp [Region.wanted, hgd]
  rw [if_pos hw]
  unfold Oper.wp execOp
  simp only [ho, resolve, invoke, builtin, Sem.run_bind, Sem.run_pure, Result.andThen_ok, List.map_toArray, List.map_cons, List.map_nil, hs, hx, hr]
  exact h
def digL : List UInt8 := [48, 49, 50, 51, 52, 53, 54, 55, 56, 57, 97, 98, 99, 100, 101, 102]
def digU (i : Nat) : UInt8 := digL.getD i 0
def hexB (l : List UInt8) : List UInt8 := l.flatMap fun c => [digU (c.toNat / 16), digU (c.toNat % 16)]

theorem dig_get (i : Nat) (h : i < (⟨#[48, 49, 50, 51, 52, 53, 54, 55, 56, 57, 97, 98, 99, 100, 101, 102]⟩ : ByteArray).size) : (⟨#[48, 49, 50, 51, 52, 53, 54, 55, 56, 57, 97, 98, 99, 100, 101, 102]⟩ : ByteArray)[i]'h = digU i := by
  have h16 : i < 16 := h
  have key : ∀ k : Fin 16, (⟨#[48, 49, 50, 51, 52, 53, 54, 55, 56, 57, 97, 98, 99, 100, 101, 102]⟩ : ByteArray)[k.val]'(k.isLt) = digU k.val := by decide
  exact key ⟨i, h16⟩
set_option maxRecDepth 100000 in
set_option maxHeartbeats 1000000 in
theorem text_any (s : ByteArray) (w : World) (hs : s.size ≤ 1099511627776) :
    Calls Tryd.prog 9 #[.string s] w fun e w' => e = .returned (.string (str (hexB s.data.toList))) ∧ Below w.heap.size w w' := by
  obtain ⟨j0, ji, jz0, jz1, jz2⟩ := info_parts infoB
  go_enter Tryd.func9, Tryd.ntmps9
  have hmk := run_make (P := Tryd.prog) (w := w) 26 5 j0 (.int .u8 0) Tryd.underlying26 ji jz0 .i64 .i64 0 (2 * (s.size : Int)) (by omega) (by omega) (by rw [jz2]; omega) (by omega)
  rw [show (0 : Int).toNat = 0 from rfl, show (2 * (s.size : Int)).toNat = 2 * s.size by omega, jz1] at hmk
  have hown0 := World.ownsRow_made (base := w.heap.size) (e := 5) (size := 1) w (madeCells (Value.int .u8 0).cells (2 * s.size * 1)) (2 * s.size) (Nat.le_refl _) (by unfold maxLen; omega) (size_madeCells _ _)
  have hb0 : Below w.heap.size w (w.alloc (.cells (madeCells (Value.int .u8 0).cells (2 * s.size * 1)) 5)) := (Below.refl _ _).alloc (Nat.le_refl _) _
  have hsz0 : (w.alloc (.cells (madeCells (Value.int .u8 0).cells (2 * s.size * 1)) 5)).heap.size = w.heap.size + 1 := World.size_alloc _ _
  generalize w.alloc (.cells (madeCells (Value.int .u8 0).cells (2 * s.size * 1)) 5) = w1 at *
  obtain ⟨c2, w2, hcv, hc2, hsl2, hb2, hlt2⟩ := conv_bytes (P := Tryd.prog) w1 9 26 5 s Tryd.underlying9 Tryd.underlying26 Tryd.underlying5 (by omega)
  rw [hsz0] at hcv hsl2
  have O2 := Lib.hid (own_below hown0 hb2)
  have B2 := Lib.hid (hb0.trans (hb2.mono hb0.size))
  have S2 := Lib.hid hsl2
  have HLT := Lib.hid (show w.heap.size + 1 < w2.heap.size by rw [← hsz0]; exact hlt2)
  clear hown0 hb0 hb2 hsl2 hlt2
  go_wp2_with fail
  go_loopw [3, 13] (fun v u wr => ∃ i : Nat, u = .int .i64 i ∧ i ≤ s.size ∧ wr.ownsRow w.heap.size 5 1 v (2 * i) (bys (hexB (s.data.toList.take i))) ∧ Sl 1 wr (some ⟨w.heap.size + 1, 0, none⟩) s.size (bys s.data.toList) ∧ v.ownBlock ≠ some (w.heap.size + 1) ∧ w.heap.size + 1 < wr.heap.size ∧ Below w.heap.size w wr) (fun _ u _ => s.size - (intOf u).toNat)
  case atStart => exact ⟨0, rfl, by omega, O2.out, S2.out, by simp [Value.ownBlock], HLT.out, B2.out⟩
  case round =>
    obtain ⟨i, rfl, hi, hown, hsl, hne, hlt, hb⟩ := hrel
    rcases Nat.lt_or_ge i s.size with h | h
    · obtain ⟨x, hx⟩ : ∃ x, s.data.toList[i]? = some x := ⟨_, List.getElem?_eq_getElem (by simpa using h)⟩
      have cx : wr.cell? ⟨w.heap.size + 1, i, none⟩ = some (.int .u8 x.toNat) := by
        rcases hsl.at_ with h0 | ⟨b, o, he, hc⟩
        · have hnil : s.data.toList = [] := by simpa [bys] using h0
          rw [hnil] at hx; cases hx
        · simp only [Option.some.injEq, Addr.mk.injEq, and_true] at he
          obtain ⟨rfl, rfl⟩ := he
          have := hc i _ (bys_get hx)
          rw [Nat.zero_add] at this; exact this
      have htk : hexB (s.data.toList.take (i + 1)) = hexB (s.data.toList.take i) ++ [digU (x.toNat / 16), digU (x.toNat % 16)] := by rw [List.take_add_one, hx]; simp [hexB]
      have HTK := Lib.hid htk
      have hx8 : x.toNat < 256 := x.toNat_lt
      have q1 := fun h => dig_get (x.toNat / 16) h
      have q2 := fun h => dig_get (x.toNat % 16) h
      have m1 : IntKind.u8.wrap ((x.toNat : Int) / 16) = (x.toNat : Int) / 16 := by rw [IntKind.wrap_u8]; omega
      have m2 : (x.toNat : Int) / 16 < 16 := by omega
      have m7 : 0 ≤ (x.toNat : Int) / 16 := by omega
      have m8 : 0 ≤ (x.toNat : Int) % 16 := by omega
      have m3 : ((x.toNat : Int) / 16).toNat = x.toNat / 16 := by omega
      have m4 : (x.toNat : Int).tmod 16 = (x.toNat : Int) % 16 := Int.tmod_eq_emod_of_nonneg (by omega)
      have m5 : (x.toNat : Int) % 16 < 16 := by omega
      have m6 : ((x.toNat : Int) % 16).toNat = x.toNat % 16 := by omega
      have OW := Lib.hid hown
      have SL := Lib.hid hsl
      have NE := Lib.hid hne
      have BE := Lib.hid hb
      clear hown hsl hne hb hx htk
      have hbA := (Below.refl wr.heap.size wr).alloc (Nat.le_refl _) (.cells #[bv (digU (x.toNat / 16)), bv (digU (x.toNat % 16))] 5)
      have hownA := (OW.out.alloc (.cells #[bv (digU (x.toNat / 16)), bv (digU (x.toNat % 16))] 5)).drew
      have hslN : Sl 1 (wr.alloc (.cells #[bv (digU (x.toNat / 16)), bv (digU (x.toNat % 16))] 5)).drew (some ⟨wr.heap.size, 0, none⟩) 2 (bys [digU (x.toNat / 16), digU (x.toNat % 16)]) :=
        Sl.drew ⟨rfl, by omega, .inr ⟨_, 0, rfl, fun j u hj => by rw [World.cell?_alloc_new]; simpa [bys] using hj⟩⟩
      obtain ⟨v3, w3, hap, hown3, hg3, hob3⟩ := run_append_at (P := Tryd.prog) w.heap.size 26 26 5 j0 _ 1 1 Tryd.underlying26 ji jz0 jz1 jz2 rfl (by decide) hownA (c := 2) hslN (by omega) (bys_one _) (by omega) (by omega) (Nat.le_trans BE.out.size (by simp))
      rw [← bys_append, ← HTK.out] at hown3
      have hsl3 := ((SL.out.below hbA).drew).grown hg3 (fun a k ha hk => by cases ha; intro e; exact NE.out (by rw [hk, ← e]))
      have hne3 : v3.ownBlock ≠ some (w.heap.size + 1) := by
        rcases hob3 with e | e
        · rw [e]; exact NE.out
        · rw [e]; simp; omega
      have hbel3 := ((BE.out.alloc BE.out.size (.cells #[bv (digU (x.toNat / 16)), bv (digU (x.toNat % 16))] 5)).drew).grown hg3 (Nat.le_trans BE.out.size (by simp)) (fun k hk => (hownA.lt k hk).1)
      have hlt3 : w.heap.size + 1 < w3.heap.size := by have := hg3.size; simp at this; omega
      have R3 := Lib.hid (And.intro hown3 (And.intro hsl3 (And.intro hne3 (And.intro hlt3 hbel3))))
      simp only [bv] at hap
      clear hown3 hg3 hob3 hsl3 hne3 hbel3 hlt3 hslN hownA hbA ji jz0 jz1 jz2
      go_wp2_with fail
      go_region_law (refine step_append_run rfl (.tmp 17) (.tmp 24) 26 26 rfl (by simp [Act.eval, Act.put]) (by simp [Act.eval, Act.put]) hap ?_)
      all_goals
        clear q1 q2 m1 m2 m3 m4 m5 m6 m7 m8 hap
        go_wp2_with fail
        go_roundw
        case rel => exact ⟨i + 1, by go_num, by omega, by have := R3.out.1; rwa [show 2 * i + 2 = 2 * (i + 1) by omega] at this, R3.out.2.1, R3.out.2.2.1, R3.out.2.2.2.1, R3.out.2.2.2.2⟩
        case measure => simp [intOf]; omega
    · have ei : i = s.size := by omega
      have hfin : wr.ownsRow w.heap.size 5 1 u3 (2 * s.size) (bys (hexB s.data.toList)) := by
        rw [ei] at hown
        rwa [List.take_of_length_le (by rw [Array.length_toList]; exact Nat.le_refl _)] at hown
      obtain ⟨Af, cf, rfl, hcf, hslf, _, _⟩ := own_sl hfin
      have hcv2 := run_conv_str (P := Tryd.prog) (src := 26) Tryd.underlying26 Tryd.underlying5 (dst := 9) Tryd.underlying9 (c := cf) hslf
      have BE := Lib.hid hb
      clear hown hsl hne hb hfin hslf ei hcv
      go_wp2_with fail
      go_ret
      exact ⟨rfl, BE.out⟩
end Go.Proofs.YtlndiddplfoceaaDoor
