import Derived.Test.YthkjnpbbgfagkaaDoorGet
import Derived.Lib.AppendStr
set_option linter.unusedVariables false
set_option linter.unusedSimpArgs false
namespace Go.Proofs.YthkjnpbbgfagkaaDoor
open Go.RowKit
attribute [local go_sem] max2_I min2_I max_two_I min_two_I

set_option maxRecDepth 100000 in
set_option maxHeartbeats 400000 in
theorem PutText_any (A : Option Addr) (n c : Nat) (bs : List UInt8) (s : ByteArray) (w : World) (hs : Sl 1 w A n (bys bs)) (hn : n ≤ 1099511627776) (hsz : s.size ≤ 1099511627776) :
    Calls Tryd.prog 29 #[.slice A n c, .string s] w fun e w' => ∃ v, e = .returned v ∧ w'.ownsRow w.heap.size 5 1 v (n + (putT s).length) (bys (bs ++ putT s)) ∧ Below w.heap.size w w' := by
  obtain ⟨i0, hi, hz0, hz1, hz2⟩ := info_parts info5
  go_enter Tryd.func29, Tryd.ntmps29
  go_wp2_with fail
  refine (Put_any _ _ _ _ _ _ hs hn).mono ?_
  rintro e w1 ⟨v, rfl, hown, hb⟩
  have hle := putN_len_le s.size
  have hT := putT_len s
  have hTd : putT s = putN s.size ++ s.data.toList := rfl
  obtain ⟨v2, w2, hap, hown2, hgrow, _⟩ := Lib.run_append_own_string (P := Tryd.prog) (w := w1) w.heap.size 27 9 27 5 i0 Tryd.underlying27 Tryd.underlying9 hi hz0 hz1 hz2 v _ _ hown s (by unfold maxLen; omega) (by omega) hb.size
  have hb2 := hb.grown hgrow hb.size (fun k hk => (hown.lt k hk).1)
  rw [strCells_bys, ← bys_append, List.append_assoc, ← hTd, show n + (putN s.size).length + s.size = n + (putT s).length by omega] at hown2
  have HO := Lib.hid hown2
  have HB := Lib.hid hb2
  clear hown hb hown2 hb2 hT hTd hgrow
  go_wp2_with (at_builtin; refine halt_in ?_)
  refine Halted.out (wpList_append_run rfl _ _ _ _ rfl rfl rfl hap ?_)
  clear hap
  go_wp2_with fail
  go_ret
  exact ⟨v2, rfl, HO.out, HB.out⟩

theorem under27 : Tryd.prog.underlying 27 = some (.slice (Tryd.prog.elem 27)) := by kernel_rfl
theorem elem27 : Tryd.prog.elem 27 = 5 := by kernel_rfl
theorem ret3s_eq {k2 k3 : IntKind} {a a' : ByteArray} {b c b' c' : Int} (h1 : a = a') (h2 : b = b') (h3 : c = c') : Ending.returned (.tuple #[.string a, .int k2 b, .int k3 c]) = Ending.returned (.tuple #[.string a', .int k2 b', .int k3 c']) := by rw [h1, h2, h3]

set_option maxRecDepth 100000 in
set_option maxHeartbeats 400000 in
theorem GetText_any (A : Option Addr) (n c : Nat) (bs : List UInt8) (p most : Int) (w : World) (hs : Sl 1 w A n (bys bs)) (hn : n ≤ 1099511627776) (hc : n ≤ c) :
    Calls Tryd.prog 55 #[.slice A n c, .int .i64 p, .int .i64 most] w fun e w' => e = .returned (.tuple #[.string (str (getT bs p most).1), .int .i64 (getT bs p most).2.1, .int .i64 (getT bs p most).2.2]) ∧ w = w' := by
  have hl : bs.length = n := by have := hs.len; simpa [bys] using this
  have hT : getT bs p most = getTR bs most (getS bs p) := rfl
  have HT := Lib.hid hT
  clear hT
  rcases getS_cases bs p with ⟨x, to, hg, hx, hp, hpt, htl, _⟩ | ⟨e0, hg, he, he0, he8⟩
  · rw [hg] at HT
    have HG := Lib.hid hg
    rw [hl] at htl
    have HL := Lib.hid hl
    clear hg hl
    have hm0 : 0 ≤ mxI most 0 := by unfold mxI; split <;> omega
    by_cases h1 : mxI most 0 < x
    · go_enter Tryd.func55, Tryd.ntmps55
      go_wp2_with fail
      refine (Get_any _ _ _ _ _ _ hs hn).mono ?_
      rintro e w1 ⟨rfl, rfl⟩
      rw [HG.out]
      go_wp2
      go_ret3
      exact ⟨by rw [HT.out, getTR, if_neg (by omega), if_pos (by omega)]; rfl, rfl⟩
    · by_cases h2 : (n : Int) - to < x
      · go_enter Tryd.func55, Tryd.ntmps55
        go_wp2_with fail
        refine (Get_any _ _ _ _ _ _ hs hn).mono ?_
        rintro e w1 ⟨rfl, rfl⟩
        rw [HG.out]
        go_wp2
        go_ret3
        exact ⟨by rw [HT.out, getTR, if_neg (by omega), if_neg (by omega), if_pos (by rw [HL.out]; omega)]; rfl, rfl⟩
      · have hcv := run_conv_str (P := Tryd.prog) (w := w) (src := 27) Tryd.underlying27 Tryd.underlying5 (dst := 9) Tryd.underlying9 (c := c - to) (hs.sub to (to + x) c (by omega) (by omega) hc)
        obtain ⟨i0, hi, hz0, hz1, hz2⟩ := info_parts info5
        have hsl := run_slice_sub (P := Tryd.prog) (w := w) (T := 27) under27 elem27 hi hz1 A n c to (to + x) (by omega) (by omega) .i64 .i64 to (to + x) rfl (by omega)
        have exx : to + x - to = x := by omega
        rw [exx] at hsl hcv
        have HS := Lib.hid exx
        clear exx hi hz0 hz1 hz2
        go_enter Tryd.func55, Tryd.ntmps55
        go_wp2_with fail
        refine (Get_any _ _ _ _ _ _ hs hn).mono ?_
        rintro e w1 ⟨rfl, rfl⟩
        rw [HG.out]
        go_wp2
        go_ret3
        exact ⟨by rw [HT.out, getTR, if_neg (by omega), if_neg (by omega), if_neg (by rw [HL.out]; omega)]; rfl, rfl⟩
  · rw [hg] at HT
    have HG := Lib.hid hg
    clear hg hl
    go_enter Tryd.func55, Tryd.ntmps55
    go_wp2_with fail
    refine (Get_any _ _ _ _ _ _ hs hn).mono ?_
    rintro e w1 ⟨rfl, rfl⟩
    rw [HG.out]
    go_wp2
    go_ret3
    exact ⟨by rw [HT.out, getTR, if_pos he]; rfl, rfl⟩
end Go.Proofs.YthkjnpbbgfagkaaDoor
