import Derived.Test.YtlbbehfbjbbckaaDoorUj
import Derived.Test.YtlbbehfbjbbckaaDoorUg
import Derived.OpenShut
import Derived.JoinedCond
import Derived.Deep.Slices
import Derived.Deep.Fields
import Derived.ChangeSame
import Derived.ChangeMaps5
import Derived.SizedLaws
import Derived.LaidLaws
import Derived.LaidMore
import Derived.Stop.Joined
import Derived.Lib.SmallJoins
/-! Where paths lead: the law LinkEnds, walked. -/
set_option linter.unusedVariables false
set_option linter.unusedSimpArgs false
namespace Go.Proofs.YtlbbehfbjbbckaaDoor
open Go.RowKit

theorem parent_less {x : List UInt8} (h : x ≠ []) : (parentB x).length < x.length := by
  unfold parentB
  rw [List.length_take]
  have h1 := lastB_le x
  have h2 : x.length ≠ 0 := fun e => h (List.eq_nil_of_length_eq_zero e)
  omega
theorem resolve_none {K : List UInt8 → Option (Int × List UInt8)} {p q : List UInt8} {e : Int} (h : resolveU K p = (q, e)) (he : e ≠ 0) (hK : TreeK K) : ¬ goodK K p := fun hg => by
  rw [resolve_self hK hg] at h
  exact he (Prod.mk.inj h).2.symm
def lenOf : Value → Nat
  | .string s => s.size
  | _ => 0
set_option maxRecDepth 100000 in
set_option maxHeartbeats 8000000 in
theorem linkEnds_any (A : Option Addr) (n cp : Nat) (L : List Ac) (p : ByteArray) (w : World) (h : ActsAt w A n L) (hm : ML w) (hp : p.size ≤ 2097152) :
    Calls Tryd.prog 5 #[.slice A n cp, .string p] w fun e w' => e = .returned (.bool true) ∧ Below w.heap.size w w' := by
  have HA := Lib.hid h
  have HM := Lib.hid hm
  have HS := Lib.hid (smallA_any A n cp L w h.row)
  have HR := Lib.hid (fun w => right_any p _ w rfl hp)
  have HAW := Lib.hid (fun w' (hb : Below w.heap.size w w') => awake_any w' (hm.below hb))
  have hlen := Lib.hid h.row.acLen
  have HB0 := Lib.hid (fun w' (hb : Below w.heap.size w w') (hs : smallA L = true) => BuildS_any A n cp L w' (h.below hb) (by
    have := h.row.acLen
    unfold smallA at hs
    simp only [Bool.and_eq_true, decide_eq_true_eq] at hs
    omega) (fun a ha => by
    unfold smallA at hs
    rw [Bool.and_eq_true, List.all_eq_true] at hs
    have := hs.1 a ha
    unfold lightA at this
    simp only [Bool.and_eq_true, decide_eq_true_eq] at this
    omega))
  obtain ⟨sm, hsm⟩ : ∃ sm, smallA L = sm := ⟨_, rfl⟩
  rw [hsm] at HS HB0
  clear h hm hsm
  generalize hrb : rightB p.data.toList = rb at *
  go_enter Tryd.func5, Tryd.ntmps5
  go_wp2_with fail
  refine HS.out.mono ?_
  rintro e w1 ⟨rfl, hb1⟩
  have B1 := Lib.hid hb1
  clear hb1 HS
  cases sm with
  | false =>
    go_wp2_with fail
    refine (HAW.out w1 B1.out).mono ?_
    rintro e w2 ⟨rfl, hb2⟩
    have B2 := Lib.hid (B1.out.trans (hb2.mono B1.out.size))
    clear hb2
    go_wp2_with fail
    go_ret
    exact ⟨rfl, B2.out⟩
  | true =>
  go_wp2_with fail
  refine (HR.out w1).mono ?_
  rintro e w2 ⟨rfl, hb2⟩
  have B2 := Lib.hid (B1.out.trans (hb2.mono B1.out.size))
  clear hb2 HR B1
  cases rb with
  | false =>
    go_wp2_with fail
    refine (HAW.out w2 B2.out).mono ?_
    rintro e w3 ⟨rfl, hb3⟩
    have B3 := Lib.hid (B2.out.trans (hb3.mono B2.out.size))
    clear hb3
    go_wp2_with fail
    go_ret
    exact ⟨rfl, B3.out⟩
  | true =>
  go_wp2_with fail
  refine (HB0.out w2 B2.out trivial).mono ?_
  rintro e w3 ⟨t, rfl, hT3, hb3⟩
  have B3 := Lib.hid (B2.out.trans (hb3.mono B2.out.size))
  obtain ⟨S, hS⟩ : ∃ S, newS.acts L = S := ⟨_, rfl⟩
  rw [hS] at hT3
  have T3 := Lib.hid hT3
  have hK := Lib.hid hT3.ok.treeK
  have HRS := Lib.hid (resolveS_any t n S _ p w3 hT3 hp)
  have HRS2 := Lib.hid (fun (q : ByteArray) w' (hq : q.size ≤ 2097152) (hb : Below w3.heap.size w3 w') => resolveS_any t n S _ q w' (hT3.below hb) hq)
  have HST := Lib.hid (fun (q : ByteArray) w' (hq : q.size ≤ 2097152) (hb : Below w3.heap.size w3 w') => StatS_any t n S _ q w' (hT3.below hb) hq)
  clear hT3 hb3 hS HB0
  obtain ⟨pl, rfl⟩ : ∃ pl, p = str pl := ⟨p.data.toList, ByteArray.ext (by simp [str])⟩
  rw [str_list] at HRS hrb
  obtain ⟨⟨ql, e0⟩, hrv⟩ : ∃ r, resolveU S.kindS pl = r := ⟨_, rfl⟩
  rw [hrv] at HRS
  have HRV := Lib.hid hrv
  have HRB := Lib.hid hrb
  clear hrv hrb
  go_wp2_with fail
  refine HRS.out.mono ?_
  rintro e w4 ⟨rfl, hb4⟩
  have C4 := Lib.hid hb4
  have B4 := Lib.hid (B3.out.trans (hb4.mono B3.out.size))
  clear hb4 HRS
  rcases Classical.em (e0 = 0) with h0 | h0
  · subst h0
    have HG := Lib.hid (resolve_good hK.out HRV.out)
    go_wp2_with fail
    go_loopw [8] (fun v wr => ∃ x, v = .string (str x) ∧ goodK S.kindS x ∧ Below w3.heap.size w3 wr) (fun v _ => lenOf v)
    case atStart => exact ⟨ql, rfl, HG.out, C4.out⟩
    case round =>
      obtain ⟨x, rfl, hg, hC⟩ := hrel
      have C5 := Lib.hid hC
      have G5 := Lib.hid hg
      obtain ⟨kx, tx, hx1, hx2⟩ := hg
      have hxl := rightB_len (hK.out.right x kx tx hx1)
      have HS5 := Lib.hid (HST.out (str x) wr (by rw [size_toList]; omega) hC)
      rw [str_list] at HS5
      clear hC hx1 hx2 tx kx
      go_wp2_with fail
      refine HS5.out.mono ?_
      rintro e w6 ⟨⟨s, e6, rfl, hiff⟩, hb6⟩
      obtain ⟨he6, hs6⟩ := hiff.1 G5.out
      subst he6
      have C6 := Lib.hid (C5.out.trans (hb6.mono C5.out.size))
      clear hb6 hiff HS5
      unfold aggT encT
      have c0 := (Blk.new w6 38 (encT s)).cell 0
      unfold encT at c0
      simp only [List.getElem?_cons_zero] at c0
      have hs6' : ¬ s.kind = 3 := hs6
      by_cases hx0 : x = []
      · subst hx0
        rw [show str [] = ⟨#[]⟩ from rfl]
        obtain ⟨kq, tq, hq1, hq2⟩ := HG.out
        have hql := rightB_len (hK.out.right ql kq tq hq1)
        have HS6 := Lib.hid (HRS2.out (str ql) (w6.alloc (.cells #[.int .i64 s.kind, .int .i64 s.ino, .int .i64 s.size, .int .i64 s.links, .int .i64 s.mt.m0, .int .i64 s.mt.m1, .int .i64 s.mt.m2, .int .i64 s.mt.m3, .int .i64 s.mt.m4, .string s.target] 38)) (by rw [size_toList]; omega) (C6.out.alloc C6.out.size _))
        rw [str_list, resolve_self hK.out HG.out] at HS6
        clear hq1 hq2 hql kq tq
        go_wp2_with fail
        refine HS6.out.mono ?_
        rintro e w7 ⟨rfl, hb7⟩
        have C70 := Lib.hid ((C6.out.alloc C6.out.size _).trans (hb7.mono (C6.out.alloc C6.out.size _).size))
        clear hb7 HS6 c0 hs6 hs6'
        go_wp2_with fail
        go_loopw [13, 14] (fun u v wr => ∃ (b : Bool) (x : List UInt8), u = .bool b ∧ v = .string (str x) ∧ rightB x = true ∧ (b = true → x = pl ∨ goodK S.kindS pl) ∧ Below w3.heap.size w3 wr) (fun _ v _ => lenOf v)
        case atStart => exact ⟨true, pl, rfl, rfl, HRB.out, fun _ => .inl rfl, C70.out⟩
        case round =>
          obtain ⟨b, x, rfl, rfl, hxr, hbx, hC⟩ := hrel
          have C7 := Lib.hid hC
          have HX := Lib.hid hxr
          have HBX := Lib.hid hbx
          have hxl := rightB_len hxr
          clear hxr hbx
          cases b with
          | false =>
            go_wp2_with fail
            refine (HAW.out _ (B3.out.trans (C7.out.mono B3.out.size))).mono ?_
            rintro e w9 ⟨rfl, hb9⟩
            have B9 := Lib.hid ((B3.out.trans (C7.out.mono B3.out.size)).trans (hb9.mono (B3.out.trans (C7.out.mono B3.out.size)).size))
            clear hb9
            go_wp2_with fail
            go_ret
            exact ⟨rfl, B9.out⟩

          | true =>
            have HS5 := Lib.hid (HST.out (str x) wr (by rw [size_toList]; omega) hC)
            rw [str_list] at HS5
            clear hC
            go_wp2_with fail
            refine HS5.out.mono ?_
            rintro e w8 ⟨⟨s, e6, rfl, hiff⟩, hb8⟩
            have C8 := Lib.hid (C7.out.trans (hb8.mono C7.out.size))
            have HIF := Lib.hid hiff
            clear hb8 hiff HS5
            unfold aggT encT
            have c0 := (Blk.new w8 38 (encT s)).cell 0
            unfold encT at c0
            simp only [List.getElem?_cons_zero] at c0
            by_cases h6 : e6 = 0
            · subst h6
              by_cases h7 : s.kind = 3
              · rw [h7] at c0 ⊢
                clear h7
                by_cases hx0 : x = []
                · subst hx0
                  rw [show str [] = ⟨#[]⟩ from rfl]
                  go_wp2_with fail
                  refine (HAW.out _ (B3.out.trans ((C8.out.alloc C8.out.size _).mono B3.out.size))).mono ?_
                  rintro e w9 ⟨rfl, hb9⟩
                  have B9 := Lib.hid ((B3.out.trans ((C8.out.alloc C8.out.size _).mono B3.out.size)).trans (hb9.mono (B3.out.trans ((C8.out.alloc C8.out.size _).mono B3.out.size)).size))
                  clear hb9
                  go_wp2_with fail
                  go_ret
                  exact ⟨rfl, B9.out⟩
                · have hnil := nil_toList (str x) (by rw [size_toList]; exact fun e => hx0 (List.eq_nil_of_length_eq_zero e))
                  have hpl := parent_less hx0
                  clear hx0
                  go_wp2_with fail
                  refine (parent_any (str x) _ (by rw [size_toList]; omega)).mono ?_
                  rintro e w9 ⟨rfl, rfl⟩
                  rw [str_list]
                  go_wp2_with fail
                  go_roundw
                  case rel => exact ⟨false, parentB x, by first | rfl | simp [h7], rfl, rightB_parent HX.out, (fun h => by cases h), (C8.out.alloc C8.out.size _)⟩
                  case measure => simp only [lenOf, size_toList]; omega

              · have GX := Lib.hid (HIF.out.2 ⟨rfl, h7⟩)
                have GP := Lib.hid (show goodK S.kindS pl from (HBX.out trivial).elim (fun e => e ▸ GX.out) id)
                by_cases hx0 : x = []
                · subst hx0
                  rw [show str [] = ⟨#[]⟩ from rfl]
                  obtain rfl : ql = pl := by
                    have h1 := resolve_self hK.out GP.out
                    rw [HRV.out] at h1
                    exact (Prod.mk.inj h1).1
                  go_wp2_with fail
                  refine (HAW.out _ (B3.out.trans ((C8.out.alloc C8.out.size _).mono B3.out.size))).mono ?_
                  rintro e w9 ⟨rfl, hb9⟩
                  have B9 := Lib.hid ((B3.out.trans ((C8.out.alloc C8.out.size _).mono B3.out.size)).trans (hb9.mono (B3.out.trans ((C8.out.alloc C8.out.size _).mono B3.out.size)).size))
                  clear hb9
                  go_wp2_with fail
                  go_ret
                  exact ⟨rfl, B9.out⟩
                · have hnil := nil_toList (str x) (by rw [size_toList]; exact fun e => hx0 (List.eq_nil_of_length_eq_zero e))
                  have hpl := parent_less hx0
                  clear hx0
                  go_wp2_with fail
                  refine (parent_any (str x) _ (by rw [size_toList]; omega)).mono ?_
                  rintro e w9 ⟨rfl, rfl⟩
                  rw [str_list]
                  go_wp2_with fail
                  go_roundw
                  case rel => exact ⟨true, parentB x, by first | rfl | simp [h7], rfl, rightB_parent HX.out, fun _ => .inr GP.out, (C8.out.alloc C8.out.size _)⟩
                  case measure => simp only [lenOf, size_toList]; omega

            · have q6 : (e6 == 0) = false := by simpa using h6
              clear h6
              by_cases hx0 : x = []
              · subst hx0
                rw [show str [] = ⟨#[]⟩ from rfl]
                go_wp2_with fail
                refine (HAW.out _ (B3.out.trans ((C8.out.alloc C8.out.size _).mono B3.out.size))).mono ?_
                rintro e w9 ⟨rfl, hb9⟩
                have B9 := Lib.hid ((B3.out.trans ((C8.out.alloc C8.out.size _).mono B3.out.size)).trans (hb9.mono (B3.out.trans ((C8.out.alloc C8.out.size _).mono B3.out.size)).size))
                clear hb9
                go_wp2_with fail
                go_ret
                exact ⟨rfl, B9.out⟩
              · have hnil := nil_toList (str x) (by rw [size_toList]; exact fun e => hx0 (List.eq_nil_of_length_eq_zero e))
                have hpl := parent_less hx0
                clear hx0
                go_wp2_with fail
                refine (parent_any (str x) _ (by rw [size_toList]; omega)).mono ?_
                rintro e w9 ⟨rfl, rfl⟩
                rw [str_list]
                go_wp2_with fail
                go_roundw
                case rel => exact ⟨false, parentB x, by first | rfl | simp [h7], rfl, rightB_parent HX.out, (fun h => by cases h), (C8.out.alloc C8.out.size _)⟩
                case measure => simp only [lenOf, size_toList]; omega

      · have hnil := nil_toList (str x) (by rw [size_toList]; exact fun e => hx0 (List.eq_nil_of_length_eq_zero e))
        have hpl := parent_less hx0
        clear hx0
        go_wp2_with fail
        refine (parent_any (str x) _ (by rw [size_toList]; omega)).mono ?_
        rintro e w7 ⟨rfl, rfl⟩
        rw [str_list]
        go_wp2_with fail
        go_roundw
        case rel => exact ⟨parentB x, rfl, G5.out.up hK.out, C6.out.alloc C6.out.size _⟩
        case measure => simp only [lenOf, size_toList]; omega
  · have q1 : (e0 == 0) = false := by simpa using h0
    have HE0 := Lib.hid h0
    clear h0
    go_wp2_with fail
    go_loopw [13, 14] (fun u v wr => ∃ (b : Bool) (x : List UInt8), u = .bool b ∧ v = .string (str x) ∧ rightB x = true ∧ (b = true → x = pl ∨ goodK S.kindS pl) ∧ Below w3.heap.size w3 wr) (fun _ v _ => lenOf v)
    case atStart => exact ⟨true, pl, rfl, rfl, HRB.out, fun _ => .inl rfl, C4.out⟩
    case round =>
      obtain ⟨b, x, rfl, rfl, hxr, hbx, hC⟩ := hrel
      have C7 := Lib.hid hC
      have HX := Lib.hid hxr
      have HBX := Lib.hid hbx
      have hxl := rightB_len hxr
      clear hxr hbx
      cases b with
      | false =>
        go_wp2_with fail
        refine (HAW.out _ (B3.out.trans (C7.out.mono B3.out.size))).mono ?_
        rintro e w9 ⟨rfl, hb9⟩
        have B9 := Lib.hid ((B3.out.trans (C7.out.mono B3.out.size)).trans (hb9.mono (B3.out.trans (C7.out.mono B3.out.size)).size))
        clear hb9
        go_wp2_with fail
        go_ret
        exact ⟨rfl, B9.out⟩

      | true =>
        have HS5 := Lib.hid (HST.out (str x) wr (by rw [size_toList]; omega) hC)
        rw [str_list] at HS5
        clear hC
        go_wp2_with fail
        refine HS5.out.mono ?_
        rintro e w8 ⟨⟨s, e6, rfl, hiff⟩, hb8⟩
        have C8 := Lib.hid (C7.out.trans (hb8.mono C7.out.size))
        have HIF := Lib.hid hiff
        clear hb8 hiff HS5
        unfold aggT encT
        have c0 := (Blk.new w8 38 (encT s)).cell 0
        unfold encT at c0
        simp only [List.getElem?_cons_zero] at c0
        by_cases h6 : e6 = 0
        · subst h6
          by_cases h7 : s.kind = 3
          · rw [h7] at c0 ⊢
            clear h7
            by_cases hx0 : x = []
            · subst hx0
              rw [show str [] = ⟨#[]⟩ from rfl]
              go_wp2_with fail
              refine (HAW.out _ (B3.out.trans ((C8.out.alloc C8.out.size _).mono B3.out.size))).mono ?_
              rintro e w9 ⟨rfl, hb9⟩
              have B9 := Lib.hid ((B3.out.trans ((C8.out.alloc C8.out.size _).mono B3.out.size)).trans (hb9.mono (B3.out.trans ((C8.out.alloc C8.out.size _).mono B3.out.size)).size))
              clear hb9
              go_wp2_with fail
              go_ret
              exact ⟨rfl, B9.out⟩
            · have hnil := nil_toList (str x) (by rw [size_toList]; exact fun e => hx0 (List.eq_nil_of_length_eq_zero e))
              have hpl := parent_less hx0
              clear hx0
              go_wp2_with fail
              refine (parent_any (str x) _ (by rw [size_toList]; omega)).mono ?_
              rintro e w9 ⟨rfl, rfl⟩
              rw [str_list]
              go_wp2_with fail
              go_roundw
              case rel => exact ⟨false, parentB x, by first | rfl | simp [h7], rfl, rightB_parent HX.out, (fun h => by cases h), (C8.out.alloc C8.out.size _)⟩
              case measure => simp only [lenOf, size_toList]; omega

          · have GX := Lib.hid (HIF.out.2 ⟨rfl, h7⟩)
            have GP := Lib.hid (show goodK S.kindS pl from (HBX.out trivial).elim (fun e => e ▸ GX.out) id)
            by_cases hx0 : x = []
            · subst hx0
              rw [show str [] = ⟨#[]⟩ from rfl]
              exact absurd GP.out (resolve_none HRV.out HE0.out hK.out)
            · have hnil := nil_toList (str x) (by rw [size_toList]; exact fun e => hx0 (List.eq_nil_of_length_eq_zero e))
              have hpl := parent_less hx0
              clear hx0
              go_wp2_with fail
              refine (parent_any (str x) _ (by rw [size_toList]; omega)).mono ?_
              rintro e w9 ⟨rfl, rfl⟩
              rw [str_list]
              go_wp2_with fail
              go_roundw
              case rel => exact ⟨true, parentB x, by first | rfl | simp [h7], rfl, rightB_parent HX.out, fun _ => .inr GP.out, (C8.out.alloc C8.out.size _)⟩
              case measure => simp only [lenOf, size_toList]; omega

        · have q6 : (e6 == 0) = false := by simpa using h6
          clear h6
          by_cases hx0 : x = []
          · subst hx0
            rw [show str [] = ⟨#[]⟩ from rfl]
            go_wp2_with fail
            refine (HAW.out _ (B3.out.trans ((C8.out.alloc C8.out.size _).mono B3.out.size))).mono ?_
            rintro e w9 ⟨rfl, hb9⟩
            have B9 := Lib.hid ((B3.out.trans ((C8.out.alloc C8.out.size _).mono B3.out.size)).trans (hb9.mono (B3.out.trans ((C8.out.alloc C8.out.size _).mono B3.out.size)).size))
            clear hb9
            go_wp2_with fail
            go_ret
            exact ⟨rfl, B9.out⟩
          · have hnil := nil_toList (str x) (by rw [size_toList]; exact fun e => hx0 (List.eq_nil_of_length_eq_zero e))
            have hpl := parent_less hx0
            clear hx0
            go_wp2_with fail
            refine (parent_any (str x) _ (by rw [size_toList]; omega)).mono ?_
            rintro e w9 ⟨rfl, rfl⟩
            rw [str_list]
            go_wp2_with fail
            go_roundw
            case rel => exact ⟨false, parentB x, by first | rfl | simp [h7], rfl, rightB_parent HX.out, (fun h => by cases h), (C8.out.alloc C8.out.size _)⟩
            case measure => simp only [lenOf, size_toList]; omega
end Go.Proofs.YtlbbehfbjbbckaaDoor

/-! What a slice of acts that came in gives. -/
set_option linter.unusedVariables false
set_option linter.unusedSimpArgs false
namespace Go.Proofs.YtlbbehfbjbbckaaDoor
open Go.ChangeShapes Go.WideShapes Go.ChangeAt Go.RowKit Go.Deep

theorem choose_lt' {α : Type} {p : Nat → α → Prop} {n : Nat} (d : α) (h : ∀ i, i < n → ∃ x, p i x) : ∃ l : List α, l.length = n ∧ ∀ i x, l[i]? = some x → p i x := by
  induction n with
  | zero => exact ⟨[], rfl, by simp⟩
  | succ n ih =>
    obtain ⟨l, hl, hp⟩ := ih fun i hi => h i (by omega)
    obtain ⟨x, hx⟩ := h n (by omega)
    refine ⟨l ++ [x], by simp [hl], fun i y hy => ?_⟩
    rcases Nat.lt_or_ge i l.length with hi | hi
    · rw [List.getElem?_append_left hi] at hy; exact hp i y hy
    · rw [List.getElem?_append_right hi] at hy
      rcases hz : i - l.length with _ | k
      · rw [hz] at hy
        simp at hy
        obtain rfl : i = n := by omega
        rw [← hy]; exact hx
      · rw [hz] at hy; simp at hy

section
variable {H : Type} {enc : TypeId × Value → H} {P : Program} {W : World} {base : Nat} {spare : Nat → Bool} {held : Bool}
/-- What a slice of bytes that came in gives. -/
theorem bs_of_trod {T E : TypeId} {v : Value} {fuel : Nat} {x : DataW H × List MemPlace} (ht : P.underlying T = some (.slice E)) (he : P.underlying E = some (.int .u8)) (hc : P.cellsOf E = 1)
    (hf : DataW.trod enc P W base spare held fuel T [v] = some x) :
    ∃ (A : Option Addr) (n c : Nat) (bs : List UInt8), v = .slice A n c ∧ n ≤ c ∧ Sl 1 W A n (bys bs) := by
  rcases open_ints ht he hc hf with ⟨hcs, hx⟩ | ⟨a, len, cap, zs, hcs, _, hl, hm, hz, hx, hcell, hwz⟩
  · simp at hcs
    exact ⟨none, 0, 0, [], hcs, Nat.le_refl _, Sl.nil 1 W none⟩
  · simp at hcs
    have hzl : len ≤ zs.length := by rw [hz]; split <;> omega
    refine ⟨some a, len, cap, (zs.take len).map fun n => UInt8.ofNat n.toNat, hcs, hl, ⟨by simp [bys]; omega, by unfold maxLen at hm; omega, ?_⟩⟩
    · rcases Nat.eq_zero_or_pos len with h0 | h0
      · left; subst h0; simp [bys]
      · right
        obtain ⟨ab, ao, spot⟩ := a
        have hspot : spot = none := by simpa [Addr.add] using World.cell?_spot (hcell 0 (by omega))
        subst hspot
        refine ⟨ab, ao, rfl, fun j u hj => ?_⟩
        have hjl : j < len := by
          have := (List.getElem?_eq_some_iff.1 hj).1
          simp [bys] at this; omega
        have hcj := hcell j (by omega)
        rw [Addr.add_lit] at hcj
        rw [hcj]
        have hb := range_u8 hwz j
        have e : zs.getD j 0 = zs[j]'(by omega) := by simp [List.getD, List.getElem?_eq_getElem (show j < zs.length by omega)]
        have e2 : zs[j]?.getD 0 = zs[j]'(by omega) := by rw [List.getElem?_eq_getElem (show j < zs.length by omega)]; rfl
        rw [e2] at hb
        rw [e]
        simp [bys, List.getElem?_take, hjl, List.getElem?_eq_getElem (show j < zs.length by omega)] at hj
        rw [← hj]
        simp only [bv, UInt8.toNat_ofNat']
        congr 2
        omega
end
section
variable {H : Type} {enc : TypeId × Value → H} {W : World} {base : Nat} {spare : Nat → Bool} {held : Bool}
theorem cellsStr : Tryd.prog.cellsOf 9 = 1 := by kernel_rfl
theorem cellsInt : Tryd.prog.cellsOf 3 = 1 := by kernel_rfl
theorem cellsMeta : Tryd.prog.cellsOf 36 = 5 := by kernel_rfl
theorem cellsBs : Tryd.prog.cellsOf 51 = 1 := by kernel_rfl
theorem cellsU8 : Tryd.prog.cellsOf 5 = 1 := by kernel_rfl
theorem cellsAct : Tryd.prog.cellsOf 53 = 9 := by kernel_rfl
theorem some_at {α : Type} {l : List α} {n : Nat} (hl : l.length = n) {i : Nat} (hi : i < n) : ∃ y, l[i]? = some y := ⟨_, List.getElem?_eq_getElem (by omega)⟩
theorem list9 {α : Type} {l : List α} (h : l.length = 9) : ∃ a b c d e f g i j, l = [a, b, c, d, e, f, g, i, j] := by
  rcases l with _ | ⟨a, l⟩; · simp at h
  rcases l with _ | ⟨b, l⟩; · simp at h
  rcases l with _ | ⟨c, l⟩; · simp at h
  rcases l with _ | ⟨d, l⟩; · simp at h
  rcases l with _ | ⟨e, l⟩; · simp at h
  rcases l with _ | ⟨f, l⟩; · simp at h
  rcases l with _ | ⟨g, l⟩; · simp at h
  rcases l with _ | ⟨i, l⟩; · simp at h
  rcases l with _ | ⟨j, l⟩; · simp at h
  rcases l with _ | ⟨q, l⟩
  · exact ⟨a, b, c, d, e, f, g, i, j, rfl⟩
  · simp at h
set_option maxRecDepth 100000 in
/-- What an act's cells are. -/
theorem ac_cells {fuel : Nat} {cs : List Value} {x : DataW H × List MemPlace} (h : DataW.trod enc Tryd.prog W base spare held fuel 53 cs = some x) : ∃ a : Ac, cs = encA a ∧ Sl 1 W a.dA a.dn (bys a.data) := by
  obtain ⟨xs, n, hn, hx, hl, hxl, hf⟩ := DataW.trod_struct Tryd.underlying53 h
  rw [cellsAct] at hl
  obtain ⟨a, b, c, d, e, f, g, i, j, rfl⟩ := list9 hl
  have hxl : xs.length = 5 := hxl
  obtain ⟨y0, z0⟩ := some_at hxl (i := 0) (by omega)
  obtain ⟨y1, z1⟩ := some_at hxl (i := 1) (by omega)
  obtain ⟨y2, z2⟩ := some_at hxl (i := 2) (by omega)
  obtain ⟨y3, z3⟩ := some_at hxl (i := 3) (by omega)
  obtain ⟨y4, z4⟩ := some_at hxl (i := 4) (by omega)
  have t0 : DataW.trod enc Tryd.prog W base spare held n 3 (([a, b, c, d, e, f, g, i, j].drop 0).take (Tryd.prog.cellsOf 3)) = xs[0]? := hf 0 _ rfl
  have t1 : DataW.trod enc Tryd.prog W base spare held n 9 (([a, b, c, d, e, f, g, i, j].drop 1).take (Tryd.prog.cellsOf 9)) = xs[1]? := hf 1 _ rfl
  have t2 : DataW.trod enc Tryd.prog W base spare held n 9 (([a, b, c, d, e, f, g, i, j].drop 2).take (Tryd.prog.cellsOf 9)) = xs[2]? := hf 2 _ rfl
  have t3 : DataW.trod enc Tryd.prog W base spare held n 51 (([a, b, c, d, e, f, g, i, j].drop 3).take (Tryd.prog.cellsOf 51)) = xs[3]? := hf 3 _ rfl
  have t4 : DataW.trod enc Tryd.prog W base spare held n 36 (([a, b, c, d, e, f, g, i, j].drop 4).take (Tryd.prog.cellsOf 36)) = xs[4]? := hf 4 _ rfl
  rw [cellsInt, z0] at t0
  rw [cellsStr, z1] at t1
  rw [cellsStr, z2] at t2
  rw [cellsBs, z3] at t3
  rw [cellsMeta, z4] at t4
  obtain ⟨s0, r0, _⟩ := DataW.trod_int Tryd.underlying3 t0
  obtain ⟨s1, r1, _⟩ := DataW.trod_string Tryd.underlying9 t1
  obtain ⟨s2, r2, _⟩ := DataW.trod_string Tryd.underlying9 t2
  have t3 : DataW.trod enc Tryd.prog W base spare held n 51 [d] = some y3 := t3
  obtain ⟨dA, dn, dc, bs, r3, _, hbs⟩ := bs_of_trod Tryd.underlying51 Tryd.underlying5 cellsU8 t3
  have t4 : DataW.trod enc Tryd.prog W base spare held n 36 [e, f, g, i, j] = some y4 := t4
  obtain ⟨ms, n', _, _, _, hml, hmf⟩ := DataW.trod_struct Tryd.underlying36 t4
  have hml : ms.length = 5 := hml
  obtain ⟨v0, w0⟩ := some_at hml (i := 0) (by omega)
  obtain ⟨v1, w1⟩ := some_at hml (i := 1) (by omega)
  obtain ⟨v2, w2⟩ := some_at hml (i := 2) (by omega)
  obtain ⟨v3, w3⟩ := some_at hml (i := 3) (by omega)
  obtain ⟨v4, w4⟩ := some_at hml (i := 4) (by omega)
  have u0 : DataW.trod enc Tryd.prog W base spare held n' 3 (([e, f, g, i, j].drop 0).take (Tryd.prog.cellsOf 3)) = ms[0]? := hmf 0 _ rfl
  have u1 : DataW.trod enc Tryd.prog W base spare held n' 3 (([e, f, g, i, j].drop 1).take (Tryd.prog.cellsOf 3)) = ms[1]? := hmf 1 _ rfl
  have u2 : DataW.trod enc Tryd.prog W base spare held n' 3 (([e, f, g, i, j].drop 2).take (Tryd.prog.cellsOf 3)) = ms[2]? := hmf 2 _ rfl
  have u3 : DataW.trod enc Tryd.prog W base spare held n' 3 (([e, f, g, i, j].drop 3).take (Tryd.prog.cellsOf 3)) = ms[3]? := hmf 3 _ rfl
  have u4 : DataW.trod enc Tryd.prog W base spare held n' 3 (([e, f, g, i, j].drop 4).take (Tryd.prog.cellsOf 3)) = ms[4]? := hmf 4 _ rfl
  rw [cellsInt, w0] at u0
  rw [cellsInt, w1] at u1
  rw [cellsInt, w2] at u2
  rw [cellsInt, w3] at u3
  rw [cellsInt, w4] at u4
  obtain ⟨m0, q0, _⟩ := DataW.trod_int Tryd.underlying3 u0
  obtain ⟨m1, q1, _⟩ := DataW.trod_int Tryd.underlying3 u1
  obtain ⟨m2, q2, _⟩ := DataW.trod_int Tryd.underlying3 u2
  obtain ⟨m3, q3, _⟩ := DataW.trod_int Tryd.underlying3 u3
  obtain ⟨m4, q4, _⟩ := DataW.trod_int Tryd.underlying3 u4
  simp only [List.drop_zero, List.drop_succ_cons, List.take_succ_cons, List.take_zero, List.cons.injEq, and_true] at r0 r1 r2 q0 q1 q2 q3 q4
  subst r0 r1 r2 r3 q0 q1 q2 q3 q4
  exact ⟨⟨s0, s1, s2, dA, dn, dc, bs, ⟨m0, m1, m2, m3, m4⟩⟩, rfl, hbs⟩
set_option maxRecDepth 100000 in
theorem open_acts {r : Reach} {b0 : Nat} {v : Value} {d : DataW H} {ps : List MemPlace}
    (hval : Value.okWide Tryd.prog W r b0 27 v) (h1 : DataW.Trod enc Tryd.prog W base spare held 27 v d ps) :
    ∃ (A : Option Addr) (n c : Nat) (L : List Ac), v = .slice A n c ∧ n ≤ c ∧ ActsAt W A n L := by
  obtain ⟨a1, len, cap, rfl⟩ := okWide_slice Tryd.underlying27 hval
  obtain ⟨fuel, hf⟩ := h1
  rcases open_slice Tryd.underlying27 hf with ⟨hcs, hx⟩ | ⟨a, len', cap', m, n, D, Pl, hcs, _, hl, hm, hmm, hx, hi⟩
  · simp [Value.cells] at hcs
    obtain ⟨rfl, rfl, rfl⟩ := hcs
    exact ⟨none, 0, 0, [], rfl, Nat.le_refl _, Sl.nil 9 W none, fun a ha => by cases ha⟩
  · simp [Value.cells] at hcs
    obtain ⟨rfl, rfl, rfl⟩ := hcs
    have hlm : len ≤ m := by rw [hmm]; split <;> omega
    have each : ∀ i, i < len → ∃ x : Ac, (∀ j v, (encA x)[j]? = some v → W.cell? (a.add (i * 9 + j)) = some v) ∧ Sl 1 W x.dA x.dn (bys x.data) := by
      intro i him
      obtain ⟨cs', hc, ht'⟩ := hi i (by omega)
      rw [cellsAct] at hc
      obtain ⟨x, rfl, hsl⟩ := ac_cells ht'
      obtain ⟨_, hcl, hat⟩ := World.cells?_some hc
      refine ⟨x, fun j v hj => ?_, hsl⟩
      have hjl : j < 9 := (List.getElem?_eq_some_iff.1 hj).1
      rw [← Go.Deep.add_add, hat j hjl, hj]
    obtain ⟨l, hll, hp⟩ := choose_lt' ⟨0, ⟨#[]⟩, ⟨#[]⟩, none, 0, 0, [], ⟨0, 0, 0, 0, 0⟩⟩ each
    refine ⟨some a, len, cap, l, rfl, hl, ⟨by rw [encAs_len, hll], by unfold maxLen at hm; omega, ?_⟩, fun x hx => ?_⟩
    · rcases Nat.eq_zero_or_pos len with h0 | h0
      · left
        obtain rfl : l = [] := List.eq_nil_of_length_eq_zero (by omega)
        rfl
      · right
        obtain ⟨ab, ao, spot⟩ := a
        have hspot : spot = none := by
          obtain ⟨x, hx, _⟩ := each 0 h0
          have := hx 0 _ rfl
          simpa [Addr.add] using World.cell?_spot this
        subst hspot
        refine ⟨ab, ao, rfl, fun j u hj => ?_⟩
        have hjl : j < l.length * 9 := by
          have := (List.getElem?_eq_some_iff.1 hj).1
          rw [encAs_len] at this; omega
        have hq : j / 9 < l.length := by omega
        have hx := List.getElem?_eq_getElem hq
        have hr : (encA (l[j / 9]'hq))[j % 9]? = some ((encA (l[j / 9]'hq))[j % 9]'(by rw [show (encA (l[j / 9]'hq)).length = 9 from rfl]; omega)) := List.getElem?_eq_getElem _
        have h2 := encAs_at hx _ _ hr
        have e : j / 9 * 9 + j % 9 = j := by omega
        rw [e] at h2
        rw [h2] at hj
        cases hj
        have := (hp _ _ hx).1 _ _ hr
        rw [Addr.add_lit, e] at this
        exact this
    · obtain ⟨i, hi⟩ := List.getElem?_of_mem hx
      exact (hp i x hi).2
end
end Go.Proofs.YtlbbehfbjbbckaaDoor
