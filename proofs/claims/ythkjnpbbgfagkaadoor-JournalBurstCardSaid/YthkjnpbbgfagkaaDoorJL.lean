import Derived.Test.YthkjnpbbgfagkaaDoorJK
/-! Plain laws: a record that is read was put, and one that was put is read. -/
namespace Go.Proofs.YthkjnpbbgfagkaaDoor

theorem bodyR_canon {x : List UInt8} {r : Rec} (h : bodyR x = (r, true)) : May r ∧ x = recB r := by
  cases x with
  | nil => simp [bodyR] at h
  | cons c l =>
    simp only [bodyR] at h
    rcases hg : getT (c :: l) 1 200 with ⟨p, to, e⟩
    rw [hg, bodyR1] at h
    split at h
    · simp at h
    · rename_i he
      rcases getS_cases (c :: l) to with ⟨n, t2, hg2, hx, hp, hpt, htl, _⟩ | ⟨e0, hg2, he0, _⟩
      · rw [hg2, bodyR2, if_neg (by omega)] at h
        simp only [Prod.mk.injEq, mayR, decide_eq_true_eq, Int.toNat_natCast] at h
        obtain ⟨h1, hm⟩ := h
        rw [h1] at hm
        refine ⟨hm, ?_⟩
        obtain ⟨to', rfl⟩ := Int.eq_ofNat_of_zero_le hp
        have he' : e = 0 := by omega
        subst he'
        have hT := getT_canon (a := 1) hg
        have hS := getS_canon hg2
        have hk : r.kind = c.toNat := by rw [← h1]
        have hpa : r.path = str p := by rw [← h1]
        have hn : r.num = n := by rw [← h1]
        have hsu : r.sum = str ((c :: l).drop t2) := by rw [← h1]
        rw [recB, hk, hpa, hn, hsu, str_data', ← hT.1, ← hS.1]
        have e1 : (c :: l) = (c :: l).take 1 ++ ((c :: l).drop 1).take (to' - 1) ++ ((c :: l).drop to').take (t2 - to') ++ (c :: l).drop t2 := by
          have a1 : (c :: l).take 1 ++ ((c :: l).drop 1).take (to' - 1) = (c :: l).take to' := by
            rw [← List.take_add]; congr 1; omega
          have a2 : (c :: l).take to' ++ ((c :: l).drop to').take (t2 - to') = (c :: l).take t2 := by
            rw [← List.take_add]; congr 1; omega
          rw [a1, a2, List.take_append_drop]
        conv => lhs; rw [e1]
        simp
      · rw [hg2, bodyR2, if_pos he0] at h; simp at h
theorem bodyR_recB {r : Rec} (h : May r) : bodyR (recB r) = (r, true) := by
  obtain ⟨h1, h2, h3, h4, h5, h6, h7, h8⟩ := id h
  obtain ⟨n, hn⟩ := Int.eq_ofNat_of_zero_le h5
  have hb : recB r = UInt8.ofNat r.kind.toNat :: (putT r.path ++ putN r.num ++ r.sum.data.toList) := rfl
  have hT : getT (recB r) 1 200 = (r.path.data.toList, ((1 + (putT r.path).length : Nat) : Int), 0) := by
    have := getT_put [UInt8.ofNat r.kind.toNat] (putN r.num ++ r.sum.data.toList) r.path 200 (by omega) (by omega)
    rw [hb]
    simpa using this
  have hS : getS (recB r) ((1 + (putT r.path).length : Nat) : Int) = ((n : Int), ((1 + (putT r.path).length + (putN r.num).length : Nat) : Int), 0) := by
    have := getS_put (UInt8.ofNat r.kind.toNat :: putT r.path) r.sum.data.toList n (by omega)
    rw [hb]
    rw [hn]
    simp only [List.length_cons, List.cons_append] at this
    rw [show 1 + (putT r.path).length = (putT r.path).length + 1 by omega]
    rw [List.append_assoc]
    exact this
  have hd : (recB r).drop (1 + (putT r.path).length + (putN r.num).length) = r.sum.data.toList := by
    rw [hb]
    have : (UInt8.ofNat r.kind.toNat :: (putT r.path ++ putN r.num)).length = 1 + (putT r.path).length + (putN r.num).length := by simp; omega
    rw [← this, show UInt8.ofNat r.kind.toNat :: (putT r.path ++ putN r.num ++ r.sum.data.toList) = (UInt8.ofNat r.kind.toNat :: (putT r.path ++ putN r.num)) ++ r.sum.data.toList from rfl, List.drop_left]
  have hk : ((UInt8.ofNat r.kind.toNat).toNat : Int) = r.kind := by simp; omega
  rw [hb] at hT hS hd ⊢
  simp only [bodyR, hT, bodyR1]
  rw [if_neg (by omega), hS, bodyR2, if_neg (by omega), Int.toNat_natCast, hd, hk, str_of', str_of', ← hn]
  simp [mayR, h]
theorem recB_len' (r : Rec) : (recB r).length = 1 + (putT r.path).length + (putN r.num).length + r.sum.size := by
  simp only [recB, List.length_cons, List.length_append]
  have : r.sum.data.toList.length = r.sum.size := rfl
  omega
theorem putN_le (m : Int) : (putN m).length ≤ 10 := grp_le 9 _
theorem recB_le {r : Rec} (h : May r) : (recB r).length ≤ 260 := by
  obtain ⟨h1, h2, h3, h4, h5, h6, h7, h8⟩ := h
  have a := putN_le r.num
  have b := putN_le r.path.size
  have c : (putT r.path).length = (putN r.path.size).length + r.path.size := by simp only [putT, List.length_append]; rfl
  rw [recB_len']; omega
theorem oneR_put {r : Rec} (h : May r) (rest : List UInt8) : oneR (putRec r ++ rest) = (r, ((putRec r).length : Int)) := by
  have hl := recB_le h
  have hS := getS_put [] (recB r ++ sealB (crcOf (recB r)) ++ rest) (recB r).length (by omega)
  simp only [List.nil_append, List.length_nil, Nat.zero_add] at hS
  have hp : putRec r ++ rest = putN (recB r).length ++ (recB r ++ sealB (crcOf (recB r)) ++ rest) := by simp [putRec]
  have hpl : (putRec r).length = (putN (recB r).length).length + ((recB r).length + 4) := by simp [putRec, sealB]
  unfold oneR
  rw [hp, show (0 : Int) = ((0 : Nat) : Int) from rfl, hS, oneR1]
  have h4 : (sealB (crcOf (recB r))).length = 4 := rfl
  rw [if_neg (by simp only [List.length_append, h4]; omega)]
  have hd : ((putN (recB r).length ++ (recB r ++ sealB (crcOf (recB r)) ++ rest)).drop (putN (recB r).length).length).take ((recB r).length + 4) = recB r ++ sealB (crcOf (recB r)) := by
    rw [List.drop_left, List.take_append_of_le_length (by simp only [List.length_append, h4]; omega), List.take_of_length_le (by simp only [List.length_append, h4]; omega)]
  rw [Int.toNat_natCast, show (((recB r).length : Int) + 4).toNat = (recB r).length + 4 by omega, hd, openS_seal, oneR2, if_neg (by omega), bodyR_recB h, oneR3, if_pos rfl, hpl]
  simp; omega
theorem oneR_canon {b : List UInt8} {r : Rec} {k : Nat} (h : oneR b = (r, (k : Int))) (hk : 0 < k) : May r ∧ b.take k = putRec r ∧ k ≤ b.length := by
  unfold oneR at h
  rcases getS_cases b 0 with ⟨x, to, hg, hx, hp, hpt, htl, hto⟩ | ⟨e0, hg, he, he0, he8⟩
  · have hc := getS_canon (p := 0) hg
    rw [hg, oneR1] at h
    split at h
    · simp only [Prod.mk.injEq] at h; omega
    · rename_i h1
      rw [Int.toNat_natCast, show ((x : Int) + 4).toNat = x + 4 by omega] at h
      rcases ho : openS ((b.drop to).take (x + 4)) with ⟨own, e2⟩
      rw [ho, oneR2] at h
      split at h
      · simp only [Prod.mk.injEq] at h; omega
      · rename_i he2
        have he2' : e2 = 0 := by omega
        subst he2'
        rcases hb : bodyR own with ⟨r', ok⟩
        rw [hb, oneR3] at h
        split at h
        · rename_i hok
          subst hok
          simp only [Prod.mk.injEq] at h
          obtain ⟨rfl, h2⟩ := h
          obtain ⟨hm, hx'⟩ := bodyR_canon hb
          obtain ⟨o1, o2⟩ := openS_ok ho
          have hlen : ((b.drop to).take (x + 4)).length = x + 4 := by rw [List.length_take, List.length_drop]; omega
          have hxl : x = (recB r').length := by rw [← hx']; omega
          refine ⟨hm, ?_, by omega⟩
          have hk2 : k = to + (x + 4) := by omega
          rw [hk2, List.take_add, o1, hx', putRec, ← hxl, ← hc.1, List.drop_zero, Nat.sub_zero]
        · simp only [Prod.mk.injEq] at h; omega
  · rw [hg, oneR1, if_pos (.inl he)] at h
    simp only [Prod.mk.injEq] at h; omega
end Go.Proofs.YthkjnpbbgfagkaaDoor
