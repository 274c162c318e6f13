import Derived.Test.YtlbbehfbjbbckaaGreatDoorQh
import Derived.LaidEqlPtr
/-! What is told of below a thing, plainly. -/
set_option linter.unusedVariables false
set_option linter.unusedSimpArgs false
namespace Go.Proofs.YtlbbehfbjbbckaaGreatDoor
open Go.RowKit

theorem glue_append : ∀ (A Z : List (List UInt8)), A ≠ [] → Z ≠ [] → glueB (A ++ Z) = glueB A ++ 47 :: glueB Z
  | [], _, h, _ => absurd rfl h
  | [a], z :: r, _, _ => rfl
  | [a], [], _, h => absurd rfl h
  | a :: b :: r, Z, _, h => by
    have := glue_append (b :: r) Z (by simp) h
    simp only [List.cons_append, glueB] at this ⊢
    rw [this]; simp
/-- Each directory's names can be told. -/
def Named (N : Nat → Option Nd) : Prop := ∀ i n, N i = some n → ∃ ks, NamesL n ks
theorem KidsN.names {n : Nd} {k : Nat} (h : KidsN n k) : ∃ ks, NamesL n ks := by
  obtain ⟨ks, h1, h2, _⟩ := h
  have hp := List.mergeSort_perm ks leB
  exact ⟨ks.mergeSort leB, hp.nodup_iff.2 h1, fun x => (hp.mem_iff).trans (h2 x), sorted_mergeSort ks⟩
theorem TreeAt.named {w : World} {t top c : Nat} {next : Int} {N : Nat → Option Nd} (h : TreeAt w t top next c N) : Named N := fun i n hi => by
  obtain ⟨k, hk, _⟩ := h.klen hi
  exact hk.names
theorem eachL_succ' {N : Nat → Option Nd} (hN : Named N) {f i : Nat} {p : List UInt8} {n : Nd} (hi : N i = some n) : ∃ ks, NamesL n ks ∧ eachL N (f + 1) p i = ks.flatMap (itemL N f p n) := by
  obtain ⟨ks, hk⟩ := hN i n hi
  exact ⟨ks, hk, eachL_succ hi hk⟩
theorem eachL_none {N : Nat → Option Nd} {f i : Nat} {p : List UInt8} (h : N i = none) : eachL N f p i = [] := by
  cases f with
  | zero => rfl
  | succ f => rw [eachL, h]
theorem eachL_from {N : Nat → Option Nd} (hN : Named N) : ∀ (f : Nat) (p : List UInt8) (i : Nat) (q : List UInt8) (k : Nat), (q, k) ∈ eachL N f p i → ∃ Y, Y ≠ [] ∧ Y.length ≤ f ∧ atN N (some i) Y = some k ∧ q = p ++ glueB Y
  | 0, p, i, q, k, h => by cases h
  | f + 1, p, i, q, k, h => by
    cases hi : N i with
    | none => rw [eachL_none hi] at h; cases h
    | some n =>
      obtain ⟨ks, hk, he⟩ := eachL_succ' hN (f := f) (p := p) hi
      rw [he, List.mem_flatMap] at h
      obtain ⟨x, hx, hm⟩ := h
      unfold itemL at hm
      cases hkx : n.kids x with
      | none => rw [hkx] at hm; cases hm
      | some k1 =>
        rw [hkx] at hm
        rcases List.mem_cons.1 hm with hm | hm
        · cases hm
          exact ⟨[x], by simp, by simp, by rw [atN_one hi]; exact hkx, rfl⟩
        · split at hm
          · obtain ⟨Y, h1, h2, h3, h4⟩ := eachL_from hN f _ k1 q k hm
            refine ⟨x :: Y, by simp, by simpa using h2, by rw [atN_step hi, hkx]; exact h3, ?_⟩
            rw [h4, show x :: Y = [x] ++ Y from rfl, glue_append [x] Y (by simp) h1]
            simp [glueB]
          · cases hm
theorem eachL_has {N : Nat → Option Nd} (hN : Named N) (hb : ∀ i n, N i = some n → n.kb = none → ∀ s, n.kids s = none) (hc : ∀ i n s j, N i = some n → n.kids s = some j → ∃ m, N j = some m) :
    ∀ (f : Nat) (p : List UInt8) (i : Nat) (Y : List (List UInt8)) (k : Nat), Y ≠ [] → Y.length ≤ f → atN N (some i) Y = some k → (p ++ glueB Y, k) ∈ eachL N f p i
  | f, p, i, [], k, h, _, _ => absurd rfl h
  | 0, p, i, x :: Y, k, _, h, _ => by simp at h
  | f + 1, p, i, x :: Y, k, _, hf, h => by
    cases hi : N i with
    | none => rw [atN_cons, show kidsOf N i x = none by unfold kidsOf; rw [hi]; rfl, atN_none] at h; cases h
    | some n =>
      obtain ⟨ks, hk, he⟩ := eachL_succ' hN (f := f) (p := p) hi
      rw [atN_step hi] at h
      cases hkx : n.kids x with
      | none => rw [hkx, atN_none] at h; cases h
      | some k1 =>
        rw [hkx] at h
        rw [he, List.mem_flatMap]
        refine ⟨x, (hk.mem x).2 (by rw [hkx]; rfl), ?_⟩
        unfold itemL
        rw [hkx]
        cases Y with
        | nil =>
          rw [atN_nil, Option.some.injEq] at h
          subst h
          exact List.mem_cons_self ..
        | cons y Y =>
          refine List.mem_cons_of_mem _ ?_
          obtain ⟨n1, hn1⟩ := hc i n x k1 hi hkx
          have hkb : kbN N k1 = true := by
            unfold kbN
            rw [hn1]
            simp only
            cases hq : n1.kb with
            | none =>
              rw [atN_step hn1, hb k1 n1 hn1 hq y, atN_none] at h; cases h
            | some b => rfl
          rw [if_pos hkb]
          have := eachL_has hN hb hc f (p ++ x ++ [47]) k1 (y :: Y) k (by simp) (by simpa using hf) h
          rw [show p ++ glueB (x :: y :: Y) = p ++ x ++ [47] ++ glueB (y :: Y) by simp [glueB]]
          exact this
/-- Whether all names below stay paths. -/
theorem rightAll_iff {N : Nat → Option Nd} (hN : Named N) (hb : ∀ i n, N i = some n → n.kb = none → ∀ s, n.kids s = none) (hc : ∀ i n s j, N i = some n → n.kids s = some j → ∃ m, N j = some m) (f : Nat) (p : List UInt8) (hp : p ≠ []) (i : Nat) (hd : ∀ Y k, atN N (some i) Y = some k → Y.length ≤ f) :
    rightAll (eachL N f (p ++ [47]) i) = true ↔ ∀ Y k, Y ≠ [] → atN N (some i) Y = some k → rightB (glueB (splitB p ++ Y)) = true := by
  have hg : ∀ Y, Y ≠ [] → glueB (splitB p ++ Y) = p ++ [47] ++ glueB Y := fun Y hY => by
    rw [glue_append _ _ (fun e => hp (splitB_nil_iff.1 e)) hY, glue_split]
    simp
  unfold rightAll
  rw [List.all_eq_true]
  constructor
  · intro h Y k hY hk
    have := h _ (eachL_has hN hb hc f (p ++ [47]) i Y k hY (hd Y k hk) hk)
    rw [hg Y hY]; exact this
  · rintro h ⟨q, k⟩ hm
    obtain ⟨Y, h1, h2, h3, h4⟩ := eachL_from hN f _ i q k hm
    have := h Y k h1 h3
    rw [hg Y h1, ← h4] at this
    exact this
/-- So deep is a tree below each thing. -/
theorem deep_of {N : Nat → Option Nd} : ∀ (f i : Nat), (∀ Y k, atN N (some i) Y = some k → Y.length ≤ f ∧ ∀ x ∈ Y, x.length ≤ 200) → Deep N f i
  | 0, i, h => fun s => by
    cases hs : kidsOf N i s with
    | none => rfl
    | some k =>
      have := (h [s] k (by rw [atN_cons, hs, atN_nil])).1
      simp at this
  | f + 1, i, h => fun s k hs => by
    refine ⟨(h [s] k (by rw [atN_cons, hs, atN_nil])).2 s (List.mem_singleton.2 rfl), deep_of f k fun Y j hj => ?_⟩
    obtain ⟨h1, h2⟩ := h (s :: Y) j (by rw [atN_cons, hs]; exact hj)
    exact ⟨by simpa using h1, fun x hx => h2 x (List.mem_cons_of_mem _ hx)⟩
theorem part_len {x : List UInt8} (h : partOk x = true) : x.length ≤ 48 := by
  unfold partOk at h
  simp only [Bool.and_eq_true, decide_eq_true_eq] at h
  exact h.2.1
theorem Rep.depth {N : Nat → Option Nd} {top : Nat} {S : St} (h : Rep N top S) {X : List (List UInt8)} {i : Nat} (hX : atN N (some top) X = some i) (Y : List (List UInt8)) (k : Nat) (hY : atN N (some i) Y = some k) : Y.length ≤ 12 ∧ ∀ x ∈ Y, x.length ≤ 200 := by
  obtain ⟨p, hp, hs⟩ := h.only (X ++ Y) k (by rw [atN_append, hX]; exact hY)
  have h12 := rightB_len12 hp
  rw [hs, List.length_append] at h12
  refine ⟨by omega, fun x hx => ?_⟩
  have := part_len (right_part hp (x := x) (by rw [hs]; exact List.mem_append_right _ hx))
  omega
end Go.Proofs.YtlbbehfbjbbckaaGreatDoor

/-! A name moves, with all below it, plainly. -/
set_option linter.unusedVariables false
set_option linter.unusedSimpArgs false
namespace Go.Proofs.YtlbbehfbjbbckaaGreatDoor
open Go.RowKit

theorem pfx_ex {X Y : List (List UInt8)} : pfxB X Y = true ↔ ∃ Z, X = Y ++ Z := by
  unfold pfxB
  rw [decide_eq_true_eq]
  constructor
  · intro h
    exact ⟨X.drop Y.length, by conv => lhs; rw [← List.take_append_drop Y.length X, h]⟩
  · rintro ⟨Z, rfl⟩
    simp
theorem pfx_no {X Y : List (List UInt8)} (h : pfxB X Y = false) (Z : List (List UInt8)) : X ≠ Y ++ Z := fun e => by
  rw [pfx_ex.2 ⟨Z, e⟩] at h; cases h
def moveP (old p q : List UInt8) : List UInt8 := if pfxB (splitB q) (splitB old) = true then glueB (splitB p ++ (splitB q).drop (splitB old).length) else q
theorem moveP_on {old p q : List UInt8} {Z : List (List UInt8)} (h : splitB q = splitB old ++ Z) : moveP old p q = glueB (splitB p ++ Z) := by
  unfold moveP
  rw [if_pos (pfx_ex.2 ⟨Z, h⟩), h, List.drop_left]
theorem moveP_off {old p q : List UInt8} (h : pfxB (splitB q) (splitB old) = false) : moveP old p q = q := by
  unfold moveP
  rw [h]; rfl
theorem moveP_split {old p q : List UInt8} {Z : List (List UInt8)} (hp : rightB p = true) (hq : rightB q = true) (h : splitB q = splitB old ++ Z) : splitB (moveP old p q) = splitB p ++ Z := by
  rw [moveP_on h]
  have hz : ∀ x ∈ Z, x ∈ splitB q := fun x hx => by rw [h]; exact List.mem_append_right _ hx
  exact split_below hp (fun x hx => splitB_noslash q x (hz x hx)) (fun x hx => part_ne (right_part hq (hz x hx)))
def St.moved (S : St) (old p : List UInt8) : St := { S with ls := S.ls.map (fun y => (moveP old p y.1, y.2)) }
def moveR (S : St) (old p : List UInt8) (i : Int) : Option Int → Int × St
  | some j => if (S.th i).kind = 2 then (11, S) else if (S.th j).kind = 2 then (13, S) else if j = i then (0, S) else (0, St.moved { S with ls := S.ls.filter (fun y => y.1 != p) } old p)
  | none => if (S.th i).kind = 2 ∧ (S.ls.all fun y => rightB (moveP old p y.1)) = false then (7, S) else (0, S.moved old p)
def renameR (S : St) (old p : List UInt8) : Option Int × Int → Option Int × Int → Int × St
  | (some i, e), (was, e2) => if e ≠ 0 then (e, S) else if (S.th i).kind = 2 ∧ p ≠ old ∧ pfxB (splitB p) (splitB old) = true then (2, S) else if e2 ≠ 0 then (e2, S) else moveR S old p i was
  | (none, e), _ => (e, S)
def St.rename (S : St) (old p : List UInt8) : Int × St :=
  if rightB old = false ∨ rightB p = false then (9, S) else if old = [] ∨ p = [] then (2, S) else renameR S old p (thereS (S.look old)) (S.look p)
/-- What stands above a name. -/
theorem OkS.above {S : St} (h : OkS S) {p : List UInt8} : ∀ (n : Nat) (Z : List (List UInt8)) (q : List UInt8) (i : Int), n = Z.length → (q, i) ∈ S.ls → splitB q = splitB p ++ Z → ∃ j, S.at p = some j ∧ (Z ≠ [] → (S.th j).kind = 2)
  | 0, Z, q, i, hn, hq, hs => by
    obtain rfl : Z = [] := List.eq_nil_of_length_eq_zero hn.symm
    rw [List.append_nil] at hs
    obtain rfl := splitB_inj hs
    exact ⟨i, (h.at_iff _ _).2 hq, fun e => absurd rfl e⟩
  | n + 1, Z, q, i, hn, hq, hs => by
    have hZ : Z ≠ [] := fun e => by rw [e] at hn; cases hn
    have hqr : rightB q = true := h.right _ hq
    have hq0 : q ≠ [] := fun e => by rw [e, splitB_nil] at hs; exact hZ (List.append_eq_nil_iff.1 hs.symm).2
    have h2 := split_parent hq0 hqr
    rw [hs, ← List.dropLast_concat_getLast hZ, ← List.append_assoc] at h2
    have h3 := (List.append_inj' h2 rfl).1.symm
    obtain ⟨d, h4, h5⟩ := h.up _ hq hq0
    have h4' := (h.at_iff _ _).1 h4
    obtain ⟨j, h6, h7⟩ := h.above n Z.dropLast (parentB q) d (by rw [List.length_dropLast]; omega) h4' h3
    refine ⟨j, h6, fun _ => ?_⟩
    by_cases hd : Z.dropLast = []
    · rw [hd, List.append_nil] at h3
      have h8 := splitB_inj h3
      have h4'' : S.at (parentB q) = some d := h4
      rw [h8, h6, Option.some.injEq] at h4''
      rw [h4'']; exact h5
    · exact h7 hd
theorem pfx_parent {p old : List UInt8} (hp : p ≠ []) (hr : rightB p = true) (h : pfxB (splitB p) (splitB old) = false) : pfxB (splitB (parentB p)) (splitB old) = false := by
  cases hq : pfxB (splitB (parentB p)) (splitB old) with
  | false => rfl
  | true =>
    obtain ⟨Z, hZ⟩ := pfx_ex.1 hq
    exact absurd (show splitB p = splitB old ++ (Z ++ [baseB p]) by rw [split_parent hp hr, hZ, List.append_assoc]) (pfx_no h _)
/-- What a move needs. -/
structure MoveOk (S : St) (old p : List UInt8) (i d : Int) : Prop where
  ro : rightB old = true
  rp : rightB p = true
  o0 : old ≠ []
  p0 : p ≠ []
  at_ : S.at old = some i
  free : S.at p = none
  up : S.at (parentB p) = some d
  dir : (S.th d).kind = 2
  out : pfxB (splitB p) (splitB old) = false
  right : ∀ y ∈ S.ls, rightB (moveP old p y.1) = true
theorem St.moved_mem {S : St} {old p : List UInt8} {q : List UInt8} {i : Int} : (q, i) ∈ (S.moved old p).ls ↔ ∃ y, (y, i) ∈ S.ls ∧ moveP old p y = q := by
  unfold St.moved
  rw [List.mem_map]
  constructor
  · rintro ⟨⟨y, j⟩, hy, e⟩
    cases e
    exact ⟨y, hy, rfl⟩
  · rintro ⟨y, hy, rfl⟩
    exact ⟨(y, i), hy, rfl⟩
theorem OkS.move {S : St} (h : OkS S) {old p : List UInt8} {i d : Int} (m : MoveOk S old p i d) : OkS (S.moved old p) := by
  have hinj : ∀ x ∈ S.ls, ∀ y ∈ S.ls, x.1 ≠ y.1 → moveP old p x.1 ≠ moveP old p y.1 := by
    have hone : ∀ x ∈ S.ls, ∀ y ∈ S.ls, ∀ Z, splitB x.1 = splitB old ++ Z → pfxB (splitB y.1) (splitB old) = false → moveP old p x.1 ≠ moveP old p y.1 := fun x hx y hy Z hZ hy2 e => by
      rw [moveP_off hy2] at e
      have h1 := moveP_split m.rp (h.right x hx) hZ
      rw [e] at h1
      obtain ⟨j, h2, _⟩ := h.above Z.length Z y.1 y.2 rfl hy h1
      rw [m.free] at h2; cases h2
    intro x hx y hy hne
    cases hx2 : pfxB (splitB x.1) (splitB old) with
    | false =>
      cases hy2 : pfxB (splitB y.1) (splitB old) with
      | false => rw [moveP_off hx2, moveP_off hy2]; exact hne
      | true =>
        obtain ⟨Z, hZ⟩ := pfx_ex.1 hy2
        exact fun e => hone y hy x hx Z hZ hx2 e.symm
    | true =>
      obtain ⟨Z, hZ⟩ := pfx_ex.1 hx2
      cases hy2 : pfxB (splitB y.1) (splitB old) with
      | false => exact hone x hx y hy Z hZ hy2
      | true =>
        obtain ⟨Z', hZ'⟩ := pfx_ex.1 hy2
        intro e
        have h1 := moveP_split m.rp (h.right x hx) hZ
        rw [e, moveP_split m.rp (h.right y hy) hZ'] at h1
        have h2 := List.append_cancel_left h1
        exact hne (splitB_inj (by rw [hZ, hZ', h2]))
  have hnd : (S.moved old p).ls.Pairwise (fun x y => x.1 ≠ y.1) := by
    unfold St.moved
    rw [List.pairwise_map]
    exact List.Pairwise.imp_of_mem (fun {x y} hx hy hxy => hinj x hx y hy hxy) h.nodup
  have hat : ∀ y j, S.at y = some j → (S.moved old p).at (moveP old p y) = some j := fun y j hy => mem_lookup hnd (St.moved_mem.2 ⟨y, (h.at_iff y j).1 hy, rfl⟩)
  refine ⟨hnd, ?_, ?_, ?_, ?_, ?_, h.kind1, h.tgt, ?_⟩
  · rintro ⟨q, j⟩ hx
    obtain ⟨y, hy, rfl⟩ := St.moved_mem.1 hx
    exact m.right _ hy
  · have := hat [] 1 h.top
    rwa [moveP_off (by
      cases hq : pfxB (splitB []) (splitB old) with
      | false => rfl
      | true =>
        obtain ⟨Z, hZ⟩ := pfx_ex.1 hq
        rw [splitB_nil] at hZ
        exact absurd (splitB_nil_iff.1 (List.append_eq_nil_iff.1 hZ.symm).1) m.o0)] at this
  · rintro ⟨q, j⟩ hx
    obtain ⟨y, hy, rfl⟩ := St.moved_mem.1 hx
    exact h.lt (y, j) hy
  · rintro ⟨q, j⟩ hx ⟨q', j'⟩ hx' he hne
    obtain ⟨y, hy, rfl⟩ := St.moved_mem.1 hx
    obtain ⟨y', hy', rfl⟩ := St.moved_mem.1 hx'
    have := h.one _ hy _ hy' he hne
    have e : y = y' := this
    rw [e]
  · rintro ⟨q, j⟩ hx
    obtain ⟨y, hy, rfl⟩ := St.moved_mem.1 hx
    exact h.kind (y, j) hy
  · rintro ⟨q, j⟩ hx hne
    obtain ⟨y, hy, rfl⟩ := St.moved_mem.1 hx
    have hyr : rightB y = true := h.right _ hy
    cases hy2 : pfxB (splitB y) (splitB old) with
    | false =>
      rw [moveP_off hy2] at hne ⊢
      obtain ⟨e, h1, h2⟩ := h.up _ hy hne
      refine ⟨e, ?_, h2⟩
      have := hat _ _ h1
      rwa [moveP_off (pfx_parent hne hyr hy2)] at this
    | true =>
      obtain ⟨Z, hZ⟩ := pfx_ex.1 hy2
      by_cases hZ0 : Z = []
      · subst hZ0
        rw [List.append_nil] at hZ
        obtain rfl := splitB_inj hZ
        have e : moveP y p y = p := by rw [moveP_on (Z := []) (by rw [List.append_nil]), List.append_nil, glue_split]
        rw [e]
        refine ⟨d, ?_, m.dir⟩
        have := hat _ _ m.up
        rwa [moveP_off (pfx_parent m.p0 m.rp m.out)] at this
      · have hy0 : y ≠ [] := fun e => by rw [e, splitB_nil] at hZ; exact hZ0 (List.append_eq_nil_iff.1 hZ.symm).2
        obtain ⟨e, h1, h2⟩ := h.up _ hy hy0
        have hsp := split_parent hy0 hyr
        rw [hZ, ← List.dropLast_concat_getLast hZ0, ← List.append_assoc] at hsp
        have h3 := (List.append_inj' hsp rfl).1.symm
        refine ⟨e, ?_, h2⟩
        have h4 := hat _ _ h1
        have h5 : parentB (moveP old p y) = moveP old p (parentB y) := by
          have h6 := moveP_split m.rp (h.right _ ((h.at_iff _ _).1 h1)) h3
          have h7 := moveP_split m.rp hyr hZ
          rw [← List.dropLast_concat_getLast hZ0, ← List.append_assoc, ← h6] at h7
          exact (parent_of (Y := []) (m.right _ hy) h7).2.1
        show (S.moved old p).at (parentB (moveP old p y)) = some e
        rw [h5]; exact h4
end Go.Proofs.YtlbbehfbjbbckaaGreatDoor

/-! A name moves, with all below it: a tree in memory is the plain one still. -/
set_option linter.unusedVariables false
set_option linter.unusedSimpArgs false
namespace Go.Proofs.YtlbbehfbjbbckaaGreatDoor
open Go.RowKit

theorem kidsOf_kid {N : Nat → Option Nd} {d : Nat} {s : List UInt8} {v : Option Nat} {m : Nd} (hd : N d = some m) : (∀ i, i ≠ d → kidsOf (kidN N d s v) i = kidsOf N i) ∧ kidsOf (kidN N d s v) d = kidsSet (kidsOf N d) s v :=
  ⟨fun i hi => by unfold kidsOf; rw [kidN_old s v hi], by rw [kidsOf_some (kidN_dir s v hd), kidsOf_some hd]⟩
def moveN (N : Nat → Option Nd) (f t : Nat) (bo bp : List UInt8) (k : Nat) : Nat → Option Nd := kidN (kidN N f bo none) t bp (some k)
theorem moveN_some {N : Nat → Option Nd} {f t k i : Nat} {bo bp : List UInt8} {m' : Nd} (h : moveN N f t bo bp k i = some m') :
    ∃ m, N i = some m ∧ m'.kind = m.kind ∧ m'.ino = m.ino ∧ m'.links = m.links ∧ thN m' = thN m ∧ (i ≠ f → i ≠ t → m'.kids = m.kids) ∧ (∀ s j, m'.kids s = some j → j = k ∨ m.kids s = some j) := by
  obtain ⟨m1, h1, _, _, _, _, _, _, a1, a2, a3, a4, a5⟩ := kidN_some h
  obtain ⟨m, h2, _, _, _, _, _, _, b1, b2, b3, b4, b5⟩ := kidN_some h1
  refine ⟨m, h2, a1.trans b1, a2.trans b2, a3.trans b3, a4.trans b4, fun hf ht => ?_, fun s j hs => ?_⟩
  · rcases a5 with ⟨e, _⟩ | ⟨_, e⟩
    · exact absurd e ht
    · rcases b5 with ⟨e', _⟩ | ⟨_, e'⟩
      · exact absurd e' hf
      · rw [e, e']
  · have h3 : ∀ s j, m1.kids s = some j → m.kids s = some j := fun s j hs => by
      rcases b5 with ⟨_, e⟩ | ⟨_, e⟩
      · rw [e] at hs
        unfold kidsSet at hs
        split at hs
        · cases hs
        · exact hs
      · rw [e] at hs; exact hs
    rcases a5 with ⟨_, e⟩ | ⟨_, e⟩
    · rw [e] at hs
      unfold kidsSet at hs
      split at hs
      · cases hs; exact .inl rfl
      · exact .inr (h3 s j hs)
    · rw [e] at hs; exact .inr (h3 s j hs)
theorem moveN_is {N : Nat → Option Nd} {f t k i : Nat} {bo bp : List UInt8} {m : Nd} (h : N i = some m) : ∃ m', moveN N f t bo bp k i = some m' ∧ m'.ino = m.ino := by
  obtain ⟨m1, h1, _, h2⟩ := kidN_is (d := f) bo none h
  obtain ⟨m2, h3, _, h4⟩ := kidN_is (d := t) bp (some k) h1
  exact ⟨m2, h3, h4.trans h2⟩
theorem Rep.move {N : Nat → Option Nd} {top k f t : Nat} {S : St} {old p : List UInt8} {i d : Int} {x mf mt : Nd} (h : Rep N top S) (ho : OkS S) (m : MoveOk S old p i d)
    (hk : atN N (some top) (splitB old) = some k) (hx : N k = some x) (hf : atN N (some top) (splitB (parentB old)) = some f) (hmf : N f = some mf) (ht : atN N (some top) (splitB (parentB p)) = some t) (hmt : N t = some mt) (hfk : mf.kind = 2) (htk : mt.kind = 2) :
    Rep (moveN N f t (baseB old) (baseB p) k) top (S.moved old p) := by
  have hso := split_parent m.o0 m.ro
  have hsp := split_parent m.p0 m.rp
  have hpp := pfx_parent m.p0 m.rp m.out
  obtain ⟨k1, k2⟩ := kidsOf_kid (s := baseB old) (v := none) hmf
  have hN1t : ∃ mt1, kidN N f (baseB old) none t = some mt1 := by
    obtain ⟨q, hq, _⟩ := kidN_is (d := f) (baseB old) none hmt
    exact ⟨q, hq⟩
  obtain ⟨mt1, hmt1⟩ := hN1t
  obtain ⟨g1, g2⟩ := kidsOf_kid (s := baseB p) (v := some k) hmt1
  rw [kidsOf_some hmf] at k2
  obtain ⟨hon1, hoff1⟩ := h.atCh ho hmf hfk hf k1 k2
  have hone : ∀ Z, atN (kidN N f (baseB old) none) (some top) (splitB old ++ Z) = none := fun Z => by
    rw [hso, List.append_assoc]
    exact (hon1 Z).trans (atN_none _ _)
  have hoff : ∀ X, (∀ Z, X ≠ splitB old ++ Z) → atN (kidN N f (baseB old) none) (some top) X = atN N (some top) X := fun X hX => hoff1 X (fun Z e => hX Z (by rw [e, hso, List.append_assoc]; rfl))
  have hbelow : ∀ Z, atN N (some top) (splitB old ++ Z) = atN N (some k) Z := fun Z => by rw [atN_append, hk]
  have hin1 : ∀ Z, atN (kidN N f (baseB old) none) (some k) Z = atN N (some k) Z := fun Z => atN_keep (b := baseB old) (d := f) k1 (fun y hy => by rw [k2, kidsOf_some hmf]; exact if_neg hy) Z _ (fun Y Z' e hY => by
    have h1 := (hbelow Y).trans hY
    have h2 := h.uniq ho hmf (by rw [hfk]; decide) h1 hf
    have h3 := congrArg List.length h2
    rw [hso] at h3
    simp at h3)
  have hu : ∀ X, atN (kidN N f (baseB old) none) (some top) X = some t → X = splitB (parentB p) := fun X hX => by
    by_cases hz : ∃ Z, X = splitB old ++ Z
    · obtain ⟨Z, rfl⟩ := hz
      rw [hone] at hX; cases hX
    · rw [hoff X (fun Z e => hz ⟨Z, e⟩)] at hX
      exact h.uniq ho hmt (by rw [htk]; decide) hX ht
  have hd1 : atN (kidN N f (baseB old) none) (some top) (splitB (parentB p)) = some t := by
    rw [hoff _ (pfx_no hpp)]; exact ht
  have g3 : ∀ y, y ≠ baseB p → kidsOf (moveN N f t (baseB old) (baseB p) k) t y = kidsOf (kidN N f (baseB old) none) t y := fun y hy => by
    unfold moveN; rw [g2]; exact if_neg hy
  have hin2 : ∀ Z, atN (moveN N f t (baseB old) (baseB p) k) (some k) Z = atN N (some k) Z := fun Z => by
    rw [← hin1 Z]
    refine atN_keep (b := baseB p) (d := t) g1 g3 Z _ (fun Y Z' e hY => ?_)
    rw [hin1 Y] at hY
    have h1 := (hbelow Y).trans hY
    have h2 := h.uniq ho hmt (by rw [htk]; decide) h1 ht
    exact pfx_no hpp Y h2.symm
  have c1 : ∀ Z, atN (moveN N f t (baseB old) (baseB p) k) (some top) (splitB p ++ Z) = atN N (some top) (splitB old ++ Z) := fun Z => by
    rw [hbelow, ← hin2 Z, hsp, List.append_assoc]
    show atN (moveN N f t (baseB old) (baseB p) k) (some top) (splitB (parentB p) ++ baseB p :: Z) = _
    rw [atN_on (N := kidN N f (baseB old) none) (N' := moveN N f t (baseB old) (baseB p) k) g1 g3 hu hd1]
    congr 1
    show kidsOf (moveN N f t (baseB old) (baseB p) k) t (baseB p) = some k
    unfold moveN; rw [g2]; exact if_pos rfl
  have c2 : ∀ X, (∀ Z, X ≠ splitB p ++ Z) → atN (moveN N f t (baseB old) (baseB p) k) (some top) X = atN (kidN N f (baseB old) none) (some top) X := fun X hX =>
    atN_off (N := kidN N f (baseB old) none) (N' := moveN N f t (baseB old) (baseB p) k) g1 g3 hu X (fun Z e => hX Z (by rw [e, hsp, List.append_assoc]; rfl))
  have hA : ∀ y j, (y, j) ∈ S.ls → atN (moveN N f t (baseB old) (baseB p) k) (some top) (splitB (moveP old p y)) = atN N (some top) (splitB y) := fun y j hy => by
    cases hy2 : pfxB (splitB y) (splitB old) with
    | true =>
      obtain ⟨Z, hZ⟩ := pfx_ex.1 hy2
      rw [moveP_split m.rp (h := hZ) (ho.right _ hy), c1, hZ]
    | false =>
      rw [moveP_off hy2, c2 _ (fun Z e => by
        obtain ⟨j', h1, _⟩ := ho.above Z.length Z y j rfl hy e
        rw [m.free] at h1; cases h1), hoff _ (pfx_no hy2)]
  have hB : ∀ X j, atN (moveN N f t (baseB old) (baseB p) k) (some top) X = some j → ∃ y n, (y, n.ino) ∈ S.ls ∧ N j = some n ∧ X = splitB (moveP old p y) := fun X j hX => by
    have hfin : ∀ Y, atN N (some top) Y = some j → ∃ y n, (y, n.ino) ∈ S.ls ∧ N j = some n ∧ splitB y = Y ∧ rightB y = true := fun Y hY => by
      obtain ⟨y, hy, rfl⟩ := h.only Y j hY
      have h1 := h.rep y hy
      rw [hY] at h1
      obtain ⟨n, h2, h3⟩ := h1.some
      exact ⟨y, n, (ho.at_iff _ _).1 h3, h2, rfl, hy⟩
    by_cases hz : ∃ Z, X = splitB p ++ Z
    · obtain ⟨Z, rfl⟩ := hz
      rw [c1] at hX
      obtain ⟨y, n, h1, h2, h3, h4⟩ := hfin _ hX
      exact ⟨y, n, h1, h2, (moveP_split m.rp h4 h3).symm⟩
    · rw [c2 X (fun Z e => hz ⟨Z, e⟩)] at hX
      by_cases hw : ∃ Z, X = splitB old ++ Z
      · obtain ⟨Z, rfl⟩ := hw
        rw [hone] at hX; cases hX
      · rw [hoff X (fun Z e => hw ⟨Z, e⟩)] at hX
        obtain ⟨y, n, h1, h2, h3, h4⟩ := hfin _ hX
        refine ⟨y, n, h1, h2, ?_⟩
        rw [moveP_off (by
          cases hq : pfxB (splitB y) (splitB old) with
          | false => rfl
          | true =>
            obtain ⟨Z, hZ⟩ := pfx_ex.1 hq
            exact absurd ⟨Z, by rw [← h3, hZ]⟩ hw), h3]
  have hoS := ho.move m
  refine ⟨fun q hq => ?_, fun X j hX => ?_, fun a b n n' ha hb he => ?_, fun j n hj => ?_, fun j n hj => ?_, fun j n hj => ?_, fun j n hj hkd s => ?_, fun a n s j ha hs => ?_, ?_⟩
  · cases hX : atN (moveN N f t (baseB old) (baseB p) k) (some top) (splitB q) with
    | some j =>
      obtain ⟨y, n, h1, h2, h3⟩ := hB _ j hX
      have h4 : (S.moved old p).at q = some n.ino := (hoS.at_iff _ _).2 (St.moved_mem.2 ⟨y, h1, (splitB_inj h3).symm⟩)
      obtain ⟨n', h5, h6⟩ := moveN_is (f := f) (t := t) (k := k) (bo := baseB old) (bp := baseB p) h2
      rw [h4]; exact ⟨n', h5, h6⟩
    | none =>
      cases hq2 : (S.moved old p).at q with
      | none => trivial
      | some e =>
        obtain ⟨y, h1, rfl⟩ := St.moved_mem.1 ((hoS.at_iff _ _).1 hq2)
        rw [hA y e h1] at hX
        obtain ⟨j, n, h2, _⟩ := h.mem ho h1
        rw [hX] at h2; cases h2
  · obtain ⟨y, n, h1, _, h3⟩ := hB X j hX
    exact ⟨_, m.right _ h1, h3.symm⟩
  · obtain ⟨a0, h1, _, h2, _⟩ := moveN_some ha
    obtain ⟨b0, h3, _, h4, _⟩ := moveN_some hb
    exact h.inj a b a0 b0 h1 h3 (by rw [← h2, ← h4]; exact he)
  · obtain ⟨a0, h1, _, h2, _, h3, _⟩ := moveN_some hj
    show S.th n.ino = thN n
    rw [h2, h3]; exact h.info j a0 h1
  · obtain ⟨a0, h1, _, h2, _⟩ := moveN_some hj
    rw [h2]; exact h.lt j a0 h1
  · obtain ⟨a0, h1, _, h2, h3, _⟩ := moveN_some hj
    rw [h3, h2, h.links j a0 h1]
    unfold St.moved
    rw [List.countP_map]
    rfl
  · obtain ⟨a0, h1, h2, _, _, _, h3, _⟩ := moveN_some hj
    have ha : j ≠ f := fun e => by
      rw [e, hmf, Option.some.injEq] at h1
      rw [h2, ← h1] at hkd; exact hkd hfk
    have hb : j ≠ t := fun e => by
      rw [e, hmt, Option.some.injEq] at h1
      rw [h2, ← h1] at hkd; exact hkd htk
    rw [h3 ha hb]
    exact h.leaf j a0 h1 (by rw [← h2]; exact hkd) s
  · obtain ⟨a0, h1, _, _, _, _, _, h3⟩ := moveN_some ha
    have hex : ∃ q, N j = some q := by
      rcases h3 s j hs with rfl | h4
      · exact ⟨x, hx⟩
      · exact h.closed a a0 s j h1 h4
    obtain ⟨q, hq⟩ := hex
    obtain ⟨q', hq', _⟩ := moveN_is (f := f) (t := t) (k := k) (bo := baseB old) (bp := baseB p) hq
    exact ⟨q', hq'⟩
  · obtain ⟨r, hr⟩ := h.root
    obtain ⟨q', hq', _⟩ := moveN_is (f := f) (t := t) (k := k) (bo := baseB old) (bp := baseB p) hr
    exact ⟨q', hq'⟩
end Go.Proofs.YtlbbehfbjbbckaaGreatDoor

/-! Ahead of a move: what stood there goes; whether the names below fit. -/
set_option linter.unusedVariables false
set_option linter.unusedSimpArgs false
namespace Go.Proofs.YtlbbehfbjbbckaaGreatDoor
open Go.RowKit

theorem Rep.fits {N : Nat → Option Nd} {top k : Nat} {S : St} {old p : List UInt8} (h : Rep N top S) (ho : OkS S) (hN : Named N) (hb : ∀ i n, N i = some n → n.kb = none → ∀ s, n.kids s = none) (hk : atN N (some top) (splitB old) = some k) (hp : rightB p = true) (hp0 : p ≠ []) :
    rightAll (eachL N 13 (p ++ [47]) k) = S.ls.all (fun y => rightB (moveP old p y.1)) := by
  have h1 := rightAll_iff hN hb h.closed 13 p hp0 k (fun Y j hY => by have := (h.depth hk Y j hY).1; omega)
  rw [Bool.eq_iff_iff, h1, List.all_eq_true]
  constructor
  · rintro h2 ⟨y, e⟩ hy
    show rightB (moveP old p y) = true
    cases hy2 : pfxB (splitB y) (splitB old) with
    | false => rw [moveP_off hy2]; exact ho.right _ hy
    | true =>
      obtain ⟨Z, hZ⟩ := pfx_ex.1 hy2
      rw [moveP_on hZ]
      by_cases hZ0 : Z = []
      · rw [hZ0, List.append_nil, glue_split]; exact hp
      · obtain ⟨j, n, h3, _⟩ := h.mem ho hy
        refine h2 Z j hZ0 ?_
        have h4 : atN N (some top) (splitB y) = some j := h3
        rw [hZ, atN_append, hk] at h4
        exact h4
  · intro h2 Y j hY hj
    obtain ⟨y, hy, hs⟩ := h.only (splitB old ++ Y) j (by rw [atN_append, hk]; exact hj)
    have h3 := h.rep y hy
    rw [hs, atN_append, hk, hj] at h3
    obtain ⟨n, _, h4⟩ := h3.some
    have := h2 _ ((ho.at_iff _ _).1 h4)
    rw [moveP_on hs] at this
    exact this
set_option maxRecDepth 100000 in
set_option maxHeartbeats 4000000 in
theorem out_nil (t top c d b : Nat) (next : Int) (N : Nat → Option Nd) (m : Nd) (p : ByteArray) (w : World) (h : TreeAt w t top next c N) (hd : N d = some m) (hkb : m.kb = some b) (hkid : m.kids (baseB p.data.toList) = none) (hp : p.size ≤ 2097152) :
    Calls Tryz.prog 78 #[ptrN d, .string p] w fun e w' => e = .returned (.tuple #[]) ∧ w' = w := by
  have hM := h.kids d m b hd hkb
  have hbs := base_size p hp
  have hst : (str (baseB p.data.toList)).data.toList = baseB p.data.toList := by simp [str]
  have hlk := hM.look Tryz.underlying109 (ptrZero _) (s := str (baseB p.data.toList)) hbs
  rw [hst, hkid] at hlk
  replace hlk : (Instr.lookup 109 (.map (some b)) (.string (str (baseB p.data.toList))) false).run Tryz.prog w = .ok (.pointer none) w := hlk
  obtain ⟨_, _, _, _, _, _, _, _, _, _, _, n11⟩ := node_cells (h.node d m hd)
  rw [hkb] at n11
  clear hM h hd hkb hkid
  unfold ptrN
  go_enter Tryz.func78, Tryz.ntmps78
  go_wp2_with fail
  refine (base_any p w (by omega)).mono ?_
  rintro e w1 ⟨rfl, rfl⟩
  go_wp2_with fail
  go_end0
  exact ⟨rfl, rfl⟩
def outN (N : Nat → Option Nd) (d : Nat) (b : List UInt8) : Option Nat → Nat → Option Nd
  | some j => relN N d b none j (-1)
  | none => N
def St.gone (S : St) (p : List UInt8) : St := { S with ls := S.ls.filter (fun y => y.1 != p) }
theorem outN_some {N : Nat → Option Nd} {d i : Nat} {b : List UInt8} {o : Option Nat} {m' : Nd} (h : outN N d b o i = some m') : ∃ m, N i = some m ∧ m'.ino = m.ino ∧ m'.kind = m.kind := by
  cases o with
  | none => exact ⟨m', h, rfl, rfl⟩
  | some j =>
    obtain ⟨m, h1, h2, h3, _⟩ := relN_some h
    exact ⟨m, h1, h2, congrArg Th.kind h3⟩
theorem outN_is {N : Nat → Option Nd} {d i : Nat} {b : List UInt8} {o : Option Nat} {m : Nd} (h : N i = some m) : ∃ m', outN N d b o i = some m' ∧ m'.ino = m.ino ∧ m'.kind = m.kind := by
  cases o with
  | none => exact ⟨m, h, rfl, rfl⟩
  | some j =>
    obtain ⟨m', h1, h2⟩ := relN_is (d := d) (k := j) (b := b) (v := none) (n := -1) h
    obtain ⟨m0, h3, _, h5, _⟩ := relN_some h1
    rw [h, Option.some.injEq] at h3
    subst h3
    exact ⟨m', h1, h2, congrArg Th.kind h5⟩
theorem outN_at {N : Nat → Option Nd} {top d : Nat} {S : St} {p : List UInt8} {o : Option Nat} (h : Rep N top S) (ho : OkS S) (hl : lookN N top p = (o, some d, 0)) (X : List (List UInt8)) (hX : ∀ Z, X ≠ splitB p ++ Z) : atN (outN N d (baseB p) o) (some top) X = atN N (some top) X := by
  cases o with
  | none => rfl
  | some j =>
    obtain ⟨hr, hp, hd, m, hm, hmk, hmb⟩ := lookN_fresh hl
    obtain ⟨hk1, hk2⟩ := relN_kids (k := j) (b := baseB p) (v := none) (n := -1) hm
    obtain ⟨hon, hoff⟩ := h.atCh ho hm hmk hd hk1 hk2
    exact hoff X (fun Z e => hX Z (by rw [e, split_parent hp hr, List.append_assoc]; rfl))
theorem gone_none {S : St} (ho : OkS S) {p : List UInt8} (h : S.at p = none) : S.gone p = S := by
  have : S.ls.filter (fun y => y.1 != p) = S.ls := List.filter_eq_self.2 (fun y hy => by
    have hne : y.1 ≠ p := fun e => by
      have := (ho.at_iff y.1 y.2).2 hy
      rw [e, h] at this; cases this
    simpa using hne)
  unfold St.gone
  rw [this]
theorem outS_any (t top c d : Nat) (N : Nat → Option Nd) (S : St) (p : ByteArray) (o : Option Nat) (w : World) (h : TreeAt w t top S.next c N) (hR : Rep N top S) (ho : OkS S) (hl : lookN N top p.data.toList = (o, some d, 0)) (hk : ∀ j x, o = some j → N j = some x → x.kind ≠ 2) (hp : p.size ≤ 2097152) (hls : S.ls.length ≤ 1099511627776) :
    Calls Tryz.prog 78 #[ptrN d, .string p] w fun e w' => e = .returned (.tuple #[]) ∧ TreeAt w' t top S.next c (outN N d (baseB p.data.toList) o) ∧ Rep (outN N d (baseB p.data.toList) o) top (S.gone p.data.toList) ∧ OkS (S.gone p.data.toList) ∧ Only (ownT t N) w w' := by
  obtain ⟨hr, hp0, hD, m, hd, hmk, hmb⟩ := lookN_fresh hl
  obtain ⟨b, hb⟩ : ∃ b, m.kb = some b := by
    cases hq : m.kb with
    | none => exact absurd hq (h.dirs d m hd hmk)
    | some b => exact ⟨b, rfl⟩
  cases o with
  | none =>
    have hat : S.at p.data.toList = none := by
      have := hR.rep _ hr
      rw [Rep.parent hp0 hr hD hd, hmb] at this
      exact (this.none_iff).1 rfl
    refine (out_nil t top c d b S.next N m p w h hd hb hmb hp).mono ?_
    rintro e w' ⟨rfl, rfl⟩
    rw [gone_none ho hat]
    exact ⟨rfl, h, hR, ho, Only.refl _ _⟩
  | some k =>
    obtain ⟨x, hx⟩ := h.closed d m _ k hd hmb
    have hxk := hk k x rfl hx
    have hnk := hR.leaf k x hx hxk
    have hdk : k ≠ d := fun e => by
      rw [e, hd, Option.some.injEq] at hx
      exact hxk (by rw [← hx]; exact hmk)
    have hatp : atN N (some top) (splitB p.data.toList) = some k := by rw [Rep.parent hp0 hr hD hd, hmb]
    have hnin : S.hasIn p.data.toList = false := by
      cases hq : S.hasIn p.data.toList with
      | false => rfl
      | true => obtain ⟨s, j, hj⟩ := (hR.hasIn ho hatp hx).1 hq; rw [hnk s] at hj; cases hj
    obtain ⟨hl0, hl1⟩ := links_bound hR hx
    refine (out_any t top c d b S.next N m p k x w h hd hb hmb hx hdk hp (by omega) (by omega)).mono ?_
    rintro e w' ⟨rfl, h1, h2⟩
    exact ⟨rfl, h1, hR.gone ho hl hx hnk, ho.gone hp0 hnin, h2.mono (fun j _ hj => hj.elim (fun e => .inr (.inl ⟨x, by rw [e]; exact hx⟩)) (fun e => .inr (.inr ⟨d, m, hd, by rw [e]; exact hb⟩)))⟩
end Go.Proofs.YtlbbehfbjbbckaaGreatDoor

/-! A name moves: the program's Rename. -/
set_option linter.unusedVariables false
set_option linter.unusedSimpArgs false
namespace Go.Proofs.YtlbbehfbjbbckaaGreatDoor
open Go.RowKit

structure Ready (N1 : Nat → Option Nd) (top k f t : Nat) (S1 : St) (old p : List UInt8) (i d : Int) (x1 mf mt : Nd) : Prop where
  ok : MoveOk S1 old p i d
  hk : N1 k = some x1
  hf : N1 f = some mf
  ht : N1 t = some mt
  fk : mf.kind = 2
  tk : mt.kind = 2
  atk : atN N1 (some top) (splitB old) = some k
  atf : atN N1 (some top) (splitB (parentB old)) = some f
  att : atN N1 (some top) (splitB (parentB p)) = some t
theorem gone_at {S : St} {p q : List UInt8} (h : OkS (S.gone p)) (ho : OkS S) (i : Int) : (S.gone p).at q = some i ↔ q ≠ p ∧ S.at q = some i := by
  rw [h.at_iff, ho.at_iff]
  unfold St.gone
  rw [List.mem_filter]
  simp only [bne_iff_ne, ne_eq]
  exact and_comm
theorem move_ready {N : Nat → Option Nd} {top k f t : Nat} {S : St} {old p : List UInt8} {o2 : Option Nat} {x : Nd} (h : Rep N top S) (ho : OkS S) (hlo : lookN N top old = (some k, some f, 0)) (hlp : lookN N top p = (o2, some t, 0)) (hk : N k = some x)
    (hne : o2 ≠ some k) (hno : ∀ j y, o2 = some j → N j = some y → y.kind ≠ 2) (hdir : x.kind = 2 → ¬ (p ≠ old ∧ pfxB (splitB p) (splitB old) = true) ∧ (S.ls.all fun y => rightB (moveP old p y.1)) = true)
    (h1 : Rep (outN N t (baseB p) o2) top (S.gone p)) (ho1 : OkS (S.gone p)) : ∃ i d x1 mf mt, Ready (outN N t (baseB p) o2) top k f t (S.gone p) old p i d x1 mf mt := by
  obtain ⟨ro, o0, hD, mf, hf, hfk, hfb⟩ := lookN_fresh hlo
  obtain ⟨rp, p0, hE, mt, ht, htk, htb⟩ := lookN_fresh hlp
  have hso := split_parent o0 ro
  have hsp := split_parent p0 rp
  have hatk : atN N (some top) (splitB old) = some k := by rw [Rep.parent o0 ro hD hf, hfb]
  have hatp : atN N (some top) (splitB p) = o2 := by rw [Rep.parent p0 rp hE ht, htb]
  have hSold : S.at old = some x.ino := by
    have := h.rep old ro
    rw [hatk] at this
    obtain ⟨n, g1, g2⟩ := this.some
    rw [hk, Option.some.injEq] at g1; subst g1; exact g2
  have hpo : p ≠ old := fun e => hne (by rw [← hatp, e, hatk])
  have hnoo : ∀ Z, splitB old ≠ splitB p ++ Z := fun Z e => by
    obtain ⟨j, g1, g2⟩ := ho.above Z.length Z old x.ino rfl ((ho.at_iff _ _).1 hSold) e
    by_cases hZ : Z = []
    · rw [hZ, List.append_nil] at e
      exact hpo (splitB_inj e).symm
    · have g3 := g2 hZ
      have g4 := h.rep p rp
      rw [hatp, g1] at g4
      cases o2 with
      | none => exact absurd g4 (by simp [SameO])
      | some jj =>
        obtain ⟨n, g5, g6⟩ := g4
        refine hno jj n rfl g5 ?_
        rw [← g6, h.info jj n g5] at g3
        exact g3
  have hnof : ∀ Z, splitB (parentB old) ≠ splitB p ++ Z := fun Z e => hnoo (Z ++ [baseB old]) (by rw [hso, e, List.append_assoc])
  have hnot : ∀ Z, splitB (parentB p) ≠ splitB p ++ Z := fun Z e => by
    rw [hsp] at e
    have := congrArg List.length e
    simp at this
  have hout : pfxB (splitB p) (splitB old) = false := by
    cases hq : pfxB (splitB p) (splitB old) with
    | false => rfl
    | true =>
      by_cases hk2 : x.kind = 2
      · exact absurd ⟨hpo, hq⟩ (hdir hk2).1
      · obtain ⟨Z, hZ⟩ := pfx_ex.1 hq
        by_cases hZ0 : Z = []
        · rw [hZ0, List.append_nil] at hZ
          exact absurd (splitB_inj hZ) hpo
        · exfalso
          rw [hsp, ← List.dropLast_concat_getLast hZ0, ← List.append_assoc] at hZ
          have hE' := hE
          rw [(List.append_inj' hZ rfl).1, atN_append, hatk, atN_leaf (fun s => by rw [kidsOf_some hk]; exact h.leaf k x hk hk2 s)] at hE'
          split at hE'
          · cases hE'
            rw [hk, Option.some.injEq] at ht
            exact hk2 (by rw [ht]; exact htk)
          · cases hE'
  have hright : ∀ y ∈ S.ls, rightB (moveP old p y.1) = true := fun y hy => by
    by_cases hk2 : x.kind = 2
    · exact List.all_eq_true.1 (hdir hk2).2 y hy
    · cases hy2 : pfxB (splitB y.1) (splitB old) with
      | false => rw [moveP_off hy2]; exact ho.right y hy
      | true =>
        obtain ⟨Z, hZ⟩ := pfx_ex.1 hy2
        by_cases hZ0 : Z = []
        · rw [moveP_on hZ, hZ0, List.append_nil, glue_split]; exact rp
        · exfalso
          obtain ⟨j, g1, g2⟩ := ho.above Z.length Z y.1 y.2 rfl hy hZ
          have g3 := g2 hZ0
          rw [hSold, Option.some.injEq] at g1
          rw [← g1, h.info k x hk] at g3
          exact hk2 g3
  obtain ⟨x1, a1, a2, a3⟩ := outN_is (d := t) (b := baseB p) (o := o2) hk
  obtain ⟨f1, b1, b2, b3⟩ := outN_is (d := t) (b := baseB p) (o := o2) hf
  obtain ⟨t1, c1, c2, c3⟩ := outN_is (d := t) (b := baseB p) (o := o2) ht
  have hup : S.at (parentB p) = some mt.ino := by
    have := h.rep _ (rightB_parent rp)
    rw [hE] at this
    obtain ⟨n, g1, g2⟩ := this.some
    rw [ht, Option.some.injEq] at g1; subst g1; exact g2
  have hpp : parentB p ≠ p := fun e => hnot [] (by rw [e, List.append_nil])
  refine ⟨x.ino, mt.ino, x1, f1, t1, ⟨ro, rp, o0, p0, (gone_at ho1 ho _).2 ⟨fun e => hpo e.symm, hSold⟩, ?_, (gone_at ho1 ho _).2 ⟨hpp, hup⟩, ?_, hout, fun y hy => hright y (List.mem_filter.1 hy).1⟩, a1, b1, c1, b3.trans hfk, c3.trans htk, ?_, ?_, ?_⟩
  · cases hq : (S.gone p).at p with
    | none => rfl
    | some i => exact absurd rfl ((gone_at ho1 ho _).1 hq).1
  · show (S.th mt.ino).kind = 2
    rw [h.info t mt ht]; exact htk
  · rw [outN_at h ho hlp _ hnoo]; exact hatk
  · rw [outN_at h ho hlp _ hnof]; exact hD
  · rw [outN_at h ho hlp _ hnot]; exact hE
end Go.Proofs.YtlbbehfbjbbckaaGreatDoor

/-! Pointers compared. -/
set_option linter.unusedVariables false
set_option linter.unusedSimpArgs false
namespace Go.Proofs.YtlbbehfbjbbckaaGreatDoor
open Go.RowKit
theorem ptrEqN (k : Nat) (w : World) : (binOp BinOp.eql 99 (.pointer none) (.pointer (some ⟨k, 0, none⟩))).run Tryz.prog w = .ok (.bool false) w := by kernel_rfl
theorem ptrU : Tryz.prog.underlying 99 = some (.pointer 111) := by kernel_rfl
theorem ptrI : (Tryz.prog.info? 111).map (fun i => i.size) = some 12 := by kernel_rfl
theorem ptrI2 : ∃ j, Tryz.prog.info? 111 = some j ∧ j.size ≠ 0 := by
  have h := ptrI
  cases hi : Tryz.prog.info? 111 with
  | none => rw [hi] at h; cases h
  | some j =>
    rw [hi] at h
    simp only [Option.map_some, Option.some.injEq] at h
    exact ⟨j, rfl, by omega⟩
theorem ptrSame (k : Nat) (w : World) : (binOp BinOp.eql 99 (.pointer (some ⟨k, 0, none⟩)) (.pointer (some ⟨k, 0, none⟩))).run Tryz.prog w = .ok (.bool true) w := by
  obtain ⟨j, h, _⟩ := ptrI2
  exact run_eql_ptr_same w ⟨k, 0, none⟩ ptrU h
theorem ptrOther {j k : Nat} {w : World} {T T' : TypeId} {cs cs' : List Value} (hj : Blk w j T cs) (hk : Blk w k T' cs') (h : j ≠ k) : (binOp BinOp.eql 99 (.pointer (some ⟨j, 0, none⟩)) (.pointer (some ⟨k, 0, none⟩))).run Tryz.prog w = .ok (.bool false) w := by
  obtain ⟨i, h1, h2⟩ := ptrI2
  exact run_eql_ptr_other w ptrU h1 h2 (fun e => h (by cases e; rfl)) hj hk
end Go.Proofs.YtlbbehfbjbbckaaGreatDoor
