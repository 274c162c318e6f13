import Derived.Test.YtlbbehfbjbbckaaGreatDoorQg
import Derived.Test.YtlbbehfbjbbckaaGreatDoorQd
import Derived.Test.YtlbbehfbjbbckaaGreatDoorQc
import Derived.Sort.OwnSorted
import Derived.Maps.RangeWalk
/-! One entry of one directory changes: in memory, and plainly. -/
set_option linter.unusedVariables false
set_option linter.unusedSimpArgs false
namespace Go.Proofs.YtlbbehfbjbbckaaGreatDoor
open Go.RowKit

def kidsSet (k : List UInt8 → Option Nat) (s : List UInt8) (v : Option Nat) : List UInt8 → Option Nat := fun y => if y = s then v else k y
def kidN (N : Nat → Option Nd) (d : Nat) (s : List UInt8) (v : Option Nat) : Nat → Option Nd := fun i => if i = d then (N d).map (fun m => { m with kids := kidsSet m.kids s v }) else N i
theorem kidN_dir {N : Nat → Option Nd} {d : Nat} (s : List UInt8) (v : Option Nat) {m : Nd} (hm : N d = some m) : kidN N d s v d = some { m with kids := kidsSet m.kids s v } := by unfold kidN; rw [if_pos rfl, hm]; rfl
theorem kidN_old {N : Nat → Option Nd} {d i : Nat} (s : List UInt8) (v : Option Nat) (h : i ≠ d) : kidN N d s v i = N i := if_neg h
theorem kidN_some {N : Nat → Option Nd} {d i : Nat} {s : List UInt8} {v : Option Nat} {m' : Nd} (h : kidN N d s v i = some m') :
    ∃ m, N i = some m ∧ encN m' = encN m ∧ m'.dA = m.dA ∧ m'.dn = m.dn ∧ m'.dc = m.dc ∧ m'.data = m.data ∧ m'.kb = m.kb ∧ m'.kind = m.kind ∧ m'.ino = m.ino ∧ m'.links = m.links ∧ thN m' = thN m ∧ ((i = d ∧ m'.kids = kidsSet m.kids s v) ∨ (i ≠ d ∧ m'.kids = m.kids)) := by
  by_cases hi : i = d
  · subst hi
    unfold kidN at h
    rw [if_pos rfl] at h
    cases hm : N i with
    | none => rw [hm] at h; cases h
    | some m =>
      rw [hm] at h
      simp only [Option.map_some, Option.some.injEq] at h
      subst h
      exact ⟨m, rfl, rfl, rfl, rfl, rfl, rfl, rfl, rfl, rfl, rfl, rfl, .inl ⟨rfl, rfl⟩⟩
  · rw [kidN_old s v hi] at h
    exact ⟨m', h, rfl, rfl, rfl, rfl, rfl, rfl, rfl, rfl, rfl, rfl, .inr ⟨hi, rfl⟩⟩
theorem kidN_is {N : Nat → Option Nd} {d i : Nat} {m : Nd} (s : List UInt8) (v : Option Nat) (h : N i = some m) : ∃ m', kidN N d s v i = some m' ∧ m'.kind = m.kind ∧ m'.ino = m.ino := by
  by_cases hi : i = d
  · subst hi; exact ⟨_, kidN_dir s v h, rfl, rfl⟩
  · exact ⟨m, (kidN_old s v hi).trans h, rfl, rfl⟩
theorem TreeAt.kid {w w' : World} {t top c c' d b : Nat} {next : Int} {N : Nat → Option Nd} {m : Nd} {s : List UInt8} {v : Option Nat} (h : TreeAt w t top next c N) (hd : N d = some m) (hk : m.kb = some b) (hc : c ≤ c')
    (hm : MapAt w' b c' (fun y => (kidsSet m.kids s v y).map ptrN)) (hg : w.grownBy w' (some b)) (hv : ∀ j, v = some j → ∃ x, N j = some x) : TreeAt w' t top next c' (kidN N d s v) := by
  have hb := h.kids d m b hd hk
  have hoth : ∀ {g : Nat} {T : TypeId} {cs : List Value}, Blk w g T cs → Blk w' g T cs := fun hB => hB.grown hg (fun e => hb.ne hB (by cases e; rfl))
  have hdat : ∀ {a : Addr} {cs : Array Value}, w.heap[a.block]? = some (.cells cs 5 (0, 0)) → w'.heap[a.block]? = w.heap[a.block]? := fun {a cs} hc => hg.block _ (Array.getElem?_eq_some_iff.1 hc).1 (fun e => by
    obtain ⟨es, cl, he⟩ := hb.obj
    cases e
    rw [hc] at he; cases he)
  have hmap : ∀ {k cc : Nat} {f : List UInt8 → Option Value}, MapAt w k cc f → k ≠ b → MapAt w' k cc f := fun hM hne => hM.grown hg (fun e => hne (by cases e; rfl))
  refine ⟨hoth h.tree, fun i m' hi => ?_, fun i m' hi => ?_, fun i m' k hi hk' => ?_, fun i m' hi hk' => ?_, fun i j m1 m2 k hi hj h1 h2 => ?_, fun i m' y j hi hy => ?_, ?_, fun i m' hi h2 => ?_, fun i m' hi => ?_⟩
  · obtain ⟨m0, hm0, e1, _⟩ := kidN_some hi
    rw [e1]; exact hoth (h.node i m0 hm0)
  · obtain ⟨m0, hm0, e1, e2, e3, _, e4, _⟩ := kidN_some hi
    rw [e2, e3, e4]
    exact ⟨(h.data i m0 hm0).1.heap1 (fun a ha => by obtain ⟨cs, hc⟩ := (h.data i m0 hm0).2 a ha; exact hdat hc), fun a ha => by obtain ⟨cs, hc⟩ := (h.data i m0 hm0).2 a ha; exact ⟨cs, (hdat hc).trans hc⟩⟩
  · obtain ⟨m0, hm0, e1, _, _, _, _, e5, _, _, _, _, ⟨rfl, e7⟩ | ⟨h2, e7⟩⟩ := kidN_some hi
    · rw [hd, Option.some.injEq] at hm0
      subst hm0
      rw [e5, hk, Option.some.injEq] at hk'
      subst hk'
      rw [e7]; exact hm
    · rw [e5] at hk'
      rw [e7]
      exact (hmap (h.kids i m0 k hm0 hk') (fun e => h2 (h.apart i d m0 m b hm0 hd (by rw [hk', e]) hk))).mono hc
  · obtain ⟨m0, hm0, e1, _, _, _, _, e5, _, _, _, _, ⟨rfl, e7⟩ | ⟨h2, e7⟩⟩ := kidN_some hi
    · rw [hd, Option.some.injEq] at hm0
      subst hm0
      rw [e5, hk] at hk'; cases hk'
    · rw [e7]; exact h.bare i m0 hm0 (by rw [← e5]; exact hk')
  · obtain ⟨a0, ha0, _, _, _, _, _, e5, _⟩ := kidN_some hi
    obtain ⟨b0, hb0, _, _, _, _, _, f5, _⟩ := kidN_some hj
    exact h.apart i j a0 b0 k ha0 hb0 (by rw [← e5]; exact h1) (by rw [← f5]; exact h2)
  · have hex : ∀ j q, N j = some q → ∃ q', kidN N d s v j = some q' := fun j q hq => by
      obtain ⟨q', hq', _⟩ := kidN_is (d := d) s v hq
      exact ⟨q', hq'⟩
    obtain ⟨m0, hm0, e1, _, _, _, _, e5, _, _, _, _, ⟨rfl, e7⟩ | ⟨h2, e7⟩⟩ := kidN_some hi
    · rw [e7] at hy
      unfold kidsSet at hy
      by_cases hys : y = s
      · rw [if_pos hys] at hy
        obtain ⟨x, hx⟩ := hv j hy
        exact hex j x hx
      · rw [if_neg hys] at hy
        obtain ⟨q, hq⟩ := h.closed i m0 y j hm0 hy
        exact hex j q hq
    · rw [e7] at hy
      obtain ⟨q, hq⟩ := h.closed i m0 y j hm0 hy
      exact hex j q hq
  · obtain ⟨r, hr, hr2⟩ := h.root
    obtain ⟨q, hq, hq2, _⟩ := kidN_is (d := d) s v hr
    exact ⟨q, hq, hq2.trans hr2⟩
  · obtain ⟨m0, hm0, _, _, _, _, _, e5, e6, _⟩ := kidN_some hi
    rw [e5]; exact h.dirs i m0 hm0 (by rw [← e6]; exact h2)
  · obtain ⟨m0, hm0, _, _, e3, e4, _⟩ := kidN_some hi
    rw [e3, e4]; exact h.room i m0 hm0
/-- What changes only its entries and its counts is a plain tree still. -/
theorem Rep.change {N N' : Nat → Option Nd} {top d : Nat} {S S' : St} {b : List UInt8} {v : Option Nat} (h : Rep N top S) {m : Nd} (hd : N d = some m) (hmk : m.kind = 2)
    (hfrom : ∀ i n', N' i = some n' → ∃ n, N i = some n ∧ n'.ino = n.ino ∧ thN n' = thN n ∧ ((i = d ∧ n'.kids = kidsSet n.kids b v) ∨ (i ≠ d ∧ n'.kids = n.kids)))
    (hto : ∀ i n, N i = some n → ∃ n', N' i = some n') (hv : ∀ j, v = some j → ∃ x, N j = some x) (hlinks : ∀ j n', N' j = some n' → n'.links = ((S'.ls.countP (fun x => x.2 == n'.ino) : Nat) : Int))
    (hth : S'.th = S.th) (hnext : S'.next = S.next) (hrep : ∀ p, rightB p = true → SameO N' (atN N' (some top) (splitB p)) (S'.at p)) (honly : ∀ X j, atN N' (some top) X = some j → ∃ p, rightB p = true ∧ splitB p = X) : Rep N' top S' := by
  refine ⟨hrep, honly, fun i j n m hi hj he => ?_, fun j n hj => ?_, fun j n hj => ?_, hlinks, fun j n hj hk s => ?_, fun i n s j hi hs => ?_, ?_⟩
  · obtain ⟨a, h1, h2, _⟩ := hfrom i n hi
    obtain ⟨b, h3, h4, _⟩ := hfrom j m hj
    exact h.inj i j a b h1 h3 (by rw [← h2, ← h4]; exact he)
  · obtain ⟨a, h1, h2, h3, _⟩ := hfrom j n hj
    rw [hth, h2, h.info j a h1, h3]
  · obtain ⟨a, h1, h2, _⟩ := hfrom j n hj
    rw [h2, hnext]; exact h.lt j a h1
  · obtain ⟨a, h1, h2, h3, ⟨rfl, h4⟩ | ⟨h5, h4⟩⟩ := hfrom j n hj
    · rw [hd, Option.some.injEq] at h1
      subst h1
      exact absurd (by rw [show n.kind = (thN n).kind from rfl, h3]; exact hmk) hk
    · rw [h4]; exact h.leaf j a h1 (by rw [show a.kind = (thN a).kind from rfl, ← h3]; exact hk) s
  · have hcl : ∀ y, n.kids s = some y → ∃ q, N y = some q := fun y hy => by
      obtain ⟨a, h1, h2, h3, ⟨rfl, h4⟩ | ⟨h5, h4⟩⟩ := hfrom i n hi
      · rw [h4] at hy
        unfold kidsSet at hy
        by_cases hs : s = b
        · rw [if_pos hs] at hy; exact hv y hy
        · rw [if_neg hs] at hy; exact h.closed i a s y h1 hy
      · rw [h4] at hy; exact h.closed i a s y h1 hy
    obtain ⟨q, hq⟩ := hcl j hs
    exact hto j q hq
  · obtain ⟨r, hr⟩ := h.root
    exact hto top r hr
/-- Where one may go, once one entry has changed. -/
structure AtCh (N N' : Nat → Option Nd) (top : Nat) (D : List (List UInt8)) (b : List UInt8) (v : Option Nat) : Prop where
  on : ∀ Z, atN N' (some top) (D ++ b :: Z) = atN N' v Z
  off : ∀ X, (∀ Z, X ≠ D ++ b :: Z) → atN N' (some top) X = atN N (some top) X
theorem Rep.atCh {N N' : Nat → Option Nd} {top d : Nat} {S : St} {b : List UInt8} {v : Option Nat} {D : List (List UInt8)} (h : Rep N top S) (ho : OkS S) {m : Nd} (hd : N d = some m) (hmk : m.kind = 2) (hD : atN N (some top) D = some d)
    (hk : ∀ i, i ≠ d → kidsOf N' i = kidsOf N i) (hkd : kidsOf N' d = kidsSet m.kids b v) : AtCh N N' top D b v := by
  have h2 : ∀ y, y ≠ b → kidsOf N' d y = kidsOf N d y := fun y hy => by
    rw [hkd, kidsOf_some hd]; exact if_neg hy
  have hu : ∀ X, atN N (some top) X = some d → X = D := fun X hX => h.uniq ho hd (by rw [hmk]; decide) hX hD
  refine ⟨fun Z => ?_, fun X hX => atN_off hk h2 hu X hX⟩
  rw [atN_on hk h2 hu hD]
  congr 1
  rw [hkd]; exact if_pos rfl
theorem sameO_mono {N N' : Nat → Option Nd} (h : ∀ i n, N i = some n → ∃ n', N' i = some n' ∧ n'.ino = n.ino) {o : Option Nat} {a : Option Int} (hs : SameO N o a) : SameO N' o a := by
  cases o with
  | none => cases a with
    | none => trivial
    | some i => exact absurd hs (by simp [SameO])
  | some j =>
    obtain ⟨m0, hm0, rfl⟩ := hs.some
    obtain ⟨n', h1, h2⟩ := h j m0 hm0
    exact ⟨n', h1, h2⟩
end Go.Proofs.YtlbbehfbjbbckaaGreatDoor

/-! Another name of a file; a name goes: plainly. -/
set_option linter.unusedVariables false
set_option linter.unusedSimpArgs false
namespace Go.Proofs.YtlbbehfbjbbckaaGreatDoor
open Go.RowKit

/-- The entry, and the count of one thing, change. -/
def relN (N : Nat → Option Nd) (d : Nat) (b : List UInt8) (v : Option Nat) (k : Nat) (n : Int) : Nat → Option Nd := fun i => (kidN N d b v i).map (fun m => if i = k then { m with links := m.links + n } else m)
theorem relN_some {N : Nat → Option Nd} {d i k : Nat} {b : List UInt8} {v : Option Nat} {n : Int} {m' : Nd} (h : relN N d b v k n i = some m') :
    ∃ m, N i = some m ∧ m'.ino = m.ino ∧ thN m' = thN m ∧ m'.links = m.links + (if i = k then n else 0) ∧ ((i = d ∧ m'.kids = kidsSet m.kids b v) ∨ (i ≠ d ∧ m'.kids = m.kids)) := by
  unfold relN at h
  cases hm : kidN N d b v i with
  | none => rw [hm] at h; cases h
  | some m1 =>
    rw [hm] at h
    obtain ⟨m, hm0, _, _, _, _, _, _, _, e1, e2, e3, e4⟩ := kidN_some hm
    simp only [Option.map_some, Option.some.injEq] at h
    subst h
    by_cases hi : i = k
    · rw [if_pos hi, if_pos hi]
      exact ⟨m, hm0, e1, e3, by show m1.links + n = _; rw [e2], e4⟩
    · rw [if_neg hi, if_neg hi]
      exact ⟨m, hm0, e1, e3, by rw [e2]; omega, e4⟩
theorem relN_is {N : Nat → Option Nd} {d i k : Nat} {b : List UInt8} {v : Option Nat} {n : Int} {m : Nd} (h : N i = some m) : ∃ m', relN N d b v k n i = some m' ∧ m'.ino = m.ino := by
  obtain ⟨m1, h1, _, h2⟩ := kidN_is (d := d) b v h
  unfold relN
  rw [h1]
  simp only [Option.map_some, Option.some.injEq, exists_eq_left']
  split
  · exact h2
  · exact h2
theorem relN_kids {N : Nat → Option Nd} {d k : Nat} {b : List UInt8} {v : Option Nat} {n : Int} {m : Nd} (hd : N d = some m) : (∀ i, i ≠ d → kidsOf (relN N d b v k n) i = kidsOf N i) ∧ kidsOf (relN N d b v k n) d = kidsSet m.kids b v := by
  refine ⟨fun i hi => ?_, ?_⟩
  · cases hm : N i with
    | none =>
      have : relN N d b v k n i = none := by unfold relN; rw [kidN_old b v hi, hm]; rfl
      rw [kidsOf_none this, kidsOf_none hm]
    | some m0 =>
      obtain ⟨m', h1, _⟩ := relN_is (d := d) (k := k) (b := b) (v := v) (n := n) hm
      obtain ⟨m1, h2, _, _, _, ⟨rfl, h3⟩ | ⟨_, h3⟩⟩ := relN_some h1
      · exact absurd rfl hi
      · rw [hm, Option.some.injEq] at h2
        subst h2
        rw [kidsOf_some h1, kidsOf_some hm, h3]
  · obtain ⟨m', h1, _⟩ := relN_is (d := d) (k := k) (b := b) (v := v) (n := n) hd
    obtain ⟨m1, h2, _, _, _, ⟨_, h3⟩ | ⟨h4, h3⟩⟩ := relN_some h1
    · rw [hd, Option.some.injEq] at h2
      subst h2
      rw [kidsOf_some h1, h3]
    · exact absurd rfl h4
/-- Another name. -/
theorem Rep.link {N : Nat → Option Nd} {top d k : Nat} {S : St} {p : List UInt8} {x : Nd} (h : Rep N top S) (ho : OkS S) (hl : lookN N top p = (none, some d, 0)) (hk : N k = some x) (hkk : x.kind ≠ 2) : Rep (relN N d (baseB p) (some k) k 1) top { S with ls := S.ls ++ [(p, x.ino)] } := by
  obtain ⟨hr, hp, hd, m, hm, hmk, hmb⟩ := lookN_fresh hl
  have hat : S.at p = none := by
    have := h.rep p hr
    rw [Rep.parent hp hr hd hm, hmb] at this
    exact (this.none_iff).1 rfl
  have hsp := split_parent hp hr
  have hkd : k ≠ d := fun e => by rw [e, hm, Option.some.injEq] at hk; exact hkk (by rw [← hk]; exact hmk)
  obtain ⟨hk1, hk2⟩ := relN_kids (k := k) (b := baseB p) (v := some k) (n := 1) hm
  obtain ⟨hon, hoff⟩ := h.atCh ho hm hmk hd hk1 hk2
  have hlf : ∀ s, kidsOf (relN N d (baseB p) (some k) k 1) k s = none := fun s => by rw [hk1 k hkd, kidsOf_some hk]; exact h.leaf k x hk hkk s
  have hto : ∀ i n, N i = some n → ∃ n', relN N d (baseB p) (some k) k 1 i = some n' ∧ n'.ino = n.ino := fun i n hi => relN_is hi
  have hadd : ∀ q, ({ S with ls := S.ls ++ [(p, x.ino)] } : St).at q = if q = p then some x.ino else S.at q := fun q => by
    unfold St.at at *
    show (S.ls ++ [(p, x.ino)]).lookup q = _
    rw [lookup_append]
    by_cases e : q = p
    · subst e; rw [hat, if_pos rfl]; simp
    · rw [if_neg e]
      have : (q == p) = false := by simpa using e
      simp [List.lookup_cons, this]
  refine h.change hm hmk (fun i n' hi => by obtain ⟨n, h1, h2, h3, _, h4⟩ := relN_some hi; exact ⟨n, h1, h2, h3, h4⟩) (fun i n hi => by obtain ⟨n', h1, _⟩ := hto i n hi; exact ⟨n', h1⟩) (fun j hj => by cases hj; exact ⟨x, hk⟩) (fun j n' hj => ?_) rfl rfl (fun q hq => ?_) (fun X j hX => ?_)
  · obtain ⟨n, h1, h2, h3, h4, _⟩ := relN_some hj
    show n'.links = (((S.ls ++ [(p, x.ino)]).countP (fun y => y.2 == n'.ino) : Nat) : Int)
    rw [List.countP_append, h4, h.links j n h1, h2]
    by_cases hjk : j = k
    · subst hjk
      rw [hk, Option.some.injEq] at h1
      subst h1
      rw [if_pos rfl]
      simp
    · rw [if_neg hjk]
      have : (x.ino == n.ino) = false := by
        have : ¬ x.ino = n.ino := fun e => hjk (h.inj k j x n hk h1 e).symm
        simpa using this
      simp [this]
  · rw [hadd q]
    by_cases hqp : q = p
    · subst hqp
      rw [if_pos rfl, hsp, hon, atN_leaf hlf, if_pos rfl]
      exact hto k x hk
    · rw [if_neg hqp]
      by_cases hz : ∃ Z, splitB q = splitB (parentB p) ++ baseB p :: Z
      · obtain ⟨Z, hZ⟩ := hz
        have hZ0 : Z ≠ [] := fun e => hqp (splitB_inj (by rw [hZ, e, hsp]))
        rw [hZ, hon, atN_leaf hlf, if_neg hZ0]
        have := h.rep q hq
        rw [hZ, atN_append, hd, atN_cons, kidsOf_some hm, hmb, atN_none] at this
        rw [(this.none_iff).1 rfl]; trivial
      · rw [hoff _ (fun Z e => hz ⟨Z, e⟩)]
        exact sameO_mono hto (h.rep q hq)
  · by_cases hz : ∃ Z, X = splitB (parentB p) ++ baseB p :: Z
    · obtain ⟨Z, rfl⟩ := hz
      rw [hon, atN_leaf hlf] at hX
      by_cases hZ : Z = []
      · subst hZ; exact ⟨p, hr, hsp⟩
      · rw [if_neg hZ] at hX; cases hX
    · rw [hoff _ (fun Z e => hz ⟨Z, e⟩)] at hX
      exact h.only X j hX
theorem OkS.link {S : St} (h : OkS S) {p : List UInt8} {i : Int} (hl : S.look p = (none, 0)) (hi : ∃ q, S.at q = some i) (hk : (S.th i).kind = 1) : OkS { S with ls := S.ls ++ [(p, i)] } := by
  obtain ⟨h1, h2, h3, d, h4, h5⟩ := look_fresh hl
  obtain ⟨q0, hq0⟩ := hi
  have hm0 := (h.at_iff q0 i).1 hq0
  have hno : ∀ x ∈ S.ls, x.1 ≠ p := fun x hx e => by
    have := (h.at_iff x.1 x.2).2 hx
    rw [e, h3] at this; cases this
  have hadd : ∀ q e, S.at q = some e → ({ S with ls := S.ls ++ [(p, i)] } : St).at q = some e := fun q e he => by
    unfold St.at at *
    show (S.ls ++ [(p, i)]).lookup q = _
    rw [lookup_append, he]; rfl
  refine ⟨List.pairwise_append.2 ⟨h.nodup, List.pairwise_singleton .., fun x hx y hy => ?_⟩, fun x hx => ?_, hadd _ _ h.top, fun x hx => ?_, fun x hx y hy he hne => ?_, fun x hx => ?_, h.kind1, h.tgt, fun x hx hne => ?_⟩
  · rw [List.mem_singleton] at hy; subst hy; exact hno x hx
  · rcases List.mem_append.1 hx with hx | hx
    · exact h.right x hx
    · rw [List.mem_singleton] at hx; subst hx; exact h1
  · rcases List.mem_append.1 hx with hx | hx
    · exact h.lt x hx
    · rw [List.mem_singleton] at hx; subst hx; exact (show 1 ≤ i ∧ i < S.next from h.lt (q0, i) hm0)
  · rcases List.mem_append.1 hx with hx | hx
    · rcases List.mem_append.1 hy with hy | hy
      · exact h.one x hx y hy he hne
      · rw [List.mem_singleton] at hy; subst hy
        have he' : x.2 = i := he
        rw [he'] at hne
        exact absurd hk hne
    · rw [List.mem_singleton] at hx; subst hx; exact absurd hk hne
  · rcases List.mem_append.1 hx with hx | hx
    · exact h.kind x hx
    · rw [List.mem_singleton] at hx; subst hx; exact .inl hk
  · rcases List.mem_append.1 hx with hx | hx
    · obtain ⟨e, he, hk⟩ := h.up x hx hne
      exact ⟨e, hadd _ _ he, hk⟩
    · rw [List.mem_singleton] at hx; subst hx
      exact ⟨d, hadd _ _ h4, h5⟩
theorem countP_gone {l : List (List UInt8 × Int)} (hn : l.Pairwise (fun x y => x.1 ≠ y.1)) {p : List UInt8} {i : Int} (h : (p, i) ∈ l) : (l.countP (fun y => y.2 == i) : Nat) = (l.filter (fun y => y.1 != p)).countP (fun y => y.2 == i) + 1 := by
  induction l with
  | nil => cases h
  | cons y l ih =>
    obtain ⟨h1, h2⟩ := List.pairwise_cons.1 hn
    rcases List.mem_cons.1 h with h | h
    · subst h
      have : (l.filter (fun y => y.1 != p)) = l := List.filter_eq_self.2 (fun z hz => by have := h1 z hz; simpa using fun e : z.1 = p => this e.symm)
      rw [List.filter_cons_of_neg (by simp), this, List.countP_cons_of_pos (by simp)]
    · have hne : y.1 ≠ p := fun e => h1 _ h e
      rw [List.filter_cons_of_pos (by simpa using hne), List.countP_cons, List.countP_cons, ih h2 h]
      omega
theorem countP_stay {l : List (List UInt8 × Int)} (hn : l.Pairwise (fun x y => x.1 ≠ y.1)) {p : List UInt8} {i j : Int} (h : (p, i) ∈ l) (hij : i ≠ j) : (l.filter (fun y => y.1 != p)).countP (fun y => y.2 == j) = l.countP (fun y => y.2 == j) := by
  induction l with
  | nil => cases h
  | cons y l ih =>
    obtain ⟨h1, h2⟩ := List.pairwise_cons.1 hn
    rcases List.mem_cons.1 h with h | h
    · subst h
      have : (l.filter (fun y => y.1 != p)) = l := List.filter_eq_self.2 (fun z hz => by have := h1 z hz; simpa using fun e : z.1 = p => this e.symm)
      rw [List.filter_cons_of_neg (by simp), this, List.countP_cons_of_neg (by simpa using hij)]
    · have hne : y.1 ≠ p := fun e => h1 _ h e
      rw [List.filter_cons_of_pos (by simpa using hne), List.countP_cons, List.countP_cons, ih h2 h]
/-- A name goes that has nothing below it. -/
theorem Rep.gone {N : Nat → Option Nd} {top d k : Nat} {S : St} {p : List UInt8} {x : Nd} (h : Rep N top S) (ho : OkS S) (hl : lookN N top p = (some k, some d, 0)) (hk : N k = some x) (hkk : ∀ s, x.kids s = none) : Rep (relN N d (baseB p) none k (-1)) top { S with ls := S.ls.filter (fun y => y.1 != p) } := by
  obtain ⟨hr, hp, hd, m, hm, hmk, hmb⟩ := lookN_fresh hl
  have hat : S.at p = some x.ino := by
    have := h.rep p hr
    rw [Rep.parent hp hr hd hm, hmb] at this
    obtain ⟨n, h1, h2⟩ := this.some
    rw [hk, Option.some.injEq] at h1
    subst h1; exact h2
  have hsp := split_parent hp hr
  obtain ⟨hk1, hk2⟩ := relN_kids (k := k) (b := baseB p) (v := none) (n := -1) hm
  obtain ⟨hon, hoff⟩ := h.atCh ho hm hmk hd hk1 hk2
  have hto : ∀ i n, N i = some n → ∃ n', relN N d (baseB p) none k (-1) i = some n' ∧ n'.ino = n.ino := fun i n hi => relN_is hi
  have hsub : ∀ q, ({ S with ls := S.ls.filter (fun y => y.1 != p) } : St).at q = if q = p then none else S.at q := fun q => by
    unfold St.at
    show (S.ls.filter (fun y => y.1 != p)).lookup q = _
    clear hat hto hon hoff hk1 hk2 hsp hmb hd
    induction S.ls with
    | nil => simp
    | cons y l ih =>
      obtain ⟨y1, y2⟩ := y
      by_cases hy : y1 = p
      · subst hy
        rw [List.filter_cons_of_neg (by simp), ih, List.lookup_cons]
        by_cases e : q = y1
        · rw [if_pos e, if_pos e]
        · rw [if_neg e, if_neg e]
          have : (q == y1) = false := by simpa using e
          rw [this]
      · rw [List.filter_cons_of_pos (by simpa using hy), List.lookup_cons, List.lookup_cons]
        by_cases e : q = y1
        · subst e
          rw [if_neg hy]; simp
        · have : (q == y1) = false := by simpa using e
          rw [this]; exact ih
  refine h.change hm hmk (fun i n' hi => by obtain ⟨n, h1, h2, h3, _, h4⟩ := relN_some hi; exact ⟨n, h1, h2, h3, h4⟩) (fun i n hi => by obtain ⟨n', h1, _⟩ := hto i n hi; exact ⟨n', h1⟩) (fun j hj => by cases hj) (fun j n' hj => ?_) rfl rfl (fun q hq => ?_) (fun X j hX => ?_)
  · obtain ⟨n, h1, h2, h3, h4, _⟩ := relN_some hj
    show n'.links = (((S.ls.filter (fun y => y.1 != p)).countP (fun y => y.2 == n'.ino) : Nat) : Int)
    rw [h4, h.links j n h1, h2]
    have hmem := (ho.at_iff p x.ino).1 hat
    by_cases hjk : j = k
    · subst hjk
      rw [hk, Option.some.injEq] at h1
      subst h1
      rw [if_pos rfl, countP_gone ho.nodup hmem]
      omega
    · rw [if_neg hjk]
      have hne : x.ino ≠ n.ino := fun e => hjk (h.inj k j x n hk h1 e).symm
      rw [countP_stay ho.nodup hmem hne]
      omega
  · rw [hsub q]
    by_cases hqp : q = p
    · subst hqp
      rw [if_pos rfl, hsp, hon, atN_none]; trivial
    · rw [if_neg hqp]
      by_cases hz : ∃ Z, splitB q = splitB (parentB p) ++ baseB p :: Z
      · obtain ⟨Z, hZ⟩ := hz
        have hZ0 : Z ≠ [] := fun e => hqp (splitB_inj (by rw [hZ, e, hsp]))
        rw [hZ, hon, atN_none]
        have := h.rep q hq
        rw [hZ, atN_append, hd, atN_cons, kidsOf_some hm, hmb, atN_leaf (fun s => by rw [kidsOf_some hk]; exact hkk s), if_neg hZ0] at this
        rw [(this.none_iff).1 rfl]; trivial
      · rw [hoff _ (fun Z e => hz ⟨Z, e⟩)]
        exact sameO_mono hto (h.rep q hq)
  · by_cases hz : ∃ Z, X = splitB (parentB p) ++ baseB p :: Z
    · obtain ⟨Z, rfl⟩ := hz
      rw [hon, atN_none] at hX; cases hX
    · rw [hoff _ (fun Z e => hz ⟨Z, e⟩)] at hX
      exact h.only X j hX
end Go.Proofs.YtlbbehfbjbbckaaGreatDoor

/-! Another name of a file: the program's Link. -/
set_option linter.unusedVariables false
set_option linter.unusedSimpArgs false
namespace Go.Proofs.YtlbbehfbjbbckaaGreatDoor
open Go.RowKit

theorem relN_set {N : Nat → Option Nd} {d k : Nat} {b : List UInt8} {v : Option Nat} {n : Int} {x1 : Nd} (h : kidN N d b v k = some x1) : relN N d b v k n = setN (kidN N d b v) k { x1 with links := x1.links + n } := by
  funext i
  unfold relN setN
  by_cases hi : i = k
  · subst hi; rw [h, if_pos rfl]; simp
  · rw [if_neg hi]
    simp only [if_neg hi]
    cases kidN N d b v i <;> rfl
theorem heldT_rel {t d k0 : Nat} {N : Nat → Option Nd} {b : List UInt8} {v : Option Nat} {n : Int} : ∀ k, k = t ∨ heldT (relN N d b v k0 n) k → k = t ∨ heldT N k := by
  have key : ∀ i m', relN N d b v k0 n i = some m' → ∃ m, N i = some m ∧ m'.dA = m.dA ∧ m'.kb = m.kb := fun i m' h => by
    unfold relN at h
    cases hm : kidN N d b v i with
    | none => rw [hm] at h; cases h
    | some m1 =>
      rw [hm] at h
      obtain ⟨m, hm0, _, e1, _, _, _, e2, _⟩ := kidN_some hm
      simp only [Option.map_some, Option.some.injEq] at h
      subst h
      split <;> exact ⟨m, hm0, e1, e2⟩
  rintro k (rfl | ⟨m, hi⟩ | ⟨i, m, a, hi, ha, rfl⟩ | ⟨i, m, hi, hk⟩)
  · exact .inl rfl
  · obtain ⟨m0, h1, _⟩ := key _ _ hi; exact .inr (.inl ⟨m0, h1⟩)
  · obtain ⟨m0, h1, h2, _⟩ := key _ _ hi; exact .inr (.inr (.inl ⟨i, m0, a, h1, by rw [← h2]; exact ha, rfl⟩))
  · obtain ⟨m0, h1, _, h2⟩ := key _ _ hi; exact .inr (.inr (.inr ⟨i, m0, h1, by rw [← h2]; exact hk⟩))
theorem act_rel {w w' : World} {t top c d k : Nat} {S' : St} {N : Nat → Option Nd} {b : List UInt8} {v : Option Nat} {n : Int} {O : Nat → Prop} (hO : ∀ k, k = t ∨ heldT N k → O k) (hT : TreeAt w' t top S'.next (c + 1) (relN N d b v k n)) (hR : Rep (relN N d b v k n) top S') (ho : OkS S') (hw : Only (ownT t N) w w') : ActPost w w' t c S' O :=
  ⟨O, ⟨top, _, hT, hR, ho, fun j hj => hO j (heldT_rel j hj)⟩, hw.mono (fun j _ hj => hO j (ownT_held hj)), fun j hj => .inl hj⟩
theorem links_bound {N : Nat → Option Nd} {top : Nat} {S : St} (h : Rep N top S) {k : Nat} {x : Nd} (hk : N k = some x) : 0 ≤ x.links ∧ x.links ≤ (S.ls.length : Int) := by
  rw [h.links k x hk]
  have := List.countP_le_length (p := fun y : List UInt8 × Int => y.2 == x.ino) (l := S.ls)
  omega
theorem link_err (S : St) (old p : List UInt8) (h : (S.link old p).1 ≠ 0) : (S.link old p).2 = S := by
  unfold St.link at h ⊢
  by_cases a : rightB old = false ∨ rightB p = false
  · rw [if_pos a]
  rw [if_neg a] at h ⊢
  unfold linkR at h ⊢
  generalize thereS (S.look old) = r at *
  obtain ⟨o, e⟩ := r
  cases o with
  | none => rfl
  | some i =>
    simp only at h ⊢
    by_cases a : e ≠ 0
    · rw [if_pos a]
    rw [if_neg a] at h ⊢
    by_cases b : fileU (S.th i).kind ≠ 0
    · rw [if_pos b]
    rw [if_neg b] at h ⊢
    by_cases c : freshS (S.look p) ≠ 0
    · rw [if_pos c]
    · rw [if_neg c] at h; exact absurd rfl h
set_option maxRecDepth 100000 in
set_option maxHeartbeats 8000000 in
theorem LinkS_any (t c : Nat) (S : St) (O : Nat → Prop) (old p : ByteArray) (w : World) (h : TreeS w t c S O) (hp0 : old.size ≤ 2097152) (hp : p.size ≤ 2097152) (hc : c ≤ 1099511627776) (hls : S.ls.length ≤ 1099511627776) :
    Calls Tryz.prog 92 #[.pointer (some ⟨t, 0, none⟩), .string old, .string p] w fun e w' => e = .returned (.int .i64 (S.link old.data.toList p.data.toList).1) ∧ ActPost w w' t c (S.link old.data.toList p.data.toList).2 O := by
  have HS := Lib.hid h
  obtain ⟨top, N, hT, hR, ho, hO⟩ := h
  obtain ⟨X, hX⟩ : ∃ X, S.link old.data.toList p.data.toList = X := ⟨_, rfl⟩
  have HX : Hid ((if rightB old.data.toList = false ∨ rightB p.data.toList = false then ((9 : Int), S) else linkR S p.data.toList (freshS (S.look p.data.toList)) (thereS (S.look old.data.toList))) = X) := Lib.hid hX
  rw [hX]
  have HR1 := Lib.hid (fun w => right_any old _ w rfl hp0)
  have HR2 := Lib.hid (fun w => right_any p _ w rfl hp)
  have HF := Lib.hid (fun w (h : TreeAt w t top S.next c N) => there_any t top c S.next N old w h hp0)
  have HFR := Lib.hid (fun w (h : TreeAt w t top S.next c N) => fresh_any t top c S.next N p w h hp)
  have HTH := Lib.hid (hR.thereR ho old.data.toList)
  have HFE := Lib.hid (hR.fresh ho p.data.toList)
  have HT := Lib.hid hT
  have HRP := Lib.hid hR
  have HOK := Lib.hid ho
  have HOO := Lib.hid hO
  have HIN := Lib.hid (fun k x (hk : N k = some x) => hR.info k x hk)
  clear hX hT hR ho hO
  obtain ⟨r, hr⟩ : ∃ r, thereS (S.look old.data.toList) = r := ⟨_, rfl⟩
  obtain ⟨l, hl⟩ : ∃ l, thereU (lookN N top old.data.toList) = l := ⟨_, rfl⟩
  have HTA := Lib.hid (fun i (h : r = (some i, 0)) => there_at HOK.out (hr.trans h))
  rw [hr] at HX HTH
  rw [hl] at HF HTH
  clear hr hl
  obtain ⟨fe, hfe⟩ : ∃ fe, freshS (S.look p.data.toList) = fe := ⟨_, rfl⟩
  have HFS := Lib.hid hfe
  rw [hfe] at HX HFE
  clear hfe
  generalize rightB old.data.toList = r1 at *
  generalize hr2 : rightB p.data.toList = r2 at *
  go_enter Tryz.func92, Tryz.ntmps92
  go_wp2_with fail
  refine (HR1.out w).mono ?_
  rintro e w1 ⟨rfl, hb1⟩
  have B1 := Lib.hid hb1
  have T1 := Lib.hid (HT.out.below hb1)
  clear hb1 HR1 HT
  cases r1 with
  | false =>
    have K := Lib.hid (show X = ((9 : Int), S) by rw [← HX.out]; exact if_pos (.inl rfl))
    go_wp2_with fail
    go_ret
    rw [K.out]
    exact ⟨rfl, act_same HS.out B1.out⟩
  | true =>
  go_wp2_with fail
  refine (HR2.out w1).mono ?_
  rintro e w2 ⟨rfl, hb2⟩
  have B2 := Lib.hid (B1.out.trans (hb2.mono B1.out.size))
  have T2 := Lib.hid (T1.out.below hb2)
  clear hb2 HR2 T1 B1
  cases r2 with
  | false =>
    have K := Lib.hid (show X = ((9 : Int), S) by rw [← HX.out]; exact if_pos (.inr rfl))
    go_wp2_with fail
    go_ret
    rw [K.out]
    exact ⟨rfl, act_same HS.out B2.out⟩
  | true =>
  have HX1 := Lib.hid (show linkR S p.data.toList fe r = X by rw [← HX.out]; exact (if_neg (by simp)).symm)
  clear HX
  go_wp2_with fail
  refine (HF.out w2 T2.out).mono ?_
  rintro e w3 ⟨rfl, hb3⟩
  have B3 := Lib.hid (B2.out.trans (hb3.mono B2.out.size))
  have T3 := Lib.hid (T2.out.below hb3)
  clear hb3 HF T2 B2
  obtain ⟨lo, ld, le⟩ := l
  obtain ⟨ro, re⟩ := r
  obtain rfl : le = re := HTH.out.err
  unfold tupL
  rcases Classical.em (le = 0) with h0 | h0
  · subst h0
    obtain ⟨k, x, e1, hk, e2⟩ := HTH.out.found rfl
    obtain rfl : lo = some k := e1
    obtain rfl : ro = some x.ino := e2
    have hth := HIN.out k x hk
    have HX2 := Lib.hid (show (if fileU x.kind ≠ 0 then (fileU x.kind, S) else if fe ≠ 0 then (fe, S) else ((0 : Int), { S with ls := S.ls ++ [(p.data.toList, x.ino)] })) = X by
      have h := HX1.out
      unfold linkR at h
      simp only [ne_eq, not_true_eq_false, if_false] at h
      rw [← h, hth]; rfl)
    have HK := Lib.hid hk
    have HFI := Lib.hid (file_any k x w3 (T3.out.node k x hk))
    rw [show ptrO (some k) = .pointer (some ⟨k, 0, none⟩) from rfl]
    unfold ptrN at HFI
    clear hk HX1 HTH hth
    go_wp2_with fail
    refine HFI.out.mono ?_
    rintro e w4 ⟨rfl, rfl⟩
    rcases Classical.em (fileU x.kind = 0) with hf | hf
    · have HX3 := Lib.hid (show (if fe ≠ 0 then (fe, S) else ((0 : Int), { S with ls := S.ls ++ [(p.data.toList, x.ino)] })) = X by have h := HX2.out; rwa [if_neg (show ¬ fileU x.kind ≠ 0 from fun h => h hf)] at h)
      have q1 : (fileU x.kind != 0) = false := by simpa using hf
      have HFF := Lib.hid hf
      clear hf HX2
      go_wp2_with fail
      refine (HFR.out _ T3.out).mono ?_
      rintro e w5 ⟨rfl, hb5⟩
      have B5 := Lib.hid (B3.out.trans (hb5.mono B3.out.size))
      have T5 := Lib.hid (T3.out.below hb5)
      clear hb5 HFR T3 B3
      rw [HFE.out]
      by_cases hfe0 : fe = 0
      · have K := Lib.hid (show X = ((0 : Int), { S with ls := S.ls ++ [(p.data.toList, x.ino)] }) by rw [← HX3.out]; exact if_neg (fun h => h hfe0))
        have hF2 : (freshU (lookN N top p.data.toList)).2 = 0 := HFE.out.trans hfe0
        obtain ⟨d, md, b, hlk, hd, hkb, hfr⟩ := look_dir T5.out hF2 (fun e => fresh_nil (N := N) (top := top) (by rw [e] at hF2; exact hF2))
        rw [hfr]
        obtain ⟨_, _, _, md', hd', hmk, hmb⟩ := lookN_fresh hlk
        obtain rfl : md = md' := by rw [hd] at hd'; exact Option.some.inj hd'
        have hkk : x.kind ≠ 2 := fun e => by have := HFF.out; unfold fileU at this; rw [if_pos e] at this; cases this
        have hat := (HTA.out x.ino rfl).1
        have hk1 : (S.th x.ino).kind = 1 := by
          have hx3 : x.kind ≠ 3 := fun e => by have := HFF.out; unfold fileU at this; rw [if_neg hkk, if_pos e] at this; cases this
          have h := HOK.out.kind _ ((HOK.out.at_iff _ _).1 hat)
          simp only [HIN.out k x HK.out] at h ⊢
          rcases h with h | h | h
          · exact h
          · exact absurd h hkk
          · exact absurd h hx3
        have hSl : S.look p.data.toList = (none, 0) := by
          obtain ⟨h1, h2⟩ := HRP.out.look HOK.out p.data.toList
          rw [hlk] at h1 h2
          exact Prod.ext ((h1.none_iff).1 rfl) h2.symm
        have hdk : k ≠ d := fun e => by
          have hk := HK.out
          rw [e, hd, Option.some.injEq] at hk
          exact hkk (by rw [← hk]; exact hmk)
        obtain ⟨hl0, hl1⟩ := links_bound HRP.out HK.out
        have hR6 := HRP.out.link HOK.out hlk HK.out hkk
        have ho6 := HOK.out.link hSl ⟨_, hat⟩ hk1
        have hM := T5.out.kids d md b hd hkb
        have hbs : (str (baseB p.data.toList)).size ≤ maxLen := by
          rw [size_toList]
          have := baseB_len p.data.toList
          have h2 : p.data.toList.length = p.size := Array.length_toList
          unfold maxLen; omega
        obtain ⟨w6, hput, hm6, hg6⟩ := (hM.drewN 1).put Tryz.underlying109 (by unfold maxLen; omega) hbs (.pointer (some ⟨k, 0, none⟩))
        have hst : (str (baseB p.data.toList)).data.toList = baseB p.data.toList := by simp [str]
        rw [hst] at hm6
        have hg6' : w5.grownBy w6 (some b) := ⟨hg6.os, hg6.tape, hg6.output, hg6.size, hg6.block⟩
        have T6 := Lib.hid (T5.out.kid (c' := c + 1) (s := baseB p.data.toList) (v := some k) hd hkb (Nat.le_succ c) (by
          have hfe : (fun y => (kidsSet md.kids (baseB p.data.toList) (some k) y).map ptrN) = updM (fun y => (md.kids y).map ptrN) (baseB p.data.toList) (ptrN k) := funext fun y => by
            unfold kidsSet updM
            by_cases hy : y = baseB p.data.toList
            · rw [if_pos hy, if_pos hy]; rfl
            · rw [if_neg hy, if_neg hy]
          rw [hfe]; exact hm6) hg6' (fun j hj => by cases hj; exact ⟨x, HK.out⟩))
        have hk6 : kidN N d (baseB p.data.toList) (some k) k = some x := by rw [kidN_old _ _ hdk]; exact HK.out
        have Y6 := Lib.hid (T6.out.node k x hk6)
        have O6 := Lib.hid (Only.trans (Only.of (P := ownT t N) B5.out) ((Only.grown (P := fun j => j = b) hg6' rfl).mono (fun j _ hj => by subst hj; exact .inr (.inr ⟨d, md, hd, hkb⟩))))
        have y3 := Y6.out.cell 3
        have y3f := Y6.out.frozen 3
        simp only [encN, List.getElem?_cons_zero, List.getElem?_cons_succ] at y3
        have hput : (Instr.mapUpdate 109 (.map (some b)) (.string (str (baseB p.data.toList))) (.pointer (some ⟨k, 0, none⟩))).run Tryz.prog w5.drew = .ok () w6 := hput
        have hgd : w5.drew.grownBy w6 (some b) := hg6
        obtain ⟨_, _, _, _, _, _, _, _, _, _, _, n11⟩ := node_cells (T5.out.node d md hd)
        rw [hkb] at n11
        have n11d : w5.drew.cell? ⟨d, 11, none⟩ = some (.map (some b)) := n11
        have hdb : some d ≠ some b := fun e => hM.ne (T5.out.node d md hd) (by cases e; rfl)
        have e1 : (fe != 0) = false := by simpa using hfe0
        have hov : IntKind.i64.wrap (x.links + 1) = x.links + 1 := by rw [IntKind.wrap_i64]; omega
        have R6 := Lib.hid (And.intro hR6 ho6)
        have HK6 := Lib.hid hk6
        rw [ptrO_some]
        unfold ptrN
        clear hM hbs hm6 hg6 hg6' hst hd hkb n11 hR6 ho6 hk1 hSl hkk hat hlk hfr hF2 hfe0 HX3 hl0 hl1 hk6 hd' hmk hmb
        go_wp2_with fail
        refine wp_region_held_drew (S := (fun w' => w5.drew.grownBy w' (some b))) (by kernel_rfl) (World.grownBy.refl _ _) (fun hHeld => ?_)
        refine wpAnyH_take (i := 0) (oi := ?oi1) (v := ?v1) ?hi1 ?hs1 ?hf1 ?hr1 ?hQ1 (Or.inl ⟨?hg1, ?hy1⟩) hHeld ?rest1
        case hi1 => simp only [List.getElem?_toArray, List.getElem?_cons_succ, List.getElem?_cons_zero]; rfl
        case hs1 => kernel_rfl
        case hf1 => kernel_rfl
        case hr1 => kernel_rfl
        case hg1 => rfl
        case hy1 => (intro w hSw; first | (go_simp; done) | (go_simp; with_reducible rfl))
        case hQ1 => exact fun _ _ _ h => h
        try simp only [Act.put, List.setIfInBounds_toArray, List.set_cons_zero, List.set_cons_succ]
        refine wpAnyH_take (i := 1) (oi := ?oi2) (v := ?v2) ?hi2 ?hs2 ?hf2 ?hr2 ?hQ2 (Or.inl ⟨?hg2, ?hy2⟩) hHeld ?rest2
        case hi2 => simp only [List.getElem?_toArray, List.getElem?_cons_succ, List.getElem?_cons_zero]; rfl
        case hs2 => kernel_rfl
        case hf2 => kernel_rfl
        case hr2 => kernel_rfl
        case hg2 => rfl
        case hy2 => (intro w hSw; first | (go_simp; done) | (go_simp; with_reducible rfl))
        case hQ2 => exact fun _ _ _ h => h
        try simp only [Act.put, List.setIfInBounds_toArray, List.set_cons_zero, List.set_cons_succ]
        refine wpAnyH_take (i := 2) (oi := ?oi3) (v := ?v3) ?hi3 ?hs3 ?hf3 ?hr3 ?hQ3 (Or.inl ⟨?hg3, ?hy3⟩) hHeld ?rest3
        case hi3 => simp only [List.getElem?_toArray, List.getElem?_cons_succ, List.getElem?_cons_zero]; rfl
        case hs3 => kernel_rfl
        case hf3 => kernel_rfl
        case hr3 => kernel_rfl
        case hg3 => rfl
        case hy3 => (intro w hSw; first | (go_simp; done) | (go_simp; with_reducible rfl))
        case hQ3 => exact fun _ _ _ h => h
        try simp only [Act.put, List.setIfInBounds_toArray, List.set_cons_zero, List.set_cons_succ]
        refine wpAnyH_take (i := 3) (oi := ?oi4) (v := ?v4) ?hi4 ?hs4 ?hf4 ?hr4 ?hQ4 (Or.inl ⟨?hg4, ?hy4⟩) hHeld ?rest4
        case hi4 => simp only [List.getElem?_toArray, List.getElem?_cons_succ, List.getElem?_cons_zero]; rfl
        case hs4 => kernel_rfl
        case hf4 => kernel_rfl
        case hr4 => kernel_rfl
        case hg4 => rfl
        case hy4 => (intro w hSw; have x0 := World.grownBy.cell hSw n11d hdb; first | (go_simp; done) | (go_simp; with_reducible rfl))
        case hQ4 => exact fun _ _ _ h => h
        try simp only [Act.put, List.setIfInBounds_toArray, List.set_cons_zero, List.set_cons_succ]
        refine wpAnyH_take (i := 4) (oi := ?oi5) (v := ?v5) ?hi5 ?hs5 ?hf5 ?hr5 ?hQ5 (Or.inl ⟨?hg5, ?hy5⟩) hHeld ?rest5
        case hi5 => simp only [List.getElem?_toArray, List.getElem?_cons_succ, List.getElem?_cons_zero]; rfl
        case hs5 => kernel_rfl
        case hf5 => kernel_rfl
        case hr5 => kernel_rfl
        case hg5 => rfl
        case hy5 => (intro w hSw; first | (go_simp; done) | (go_simp; with_reducible rfl))
        case hQ5 => exact fun _ _ _ h => h
        try simp only [Act.put, List.setIfInBounds_toArray, List.set_cons_zero, List.set_cons_succ]
        refine wpAnyH_take (i := 6) (oi := ?oi6) (v := ?v6) ?hi6 ?hs6 ?hf6 ?hr6 ?hQ6 (Or.inl ⟨?hg6, ?hy6⟩) hHeld ?rest6
        case hi6 => simp only [List.getElem?_toArray, List.getElem?_cons_succ, List.getElem?_cons_zero]; rfl
        case hs6 => kernel_rfl
        case hf6 => kernel_rfl
        case hr6 => kernel_rfl
        case hg6 => rfl
        case hy6 => (intro w hSw; first | (go_simp; done) | (go_simp; with_reducible rfl))
        case hQ6 => exact fun _ _ _ h => h
        try simp only [Act.put, List.setIfInBounds_toArray, List.set_cons_zero, List.set_cons_succ]
        refine wpAnyH_ready (rs := [5]) (by kernel_rfl) (by simp) ?_
        refine AllReadyH.cons (o := ?oi7) ?hi7 (fun K hK => ?_) AllReadyH.nil
        case hi7 => simp only [List.getElem?_toArray, List.getElem?_cons_succ, List.getElem?_cons_zero]; rfl
        go_simp; go_at_call 124; refine (base_any p _ (by omega)).mono ?_; rintro e w7 ⟨rfl, rfl⟩; go_wp2_with fail
        refine hK.out _ _ ((World.grownBy.refl _ _)) (fun hHeld2 => ?_)
        clear hK K hHeld
        have hHeld := hHeld2
        clear hHeld2
        try simp only [Act.put, List.setIfInBounds_toArray, List.set_cons_zero, List.set_cons_succ]
        refine wpAnyH_ready (rs := [7]) (by kernel_rfl) (by simp) ?_
        refine AllReadyH.cons (o := ?oi8) ?hi8 (fun K hK => ?_) AllReadyH.nil
        case hi8 => simp only [List.getElem?_toArray, List.getElem?_cons_succ, List.getElem?_cons_zero]; rfl
        refine step_mapUpdate rfl 109 (.tmp 49) (.tmp 51) (.tmp 52) rfl rfl rfl rfl hput ?_
        refine hK.out _ _ (hgd) (fun hHeld2 => ?_)
        clear hK K hHeld
        have hHeld := hHeld2
        clear hHeld2
        try simp only [Act.put, List.setIfInBounds_toArray, List.set_cons_zero, List.set_cons_succ]
        refine wpAnyH_done (by kernel_rfl) ?_ _
        clear hHeld hgd hput n11d
        go_wp2_with fail
        go_ret
        have W9 := Y6.out.set 3 (.int .i64 (x.links + 1))
        have hh9 : ∀ j, j ≠ k → (w6.setCell ⟨k, 3, none⟩ (.int .i64 (x.links + 1))).heap[j]? = w6.heap[j]? := fun j hj => Below.heap_setCell _ _ _ _ hj
        have T9 := T6.out.reset HK6.out { x with links := x.links + 1 } rfl rfl rfl W9 (BytesAt.only (T6.out.data k x HK6.out) hh9 Y6.out) (T6.out.room k x HK6.out) (fun j _ hj => hh9 j hj)
        rw [← relN_set HK6.out] at T9
        have O9 : Only (ownT t N) w _ := O6.out.trans ((Only.set (P := fun j => j = k) w6 ⟨k, 3, none⟩ (.int .i64 (x.links + 1)) rfl).mono (fun j _ hj => by subst hj; exact .inr (.inl ⟨x, HK.out⟩)))
        rw [K.out]
        exact ⟨rfl, act_rel HOO.out T9 R6.out.1 R6.out.2 O9⟩
      · have K := Lib.hid (show X = (fe, S) by rw [← HX3.out]; exact if_pos hfe0)
        have e1 : (fe != 0) = true := by simpa using hfe0
        clear hfe0 HX3
        go_wp2_with fail
        go_ret
        rw [K.out]
        exact ⟨rfl, act_same HS.out B5.out⟩
    · have K := Lib.hid (show X = (fileU x.kind, S) by rw [← HX2.out, if_pos hf])
      have q1 : (fileU x.kind != 0) = true := by simpa using hf
      clear hf HX2
      go_wp2_with fail
      go_ret
      rw [K.out]
      exact ⟨rfl, act_same HS.out B3.out⟩
  · have K := Lib.hid (show X = (le, S) by
      rw [← HX1.out]
      cases ro with
      | none => rfl
      | some i => exact if_pos h0)
    have e1 : (le != 0) = true := by simpa using h0
    clear h0 HX1
    go_wp2_with fail
    go_ret
    rw [K.out]
    exact ⟨rfl, act_same HS.out B3.out⟩
end Go.Proofs.YtlbbehfbjbbckaaGreatDoor

/-! A name goes: the program's out, Remove. -/
set_option linter.unusedVariables false
set_option linter.unusedSimpArgs false
namespace Go.Proofs.YtlbbehfbjbbckaaGreatDoor
open Go.RowKit

theorem wpList_delete_run {P : Program} {w w' : World} {ops : Array Oper} {rest : List Oper} {o : Oper} {a : Act} {Q : Exit → Act → World → Prop} (hgd : o.guard = none) (s x : Operand) (t u : TypeId)
    (ho : o.op = .call { callee := .builtin .delete, args := #[s, x], argTypes := #[t, u] }) {v sv xv : Value} (hs : a.eval s = sv) (hx : a.eval x = xv)
    (hr : (Builtin.delete_ #[t, u] o.type #[sv, xv]).run P w = .ok v w')
    (h : wpList P ops Q rest (a.put o.dst v) w') : wpList P ops Q (o :: rest) a w :=
  wpList_plain hgd fun _ hK => by
    unfold Oper.wp execOp
    simp only [ho, resolve, invoke, builtin, Sem.run_bind, Sem.run_pure, Result.andThen_ok, List.map_toArray, List.map_cons, List.map_nil, hs, hx, hr]
    exact hK _ _ h
theorem step_delete_run {P : Program} {w w' : World} {ops : Array Oper} {o : Oper} {a : Act} {K : Act → World → Prop} {Q : Exit → Act → World → Prop} {E : Prop} (hgd : o.guard = none) (s x : Operand) (t u : TypeId)
    (ho : o.op = .call { callee := .builtin .delete, args := #[s, x], argTypes := #[t, u] }) {v sv xv : Value} (hs : a.eval s = sv) (hx : a.eval x = xv)
    (hr : (Builtin.delete_ #[t, u] o.type #[sv, xv]).run P w = .ok v w')
    (h : K (a.put o.dst v) w') :
    if Region.wanted o (yielded ops a.tmps) = true then Oper.wp P o a w K Q else E := by
  have hw : Region.wanted o (yielded ops a.tmps) = true := by simp [Region.wanted, hgd]
  rw [if_pos hw]
  unfold Oper.wp execOp
  simp only [ho, resolve, invoke, builtin, Sem.run_bind, Sem.run_pure, Result.andThen_ok, List.map_toArray, List.map_cons, List.map_nil, hs, hx, hr]
  exact h
theorem kidN_setN {N : Nat → Option Nd} {d k : Nat} {s : List UInt8} {v : Option Nat} {x1 : Nd} (h : k ≠ d) : kidN (setN N k x1) d s v = setN (kidN N d s v) k x1 := by
  funext i
  unfold kidN setN
  by_cases hi : i = k
  · subst hi; simp [h]
  · by_cases hd : i = d
    · subst hd; simp [hi]
    · simp [hi, hd]
theorem delM_set {k : List UInt8 → Option Nat} {s : List UInt8} : (fun y => (kidsSet k s none y).map ptrN) = delM (fun y => (k y).map ptrN) s := funext fun y => by
  unfold kidsSet delM
  by_cases hy : y = s
  · rw [if_pos hy, if_pos hy]; rfl
  · rw [if_neg hy, if_neg hy]
theorem base_size (p : ByteArray) (hp : p.size ≤ 2097152) : (str (baseB p.data.toList)).size ≤ maxLen := by
  rw [size_toList]
  have := baseB_len p.data.toList
  have h2 : p.data.toList.length = p.size := Array.length_toList
  unfold maxLen; omega
set_option maxRecDepth 100000 in
set_option maxHeartbeats 4000000 in
theorem out_any (t top c d b : Nat) (next : Int) (N : Nat → Option Nd) (m : Nd) (p : ByteArray) (k : Nat) (x : Nd) (w : World) (h : TreeAt w t top next c N) (hd : N d = some m) (hkb : m.kb = some b) (hkid : m.kids (baseB p.data.toList) = some k) (hk : N k = some x) (hdk : k ≠ d) (hp : p.size ≤ 2097152)
    (hl0 : -1099511627776 ≤ x.links) (hl1 : x.links ≤ 1099511627776) :
    Calls Tryz.prog 78 #[ptrN d, .string p] w fun e w' => e = .returned (.tuple #[]) ∧ TreeAt w' t top next c (relN N d (baseB p.data.toList) none k (-1)) ∧ Only (fun j => j = k ∨ j = b) w w' := by
  have hx := h.node k x hk
  have hM := h.kids d m b hd hkb
  have hbs := base_size p hp
  have hst : (str (baseB p.data.toList)).data.toList = baseB p.data.toList := by simp [str]
  have hlk := hM.look Tryz.underlying109 (ptrZero _) (s := str (baseB p.data.toList)) hbs
  rw [hst, hkid] at hlk
  replace hlk : (Instr.lookup 109 (.map (some b)) (.string (str (baseB p.data.toList))) false).run Tryz.prog w = .ok (.pointer (some ⟨k, 0, none⟩)) w := hlk
  obtain ⟨_, _, _, x3, _⟩ := node_cells hx
  have f3 := hx.frozen 3
  obtain ⟨_, _, _, _, _, _, _, _, _, _, _, n11⟩ := node_cells (h.node d m hd)
  rw [hkb] at n11
  have hh9 : ∀ j, j ≠ k → (w.setCell ⟨k, 3, none⟩ (.int .i64 (x.links + -1))).heap[j]? = w.heap[j]? := fun j hj => Below.heap_setCell _ _ _ _ hj
  have T1 := h.reset hk { x with links := x.links + -1 } rfl rfl rfl (hx.set 3 (.int .i64 (x.links + -1))) (BytesAt.only (h.data k x hk) hh9 hx) (h.room k x hk) (fun j _ hj => hh9 j hj)
  have hd1 : setN N k { x with links := x.links + -1 } d = some m := by rw [setN_other _ (fun e => hdk e.symm)]; exact hd
  have hM1 := T1.kids d m b hd1 hkb
  obtain ⟨w2, hdrop, hm2, hg2⟩ := hM1.drop Tryz.underlying109 hbs 0
  rw [hst, ← delM_set] at hm2
  have T2 := Lib.hid (T1.kid hd1 hkb (Nat.le_refl c) hm2 hg2 (fun j hj => by cases hj))
  have HE := Lib.hid (show kidN (setN N k { x with links := x.links + -1 }) d (baseB p.data.toList) none = relN N d (baseB p.data.toList) none k (-1) by
    rw [kidN_setN hdk]
    exact (relN_set (show kidN N d (baseB p.data.toList) none k = some x by rw [kidN_old _ _ hdk]; exact hk)).symm)
  have O2 := Lib.hid ((Only.set (P := fun j => j = k ∨ j = b) w ⟨k, 3, none⟩ (.int .i64 (x.links + -1)) (.inl rfl)).trans (Only.grown hg2 (.inr rfl)))
  obtain ⟨_, _, _, _, _, _, _, _, _, _, _, n11'⟩ := node_cells (T1.node d m hd1)
  rw [hkb] at n11'
  have hov : IntKind.i64.wrap (x.links - 1) = x.links + -1 := by rw [IntKind.wrap_i64]; omega
  clear hx hM hM1 T1 h hd hkb hkid hk hd1 hm2 hg2 hh9
  unfold ptrN
  go_enter Tryz.func78, Tryz.ntmps78
  go_wp2_with fail
  refine (base_any p w (by omega)).mono ?_
  rintro e w1 ⟨rfl, rfl⟩
  go_wp2_with (first | (refine wpList_delete_run rfl (.tmp 28) (.tmp 29) 109 9 rfl rfl rfl hdrop ?_) | fail)
  go_end0
  exact ⟨rfl, by rw [← HE.out]; exact T2.out, O2.out⟩
end Go.Proofs.YtlbbehfbjbbckaaGreatDoor

/-! A name goes: the program's Remove. -/
set_option linter.unusedVariables false
set_option linter.unusedSimpArgs false
namespace Go.Proofs.YtlbbehfbjbbckaaGreatDoor
open Go.RowKit

theorem there_look {l : Option Nat × Option Nat × Int} {k : Nat} {d : Option Nat} (h : thereU l = (some k, d, 0)) : l = (some k, d, 0) := by
  unfold thereU at h
  split at h
  · have := congrArg (fun x : Option Nat × Option Nat × Int => x.2.2) h
    simp at this
  · exact h
theorem look_has {N : Nat → Option Nd} {top : Nat} {p : List UInt8} {k : Nat} {d : Option Nat} (h : lookN N top p = (some k, d, 0)) (hp : p ≠ []) : ∃ d', d = some d' := by
  unfold lookN at h
  by_cases h1 : rightB p = false
  · rw [if_pos h1] at h; simp at h
  rw [if_neg h1, if_neg hp] at h
  cases hd : atN N (some top) (splitB (parentB p)) with
  | none => rw [hd] at h; simp at h
  | some d' =>
    rw [hd] at h
    cases hm : N d' with
    | none => simp only [hm] at h; simp at h
    | some m =>
      simp only [hm] at h
      split at h
      · simp only [Prod.mk.injEq, and_true] at h
        exact ⟨d', h.2.symm⟩
      · simp at h
theorem Rep.mem {N : Nat → Option Nd} {top : Nat} {S : St} (h : Rep N top S) (ho : OkS S) {y : List UInt8 × Int} (hy : y ∈ S.ls) : ∃ j n, atN N (some top) (splitB y.1) = some j ∧ N j = some n ∧ n.ino = y.2 := by
  have h1 := h.rep y.1 (ho.right y hy)
  rw [(ho.at_iff y.1 y.2).2 hy] at h1
  cases hj : atN N (some top) (splitB y.1) with
  | none => rw [hj] at h1; exact absurd h1 (by simp [SameO])
  | some j =>
    rw [hj] at h1
    obtain ⟨n, h2, h3⟩ := h1
    exact ⟨j, n, rfl, h2, h3⟩
theorem parent_of {q p s : List UInt8} {Y : List (List UInt8)} (hq : rightB q = true) (h : splitB q = splitB p ++ [s]) : q ≠ [] ∧ parentB q = p ∧ baseB q = s := by
  have hne : q ≠ [] := fun e => by rw [e, splitB_nil] at h; simp at h
  have := split_parent hne hq
  rw [h] at this
  have h2 := List.append_inj' this rfl
  exact ⟨hne, (splitB_inj h2.1).symm, (List.singleton_inj.1 h2.2).symm⟩
theorem Rep.hasIn {N : Nat → Option Nd} {top k : Nat} {S : St} {p : List UInt8} {x : Nd} (h : Rep N top S) (ho : OkS S) (hp : atN N (some top) (splitB p) = some k) (hk : N k = some x) : S.hasIn p = true ↔ ∃ s j, x.kids s = some j := by
  unfold St.hasIn
  rw [List.any_eq_true]
  constructor
  · rintro ⟨y, hy, hc⟩
    simp only [Bool.and_eq_true, bne_iff_ne, ne_eq, beq_iff_eq] at hc
    obtain ⟨j, n, h1, _, _⟩ := h.mem ho hy
    have := Rep.parent hc.1 (ho.right y hy) (N := N) (top := top) (d := k) (n := x) (by rw [hc.2]; exact hp) hk
    exact ⟨baseB y.1, j, by rw [← this]; exact h1⟩
  · rintro ⟨s, j, hj⟩
    have h1 : atN N (some top) (splitB p ++ [s]) = some j := by rw [atN_append, hp, atN_one hk]; exact hj
    obtain ⟨q, hq, hs⟩ := h.only _ _ h1
    have h2 := h.rep q hq
    rw [hs, h1] at h2
    obtain ⟨n, h3, h4⟩ := h2.some
    obtain ⟨h5, h6, _⟩ := parent_of (Y := []) hq hs
    exact ⟨(q, n.ino), (ho.at_iff _ _).1 h4, by simp [h5, h6]⟩
theorem KidsN.zero {n : Nd} {k : Nat} (h : KidsN n k) : k = 0 ↔ ∀ s, n.kids s = none := by
  obtain ⟨ks, h1, h2, rfl⟩ := h
  constructor
  · intro h s
    have : ks = [] := List.eq_nil_of_length_eq_zero h
    subst this
    cases hs : n.kids s with
    | none => rfl
    | some j => have := (h2 s).2 (by rw [hs]; rfl); cases this
  · intro h
    cases ks with
    | nil => rfl
    | cons a l => have := (h2 a).1 (List.mem_cons_self ..); rw [h a] at this; cases this
theorem OkS.gone {S : St} (h : OkS S) {p : List UInt8} (hp : p ≠ []) (hn : S.hasIn p = false) : OkS { S with ls := S.ls.filter (fun y => y.1 != p) } := by
  have hsub : ∀ x, x ∈ S.ls.filter (fun y => y.1 != p) ↔ x ∈ S.ls ∧ x.1 ≠ p := fun x => by rw [List.mem_filter]; simp
  have hnd : (S.ls.filter (fun y => y.1 != p)).Pairwise (fun x y => x.1 ≠ y.1) := h.nodup.filter _
  have hat : ∀ q e, q ≠ p → S.at q = some e → ({ S with ls := S.ls.filter (fun y => y.1 != p) } : St).at q = some e := fun q e hq he =>
    mem_lookup hnd ((hsub (q, e)).2 ⟨(h.at_iff q e).1 he, hq⟩)
  refine ⟨hnd, fun x hx => h.right x ((hsub x).1 hx).1, hat _ _ (fun e => hp e.symm) h.top, fun x hx => h.lt x ((hsub x).1 hx).1, fun x hx y hy => h.one x ((hsub x).1 hx).1 y ((hsub y).1 hy).1, fun x hx => h.kind x ((hsub x).1 hx).1, h.kind1, h.tgt, fun x hx hne => ?_⟩
  obtain ⟨d, h1, h2⟩ := h.up x ((hsub x).1 hx).1 hne
  refine ⟨d, hat _ _ (fun e => ?_) h1, h2⟩
  have : S.hasIn p = true := by
    unfold St.hasIn
    rw [List.any_eq_true]
    exact ⟨x, ((hsub x).1 hx).1, by simp [hne, e]⟩
  rw [hn] at this; cases this
set_option maxRecDepth 100000 in
set_option maxHeartbeats 8000000 in
theorem RemoveS_any (t c : Nat) (S : St) (O : Nat → Prop) (p : ByteArray) (w : World) (h : TreeS w t c S O) (hp : p.size ≤ 2097152) (hls : S.ls.length ≤ 1099511627776) (hc : c ≤ 1099511627776) :
    Calls Tryz.prog 28 #[.pointer (some ⟨t, 0, none⟩), .string p] w fun e w' => e = .returned (.int .i64 (S.remove p.data.toList).1) ∧ ActPost w w' t c (S.remove p.data.toList).2 O := by
  have HS := Lib.hid h
  obtain ⟨top, N, hT, hR, ho, hO⟩ := h
  obtain ⟨X, hX⟩ : ∃ X, S.remove p.data.toList = X := ⟨_, rfl⟩
  have HX : Hid ((if rightB p.data.toList = false then ((9 : Int), S) else if p.data.toList = [] then (2, S) else removeR S p.data.toList (thereS (S.look p.data.toList))) = X) := Lib.hid hX
  rw [hX]
  have HR1 := Lib.hid (fun w => right_any p _ w rfl hp)
  have HF := Lib.hid (fun w (h : TreeAt w t top S.next c N) => there_any t top c S.next N p w h hp)
  have HTH := Lib.hid (hR.thereR ho p.data.toList)
  have HT := Lib.hid hT
  have HRP := Lib.hid hR
  have HOK := Lib.hid ho
  have HOO := Lib.hid hO
  clear hX hT hR ho hO
  obtain ⟨r, hr⟩ : ∃ r, thereS (S.look p.data.toList) = r := ⟨_, rfl⟩
  obtain ⟨l, hl⟩ : ∃ l, thereU (lookN N top p.data.toList) = l := ⟨_, rfl⟩
  have HLL := Lib.hid (fun k d (h : l = (some k, d, 0)) => there_look (hl.trans h))
  rw [hr] at HX HTH
  rw [hl] at HF HTH
  clear hr hl
  generalize hrb : rightB p.data.toList = r1 at *
  go_enter Tryz.func28, Tryz.ntmps28
  go_wp2_with fail
  refine (HR1.out w).mono ?_
  rintro e w1 ⟨rfl, hb1⟩
  have B1 := Lib.hid hb1
  have T1 := Lib.hid (HT.out.below hb1)
  clear hb1 HR1 HT
  cases r1 with
  | false =>
    have K := Lib.hid (show X = ((9 : Int), S) by rw [← HX.out]; exact if_pos rfl)
    go_wp2_with fail
    go_ret
    rw [K.out]
    exact ⟨rfl, act_same HS.out B1.out⟩
  | true =>
  have HX0 := Lib.hid (show (if p.data.toList = [] then ((2 : Int), S) else removeR S p.data.toList r) = X from HX.out)
  clear HX
  by_cases hz : p.size = 0
  · obtain rfl : p = ⟨#[]⟩ := ByteArray.ext (Array.size_eq_zero_iff.1 hz)
    have K := Lib.hid (show X = ((2 : Int), S) by rw [← HX0.out]; rfl)
    clear hz
    go_wp2_with fail
    go_ret
    rw [K.out]
    exact ⟨rfl, act_same HS.out B1.out⟩
  have hnil := nil_toList p hz
  have hne : p.data.toList ≠ [] := fun e => hz (by have : p.data.toList.length = 0 := by rw [e]; rfl
                                                   rwa [Array.length_toList] at this)
  have HNE := Lib.hid hne
  have HX1 := Lib.hid (show removeR S p.data.toList r = X by rw [← HX0.out, if_neg hne])
  clear HX0 hz hne
  go_wp2_with fail
  refine (HF.out w1 T1.out).mono ?_
  rintro e w3 ⟨rfl, hb3⟩
  have B3 := Lib.hid (B1.out.trans (hb3.mono B1.out.size))
  have T3 := Lib.hid (T1.out.below hb3)
  clear hb3 HF T1 B1
  obtain ⟨lo, ld, le⟩ := l
  obtain ⟨ro, re⟩ := r
  obtain rfl : le = re := HTH.out.err
  unfold tupL
  rcases Classical.em (le = 0) with h0 | h0
  · subst h0
    obtain ⟨k, x, e1, hk, e2⟩ := HTH.out.found rfl
    obtain rfl : lo = some k := e1
    obtain rfl : ro = some x.ino := e2
    have hlk := HLL.out k ld rfl
    obtain ⟨d, rfl⟩ := look_has hlk HNE.out
    obtain ⟨hr, _, hD, m, hd, hmk, hmb⟩ := lookN_fresh hlk
    have hatp : atN N (some top) (splitB p.data.toList) = some k := by rw [Rep.parent HNE.out hr hD hd, hmb]
    have hin := HRP.out.hasIn HOK.out hatp hk
    have HX2 := Lib.hid (show (if S.hasIn p.data.toList = true then ((14 : Int), S) else (0, { S with ls := S.ls.filter (fun y => y.1 != p.data.toList) })) = X by
      have h := HX1.out
      unfold removeR at h
      simp only [ne_eq, not_true_eq_false, if_false] at h
      exact h)
    obtain ⟨kk, hkk, hkc, hlen⟩ := T3.out.klen hk
    have hlen := hlen 3
    obtain ⟨_, _, _, _, _, _, _, _, _, _, _, n11⟩ := node_cells (T3.out.node k x hk)
    rw [show ptrO (some k) = .pointer (some ⟨k, 0, none⟩) from rfl, ptrO_some]
    rcases Nat.eq_zero_or_pos kk with hk0 | hk0
    · have hnk := (KidsN.zero hkk).1 hk0
      have hnin : S.hasIn p.data.toList = false := by
        cases hq : S.hasIn p.data.toList with
        | false => rfl
        | true => obtain ⟨s, j, hj⟩ := hin.1 hq; rw [hnk s] at hj; cases hj
      have K := Lib.hid (show X = ((0 : Int), { S with ls := S.ls.filter (fun y => y.1 != p.data.toList) }) by rw [← HX2.out, hnin]; rfl)
      have hdk : k ≠ d := fun e => by
        rw [e, hd, Option.some.injEq] at hk
        rw [hk, hnk] at hmb; cases hmb
      obtain ⟨b, hb⟩ : ∃ b, m.kb = some b := by
        cases hq : m.kb with
        | none => exact absurd hq (T3.out.dirs d m hd hmk)
        | some b => exact ⟨b, rfl⟩
      obtain ⟨hl0, hl1⟩ := links_bound HRP.out hk
      have hR6 := HRP.out.gone HOK.out hlk hk hnk
      have ho6 := HOK.out.gone HNE.out hnin
      have HOU := Lib.hid (out_any t top c d b S.next N m p k x w3 T3.out hd hb hmb hk hdk hp (by omega) (by omega))
      have R6 := Lib.hid (And.intro hR6 ho6)
      have HOW := Lib.hid (show ∀ j, (j = k ∨ j = b) → ownT t N j from fun j hj => hj.elim (fun e => .inr (.inl ⟨x, by rw [e]; exact hk⟩)) (fun e => .inr (.inr ⟨d, m, hd, by rw [e]; exact hb⟩)))
      subst hk0
      have q1 : ¬ (0 : Int) < ((0 : Nat) : Int) := by omega
      clear hR6 ho6 hnk hnin hdk hb hl0 hl1 hk hd hmk hmb hD hatp hin HX2 HX1 hlk hkk hkc HTH
      unfold ptrN
      go_wp2_with fail
      refine HOU.out.mono ?_
      rintro e w6 ⟨rfl, hT6, hO6⟩
      have T6 := Lib.hid hT6
      have O6 := Lib.hid (Only.trans (Only.of (P := ownT t N) B3.out) (hO6.mono (fun j _ hj => HOW.out j hj)))
      clear hT6 hO6 HOU
      go_wp2_with fail
      go_ret
      rw [K.out]
      exact ⟨rfl, act_rel HOO.out (T6.out.mono (Nat.le_succ c)) R6.out.1 R6.out.2 O6.out⟩
    · have hyes : S.hasIn p.data.toList = true := by
        refine hin.2 ?_
        apply Classical.byContradiction
        intro hno
        have : kk = 0 := (KidsN.zero hkk).2 (fun s => by
          cases hs : x.kids s with
          | none => rfl
          | some j => exact absurd ⟨s, j, hs⟩ hno)
        omega
      have K := Lib.hid (show X = ((14 : Int), S) by rw [← HX2.out, hyes]; rfl)
      have q1 : (0 : Int) < (kk : Int) := by omega
      have q2 : decide ((0 : Int) < (kk : Int)) = true := decide_eq_true q1
      have q3 : 0 < kk := hk0
      clear hyes hk hd hmk hmb hD hatp hin HX2 HX1 hlk hkk hkc HTH hk0
      go_wp2_with fail
      go_ret
      rw [K.out]
      exact ⟨rfl, act_same HS.out B3.out⟩
  · have K := Lib.hid (show X = (le, S) by
      rw [← HX1.out]
      cases ro with
      | none => rfl
      | some i => exact if_pos h0)
    have e1 : (le != 0) = true := by simpa using h0
    clear h0 HX1
    go_wp2_with fail
    go_ret
    rw [K.out]
    exact ⟨rfl, act_same HS.out B3.out⟩
end Go.Proofs.YtlbbehfbjbbckaaGreatDoor

/-! The names of what stands in a directory, rising: the program's names. -/
set_option linter.unusedVariables false
set_option linter.unusedSimpArgs false
namespace Go.Proofs.YtlbbehfbjbbckaaGreatDoor
open Go.RowKit
open Go.Maps (Keyed string_keyed)
open Go.Sort

/-- All names in a directory, each once, rising. -/
structure NamesL (n : Nd) (ks : List (List UInt8)) : Prop where
  nodup : ks.Nodup
  mem : ∀ x, x ∈ ks ↔ (n.kids x).isSome = true
  sorted : ks.Pairwise (fun a b => leB a b = true)
theorem NamesL.same {n : Nd} {a b : List (List UInt8)} (h : NamesL n a) (k : NamesL n b) : a = b := by
  refine List.Perm.eq_of_pairwise (le := fun a b => leB a b = true) (fun a b _ _ h1 h2 => ?_) h.sorted k.sorted ((List.perm_ext_iff_of_nodup h.nodup k.nodup).2 fun x => (h.mem x).trans (k.mem x).symm)
  simp only [leB, decide_eq_true_eq] at h1 h2
  exact List.le_antisymm h1 h2
theorem sorted_mergeSort (l : List (List UInt8)) : (l.mergeSort leB).Pairwise (fun a b => leB a b = true) :=
  List.pairwise_mergeSort (fun a b c h1 h2 => by simp only [leB, decide_eq_true_eq] at *; exact List.le_trans h1 h2) (fun a b => by simp only [leB, Bool.or_eq_true, decide_eq_true_eq]; exact List.le_total a b) l
theorem map_data {w : World} {b n : Nat} {f : List UInt8 → Option Value} (h : MapAt w b n f) : ∃ D : DataW Value, w.ownsMap Tryz.prog 9 heldR b n D ∧ (∀ x, x ∈ strKeys D ↔ (f x).isSome = true) ∧ Maps.size D ≤ n := by
  obtain ⟨D, hown, hm, h2⟩ := h
  obtain ⟨es, hD, hpw, _⟩ := hown.entries strLaw
  obtain ⟨es', hD', hko⟩ := hown.keysOf
  obtain rfl : es = es' := by rw [hD] at hD'; simpa using hD'
  have hk : ∀ p ∈ es, ∃ x, p.1 = .string x := fun p hp => by
    obtain ⟨v, hv⟩ := hko p hp
    obtain ⟨x, _, hx, _⟩ := Maps.keyOf_str Tryz.underlying9 hv
    exact ⟨x, hx⟩
  refine ⟨D, hown, fun x => ?_, hown.size_le⟩
  rw [← (h2 x).1]
  subst hD; exact strKeys_mem hk x
theorem strs_enc (l : List (List UInt8)) : l.map encStr = strs l := rfl
set_option maxRecDepth 100000 in
set_option maxHeartbeats 4000000 in
theorem names_any (t top c : Nat) (next : Int) (N : Nat → Option Nd) (i b : Nat) (n : Nd) (w : World) (h : TreeAt w t top next c N) (hi : N i = some n) (hkb : n.kb = some b) (hc : c ≤ 1099511627776) :
    Calls Tryz.prog 116 #[ptrN i] w fun e w' => (∃ A cap ks, e = .returned (.slice A ks.length cap) ∧ Sl 1 w' A ks.length (strs ks) ∧ NamesL n ks ∧ ∀ a, A = some a → w.heap.size ≤ a.block) ∧ Below w.heap.size w w' := by
  obtain ⟨i0, hi0, hz0, hz1, hz2⟩ := info_parts infoS
  have hM := h.kids i n b hi hkb
  obtain ⟨D0, hown, hmem, hsize⟩ := map_data hM
  have hbl := hM.lt
  have HN := Lib.hid (h.node i n hi)
  obtain ⟨_, _, _, _, _, _, _, _, _, _, _, n11⟩ := node_cells HN.out
  rw [hkb] at n11
  have HMEM := Lib.hid (show ∀ x, x ∈ strKeys D0 ↔ (n.kids x).isSome = true from fun x => (hmem x).trans (by simp))
  have HKB := Lib.hid hkb
  clear h hi hM hmem hkb
  unfold ptrN
  go_enter Tryz.func116, Tryz.ntmps116
  go_wp2_with (first
    | (at_len; refine wpList_len_own _ rfl _ 109 rfl 9 99 Tryz.underlying109 _ b c _ rfl hown ?_)
    | (at_make; refine wpList_make_own _ rfl _ _ 35 rfl w.heap.size 9 i0 (.string ⟨#[]⟩) 1 Tryz.underlying35 hi0 hz0 hz1 _ _ _ (Maps.size D0) rfl rfl rfl (by rw [hz2]; omega) (by unfold maxLen; omega) (Nat.le_refl _) ?_; intro w1 hrow1 hg1
       have n11' : w1.cell? ⟨i, 11, none⟩ = some (.map (some b)) := World.grownBy.cell hg1 n11 (by simp))
    | (at_range; refine wpList_range_own _ rfl _ 109 rfl 9 99 strLaw Tryz.underlying109 _ b c _ rfl (hown.kept hg1 (by simp)) ?_; intro w0 hrg0 hg0 hs0)
    | fail)
  go_frame
  go_loopw [3] (fun v wr => ∃ (left : Lit → Bool) (cnt : Nat) (ss : List (List UInt8)), wr.ranges Tryz.prog 9 heldR b w1.heap.size c D0 left cnt ∧ ss.length + cnt ≤ Maps.size D0 ∧
      wr.ownsRow w.heap.size 9 1 v ss.length (ss.map encStr) ∧ v ≠ .slice none 0 0 ∧ Collected D0 left ss ∧ Below w.heap.size w wr)
    (fun _ wr => wr.rangeLeft b w1.heap.size)
  case atStart =>
    exact ⟨_, _, [], hrg0, by simp, hrow1.kept hg0 (Or.inr (by simp [Value.ownBlock])), by simp, Collected.start D0,
      ((Below.refl _ _).grown hg1 (Nat.le_refl _) (fun j hj => by cases hj)).grown hg0 hg1.size (fun j hj => by cases hj)⟩
  case round =>
    obtain ⟨left, cnt, ss, hrg, hcs, hrow, hnn, hC, hnx⟩ := hrel
    go_wp2_with (first
      | (at_next; refine wpList_next_ranges _ rfl _ rfl 9 strLaw heldR encStr (fun v : Value => v) (fun key kl hk => by obtain ⟨x, hx, _⟩ := Maps.keyOf_str Tryz.underlying9 hk; exact ⟨x, hx⟩) (fun v y hv => ⟨v, rfl⟩) b w1.heap.size c _ _ _ rfl hrg ?_ ?_)
      | fail)
    · intro hc0 hl0
      rcases hrow.2 with ⟨hnil, _⟩ | ⟨g, cap, cur, rfl, hbase, hb, h1, h2, h3, h4⟩
      · exact absurd hnil hnn
      have hH : Holds encStr wr g 0 ss.toArray := holds_of_block hb (by simpa using h4)
      have hgl : g < wr.heap.size := (Array.getElem?_eq_some_iff.1 hb).1
      have hcc := Tryz.sort_Strings g 0 cap ss wr hH hgl (by omega)
      go_wp2_with fail
      refine hcc.mono ?_
      rintro e w' ⟨rfl, nn, os, rfl⟩
      go_wp2_with fail
      go_ret
      refine ⟨?_, hnx.grown (grownBy_sorted _) hnx.size (fun j hj => by cases hj; exact hbase)⟩
      have hperm := hC.perm hown strLaw Tryz.underlying9 hl0
      have hlen : (ss.mergeSort leB).length = ss.length := List.length_mergeSort ss
      have hown' := ownsRow_sorted (n := nn) (os := os) (ts := ss.mergeSort leB) (by simp) hbase hb h1 h2 h3
      obtain ⟨A, cc, hv, hle, hsl, _, _⟩ := own_sl hown'
      cases hv
      refine ⟨some ⟨g, 0, none⟩, cap, ss.mergeSort leB, by rw [hlen]; rfl, by rw [hlen]; exact hsl, ⟨((List.mergeSort_perm ss leB).nodup_iff).2 hC.1, fun x => ?_, sorted_mergeSort ss⟩, fun a ha => by cases ha; exact hbase⟩
      rw [← HMEM.out x, (List.mergeSort_perm ss leB).mem_iff, hperm.mem_iff]
    · intro x cc kl yd yp w2 cnt2 hkey hlk hv hat hrg2 hlt hg2 hs2 hen
      obtain ⟨x', ex, rfl, _⟩ := Maps.keyOf_str Tryz.underlying9 hkey
      obtain rfl : x = x' := encStr_inj ex
      have hrow2 := hrow.kept hg2 (Or.inr (row_ne_iter hrow hrg).symm)
      clear hs2
      go_wp2_with (first
        | (at_builtin; refine wpList_append_own _ rfl _ _ 35 rfl w.heap.size 9 i0 (.string ⟨#[]⟩) 1 16 Tryz.underlying35 hi0 hz0 hz1 hz2 rfl (by decide) _ _ _ rfl (hrow2.alloc _) ⟨w2.heap.size, 0, none⟩ 1 1 [encStr x] rfl rfl (cell_one_new _ _ _) (by simp [Value.oneCell', encStr]) (by unfold maxLen at *; omega) (by omega) (by have := hnx.size; have := hg2.size; simp; omega) ?_; intro v' w3 hown' hg3 hnil3; go_frame)
        | fail)
      have hrg3 := (hrg2.alloc _).kept hg3 (row_ne_low hrow2 hbl) (row_ne_iter hrow2 hrg2)
      go_roundw
      case rel =>
        refine ⟨_, cnt2, ss ++ [x], hrg3, by simp; omega, by simpa using hown', fun hv' => by have := (hnil3.1 hv').2; omega, hC.step hlk hat, ?_⟩
        exact ((hnx.grown hg2 hnx.size (fun j hj => by cases hj; exact hg1.size)).alloc (by have := hnx.size; have := hg2.size; omega) _).grown hg3 (by have := hnx.size; have := hg2.size; simp; omega) (fun j hj => (hrow2.lt j hj).1)
      case measure => rw [hrg3.left_eq, hrg.left_eq]; exact hlt
end Go.Proofs.YtlbbehfbjbbckaaGreatDoor

/-! All things below a directory are gone through: the program's each. -/
set_option linter.unusedVariables false
set_option linter.unusedSimpArgs false
namespace Go.Proofs.YtlbbehfbjbbckaaGreatDoor
open Go.RowKit

open Classical in
noncomputable def ksN (n : Nd) : List (List UInt8) := if h : ∃ ks, NamesL n ks then Classical.choose h else []
theorem ksN_eq {n : Nd} {ks : List (List UInt8)} (h : NamesL n ks) : ksN n = ks := by
  unfold ksN
  rw [dif_pos ⟨ks, h⟩]
  exact (Classical.choose_spec (⟨ks, h⟩ : ∃ ks, NamesL n ks)).same h
def kbN (N : Nat → Option Nd) (k : Nat) : Bool := match N k with | some n => n.kb.isSome | none => false
/-- What is told of below a thing, in order, so deep. -/
noncomputable def eachL (N : Nat → Option Nd) : Nat → List UInt8 → Nat → List (List UInt8 × Nat)
  | 0, _, _ => []
  | f + 1, p, i => match N i with
    | none => []
    | some n => (ksN n).flatMap fun x => match n.kids x with
      | none => []
      | some k => (p ++ x, k) :: (if kbN N k = true then eachL N f (p ++ x ++ [47]) k else [])
noncomputable def itemL (N : Nat → Option Nd) (f : Nat) (p : List UInt8) (n : Nd) (x : List UInt8) : List (List UInt8 × Nat) :=
  match n.kids x with
  | none => []
  | some k => (p ++ x, k) :: (if kbN N k = true then eachL N f (p ++ x ++ [47]) k else [])
theorem eachL_succ {N : Nat → Option Nd} {f i : Nat} {p : List UInt8} {n : Nd} {ks : List (List UInt8)} (hi : N i = some n) (hk : NamesL n ks) : eachL N (f + 1) p i = ks.flatMap (itemL N f p n) := by
  rw [eachL, hi]
  simp only
  rw [ksN_eq hk]
  rfl
/-- So deep, and no deeper, with short names. -/
def Deep (N : Nat → Option Nd) : Nat → Nat → Prop
  | 0, i => ∀ s, kidsOf N i s = none
  | f + 1, i => ∀ s k, kidsOf N i s = some k → s.length ≤ 200 ∧ Deep N f k
theorem str_cat (p x : List UInt8) : str p ++ str x = str (p ++ x) := by simp [str, ByteArray.ext_iff]
theorem str_slash (p : List UInt8) : str p ++ (⟨#[47]⟩ : ByteArray) = str (p ++ [47]) := by simp [str, ByteArray.ext_iff]
theorem Sl.far {w w' : World} {A : Option Addr} {n : Nat} {l : List (List UInt8)} {P : Nat → Prop} (h : Sl 1 w A n (strs l)) (hA : ∀ a, A = some a → ¬ P a.block) (hw : Only P w w') : Sl 1 w' A n (strs l) :=
  ⟨h.len, h.max, by
    rcases h.at_ with h0 | ⟨b, o, rfl, hc⟩
    · exact .inl h0
    · exact .inr ⟨b, o, rfl, fun j v hj => (World.cell?_of_block (a := ⟨b, o + j, none⟩) (hw.block b (World.block_lt_of_cell? w _ (hc j v hj)) (hA _ rfl))).trans (hc j v hj)⟩⟩
theorem mapNeN (w : World) : (binOp BinOp.neq 109 (.map none) (.map none)).run Tryz.prog w = .ok (.bool false) w := by kernel_rfl
theorem mapNeS (k : Nat) (w : World) : (binOp BinOp.neq 109 (.map (some k)) (.map none)).run Tryz.prog w = .ok (.bool true) w := by kernel_rfl
theorem callF_enter {P : Program} {f : FuncId} {fn : Func} {c : Code} (hf : P.funcs[f]? = some fn) (hname : (fn.name == "runtime.NumGoroutine") = false) (hb : fn.body = some c) (args : Array Value) (w : World) :
    (callFunc f args).run P w = .ok (.enter f args) w := by
  have h1 : fn.name ≠ "runtime.NumGoroutine" := by simpa using hname
  simp [callFunc, hf, h1, hb]
/-- What a thing that is told of does: what has been told, the world. -/
structure Teller (t top c : Nat) (next : Int) (N : Nat → Option Nd) (F : Nat) (cv : Value) (C : Nat → Prop) (I : List (List UInt8 × Nat) → World → Prop) : Prop where
  tree : ∀ acc w, I acc w → TreeAt w t top next c N
  below : ∀ acc w w', I acc w → Below w.heap.size w w' → I acc w'
  enter : ∀ args w, (callFunc F args).run Tryz.prog w = .ok (.enter F args) w
  tell : ∀ acc w q k, I acc w → q.length ≤ 1000000 → (∃ n, N k = some n) → Calls Tryz.prog F #[.string (str q), ptrN k, cv] w fun e w' => e = .returned (.tuple #[]) ∧ I (acc ++ [(q, k)]) w' ∧ Only C w w'
set_option maxRecDepth 100000 in
set_option maxHeartbeats 8000000 in
theorem each_core (t top c : Nat) (next : Int) (N : Nat → Option Nd) (F : Nat) (cv : Value) (C : Nat → Prop) (I : List (List UInt8 × Nat) → World → Prop) (hI : Teller t top c next N F cv C I) (hc : c ≤ 1099511627776)
    (f i : Nat) (n : Nd) (p : List UInt8) (acc : List (List UInt8 × Nat)) (w : World) (hIw : I acc w) (hCw : ∀ k, C k → k < w.heap.size) (hi : N i = some n) (hkb : n.kb ≠ none) (hpl : p.length ≤ 900000)
    (hrec : ∀ s k, n.kids s = some k → s.length ≤ 200 ∧ ∀ (n' : Nd) (acc' : List (List UInt8 × Nat)) (w' : World), I acc' w' → (∀ k, C k → k < w'.heap.size) → N k = some n' → n'.kb ≠ none →
      Calls Tryz.prog 72 #[ptrN k, .string (str (p ++ s ++ [47])), .func (.func F) #[] #[cv]] w' fun e w'' => e = .returned (.tuple #[]) ∧ I (acc' ++ eachL N f (p ++ s ++ [47]) k) w'' ∧ Only C w' w'') :
    Calls Tryz.prog 72 #[ptrN i, .string (str p), .func (.func F) #[] #[cv]] w fun e w' => e = .returned (.tuple #[]) ∧ I (acc ++ eachL N (f + 1) p i) w' ∧ Only C w w' := by
  obtain ⟨b, hb⟩ : ∃ b, n.kb = some b := by
    cases hq : n.kb with
    | none => exact absurd hq hkb
    | some b => exact ⟨b, rfl⟩
  have HT := Lib.hid (hI.tree acc w hIw)
  have HII := Lib.hid hIw
  have HN := Lib.hid (names_any t top c next N i b n w HT.out hi hb hc)
  have HCC := Lib.hid hCw
  have HI0 := Lib.hid hi
  have HB := Lib.hid hb
  have HREC := Lib.hid hrec
  clear hIw hCw hi hkb hb hrec
  unfold ptrN at *
  go_enter Tryz.func72, Tryz.ntmps72
  go_wp2_with fail
  refine HN.out.mono ?_
  rintro e w1 ⟨⟨A, cap, ks, rfl, hsl, hks, hAlow⟩, hb1⟩
  have HKS := Lib.hid hks
  have HB1 := Lib.hid hb1
  have HSL := Lib.hid hsl
  have hnm := hsl.max
  have HAC := Lib.hid (show ∀ a, A = some a → ¬ C a.block from fun a ha hC => by have h1 := hAlow a ha; have h2 := HCC.out _ hC; omega)
  have HL := Lib.hid (eachL_succ (f := f) (p := p) HI0.out hks)
  clear hks hb1 hsl HN hAlow
  go_wp2_with fail
  go_loopw [12] (fun v wr => ∃ (j : Nat), v = .int .i64 j ∧ j ≤ ks.length ∧ I (acc ++ (ks.take j).flatMap (itemL N f p n)) wr ∧ Sl 1 wr A ks.length (strs ks) ∧ Only C w wr) (fun v _ => ks.length - (intOf v).toNat)
  case atStart => exact ⟨0, rfl, Nat.zero_le _, by rw [List.take_zero, List.flatMap_nil, List.append_nil]; exact hI.below _ _ _ HII.out HB1.out, HSL.out, Only.of HB1.out⟩
  case round =>
    obtain ⟨j, rfl, hj, hI1, hs1, hO1⟩ := hrel
    have I1 := Lib.hid hI1
    have S1 := Lib.hid hs1
    have O1 := Lib.hid hO1
    clear hI1 hs1 hO1
    rcases Nat.lt_or_ge j ks.length with h | h
    · obtain ⟨ab, ao, x, hA, hx, hcell⟩ := S1.out.strRow h
      have hin : (j : Int) < (ks.length : Int) := by omega
      have hov : IntKind.i64.wrap ((j : Nat) + 1 : Int) = (j : Nat) + 1 := by rw [IntKind.wrap_i64]; omega
      have hmem := (HKS.out.mem x).1 (List.mem_of_getElem? hx)
      obtain ⟨k, hk⟩ := Option.isSome_iff_exists.1 hmem
      obtain ⟨hxl, hrc⟩ := HREC.out x k hk
      have T1 := Lib.hid (hI.tree _ _ I1.out)
      obtain ⟨n', hn'⟩ := T1.out.closed i n x k HI0.out hk
      have HTK := Lib.hid (show (ks.take (j + 1)).flatMap (itemL N f p n) = (ks.take j).flatMap (itemL N f p n) ++ ((p ++ x, k) :: (if kbN N k = true then eachL N f (p ++ x ++ [47]) k else [])) by
        rw [take_snocS hx, List.flatMap_append]
        congr 1
        simp only [List.flatMap_cons, List.flatMap_nil, List.append_nil, itemL, hk])
      have hxs : (str x).size ≤ maxLen := by rw [size_toList]; unfold maxLen; omega
      have hlk := (T1.out.kids i n b HI0.out HB.out).look Tryz.underlying109 (ptrZero _) (s := str x) hxs
      have hst : (str x).data.toList = x := by simp [str]
      rw [hst, hk] at hlk
      replace hlk : (Instr.lookup 109 (.map (some b)) (.string (str x)) false).run Tryz.prog wr = .ok (.pointer (some ⟨k, 0, none⟩)) wr := hlk
      obtain ⟨_, _, _, _, _, _, _, _, _, _, _, n11⟩ := node_cells (T1.out.node i n HI0.out)
      rw [HB.out] at n11
      have z1 : ¬ 9223372036854775807 < (str p).size + (str x).size := by rw [size_toList, size_toList]; omega
      obtain ⟨q, hq⟩ : ∃ q, p ++ x = q := ⟨_, rfl⟩
      obtain ⟨q2, hq2⟩ : ∃ q2, q ++ [47] = q2 := ⟨_, rfl⟩
      have hql : q.length ≤ 900200 := by rw [← hq, List.length_append]; omega
      have hcat := str_cat p x
      rw [hq] at hcat
      have z2 : ¬ 9223372036854775807 < (str q).size + 1 := by rw [size_toList]; omega
      have hcat2 := str_slash q
      rw [hq2] at hcat2
      rw [hq, hq2] at hrc
      replace HTK := Lib.hid HTK.out
      rw [hq, hq2] at HTK
      obtain ⟨a1, ha1⟩ : ∃ a1, acc ++ (ks.take j).flatMap (itemL N f p n) = a1 := ⟨_, rfl⟩
      rw [ha1] at I1
      have HTL := Lib.hid (hI.tell _ wr q k I1.out (by omega) ⟨n', hn'⟩)
      have HTK2 := Lib.hid (show acc ++ (ks.take (j + 1)).flatMap (itemL N f p n) = a1 ++ ((q, k) :: (if kbN N k = true then eachL N f q2 k else [])) by rw [HTK.out, ← ha1, List.append_assoc])
      have HK := Lib.hid hk
      have HN' := Lib.hid hn'
      have HRC := Lib.hid hrc
      subst hA
      have hcf := hI.enter
      clear hx hmem hk hst hxs hn' hrc
      go_wp2_with fail
      refine HTL.out.mono ?_
      rintro e w2 ⟨rfl, hI2, hO2⟩
      have I2 := Lib.hid hI2
      have O2 := Lib.hid hO2
      have T2 := Lib.hid (hI.tree _ _ hI2)
      have S2 := Lib.hid (S1.out.far HAC.out hO2)
      obtain ⟨_, _, _, _, _, _, _, _, _, _, _, k11⟩ := node_cells (T2.out.node k n' HN'.out)
      clear hI2 hO2 hlk hcell
      cases hkb : n'.kb with
      | none =>
        rw [hkb] at k11
        have HKB := Lib.hid (show kbN N k = false by unfold kbN; rw [HN'.out]; simp only; rw [hkb]; rfl)
        have hme := mapNeN
        go_wp2_with fail
        go_roundw
        case rel =>
          refine ⟨j + 1, by go_num, by omega, ?_, S2.out, O1.out.trans O2.out⟩
          rw [HTK2.out, HKB.out]
          exact I2.out
        case measure => simp [intOf]; omega
      | some kk =>
        rw [hkb] at k11
        have HKB := Lib.hid (show kbN N k = true by unfold kbN; rw [HN'.out]; simp only; rw [hkb]; rfl)
        have hme := mapNeS kk
        have HR2 := Lib.hid (HRC.out n' _ w2 I2.out (fun q hq => Nat.lt_of_lt_of_le (HCC.out q hq) (Nat.le_trans O1.out.size O2.out.size)) HN'.out (by rw [hkb]; simp))
        unfold ptrN at HR2
        go_wp2_with fail
        refine HR2.out.mono ?_
        rintro e w3 ⟨rfl, hI3, hO3⟩
        have I3 := Lib.hid hI3
        have O3 := Lib.hid hO3
        have S3 := Lib.hid (S2.out.far HAC.out hO3)
        clear hI3 hO3
        go_wp2_with fail
        go_roundw
        case rel =>
          refine ⟨j + 1, by go_num, by omega, ?_, S3.out, (O1.out.trans O2.out).trans O3.out⟩
          rw [HTK2.out, HKB.out]
          have := I3.out
          rw [List.append_assoc] at this
          exact this
        case measure => simp [intOf]; omega
    · obtain rfl : j = ks.length := by omega
      have hin : ¬ ((ks.length : Int) < (ks.length : Int)) := by omega
      have K := Lib.hid (show I (acc ++ eachL N (f + 1) p i) wr by
        have := I1.out
        rw [List.take_of_length_le (Nat.le_refl _), ← HL.out] at this
        exact this)
      clear hj h
      go_wp2_with fail
      go_end0
      exact ⟨rfl, K.out, O1.out⟩
theorem each_any (t top c : Nat) (next : Int) (N : Nat → Option Nd) (F : Nat) (cv : Value) (C : Nat → Prop) (I : List (List UInt8 × Nat) → World → Prop) (hI : Teller t top c next N F cv C I) (hc : c ≤ 1099511627776) :
    ∀ (f i : Nat) (n : Nd) (p : List UInt8) (acc : List (List UInt8 × Nat)) (w : World), I acc w → (∀ k, C k → k < w.heap.size) → N i = some n → n.kb ≠ none → Deep N f i → p.length + 300 * f ≤ 900000 →
    Calls Tryz.prog 72 #[ptrN i, .string (str p), .func (.func F) #[] #[cv]] w fun e w' => e = .returned (.tuple #[]) ∧ I (acc ++ eachL N (f + 1) p i) w' ∧ Only C w w'
  | 0, i, n, p, acc, w, h1, h2, h3, h4, h5, h6 => each_core t top c next N F cv C I hI hc 0 i n p acc w h1 h2 h3 h4 (by omega) (fun s k hk => by
      have := h5 s
      rw [kidsOf_some h3, hk] at this; cases this)
  | f + 1, i, n, p, acc, w, h1, h2, h3, h4, h5, h6 => each_core t top c next N F cv C I hI hc (f + 1) i n p acc w h1 h2 h3 h4 (by omega) (fun s k hk => by
      obtain ⟨g1, g2⟩ := h5 s k (by rw [kidsOf_some h3]; exact hk)
      refine ⟨g1, fun n' acc' w' a1 a2 a3 a4 => each_any t top c next N F cv C I hI hc f k n' _ acc' w' a1 a2 a3 a4 g2 ?_⟩
      simp only [List.length_append, List.length_singleton]
      omega)
end Go.Proofs.YtlbbehfbjbbckaaGreatDoor

/-! Whether all names below a directory stay paths: the program's fits. -/
set_option linter.unusedVariables false
set_option linter.unusedSimpArgs false
namespace Go.Proofs.YtlbbehfbjbbckaaGreatDoor
open Go.RowKit

def rightAll (l : List (List UInt8 × Nat)) : Bool := l.all (fun x => rightB x.1)
theorem rightAll_snoc (l : List (List UInt8 × Nat)) (q : List UInt8) (k : Nat) : rightAll (l ++ [(q, k)]) = (rightAll l && rightB q) := by simp [rightAll]
theorem str_list (q : List UInt8) : (str q).data.toList = q := by simp [str]
set_option maxRecDepth 100000 in
set_option maxHeartbeats 1000000 in
theorem fits1_any (q : List UInt8) (v : Value) (g : Nat) (b : Bool) (w : World) (h : Blk w g 4 [.bool b]) (hq : q.length ≤ 1000000) :
    Calls Tryz.prog 156 #[.string (str q), v, .pointer (some ⟨g, 0, none⟩)] w fun e w' => e = .returned (.tuple #[]) ∧ Blk w' g 4 [.bool (b && rightB q)] ∧ Only (fun k => k = g) w w' := by
  have HB := Lib.hid h
  have c0 : w.cell? ⟨g, 0, none⟩ = some (.bool b) := h.cell 0
  have f0 : w.frozen? ⟨g, 0, none⟩ = false := h.frozen 0
  have HR := Lib.hid (right_any (str q) _ w rfl (by rw [size_toList]; omega))
  rw [str_list] at HR
  clear h
  cases b with
  | false =>
    go_enter Tryz.func156, Tryz.ntmps156
    go_wp2_with fail
    go_end0
    exact ⟨rfl, HB.out.set 0 _, Only.set (P := fun k => k = g) w ⟨g, 0, none⟩ _ rfl⟩
  | true =>
    go_enter Tryz.func156, Tryz.ntmps156
    go_wp2_with fail
    refine HR.out.mono ?_
    rintro e w1 ⟨rfl, hb1⟩
    have B1 := Lib.hid hb1
    have c1 : w1.cell? ⟨g, 0, none⟩ = some (.bool true) := (HB.out.below hb1).cell 0
    have f1 : w1.frozen? ⟨g, 0, none⟩ = false := (HB.out.below hb1).frozen 0
    clear hb1
    go_wp2_with fail
    go_end0
    exact ⟨rfl, (HB.out.below B1.out).set 0 _, (Only.of B1.out).trans (Only.set (P := fun k => k = g) w1 ⟨g, 0, none⟩ _ rfl)⟩
set_option maxRecDepth 100000 in
set_option maxHeartbeats 4000000 in
theorem fits_any (t top c : Nat) (next : Int) (N : Nat → Option Nd) (f i : Nat) (n : Nd) (p : ByteArray) (w : World) (h : TreeAt w t top next c N) (hi : N i = some n) (hkb : n.kb ≠ none) (hD : Deep N f i) (hf : f ≤ 100) (hp : p.size ≤ 100000) (hc : c ≤ 1099511627776) :
    Calls Tryz.prog 132 #[ptrN i, .string p] w fun e w' => e = .returned (.bool (rightAll (eachL N (f + 1) (p.data.toList ++ [47]) i))) ∧ Below w.heap.size w w' := by
  obtain ⟨pl, rfl⟩ : ∃ pl, p = str pl := ⟨p.data.toList, ByteArray.ext (by simp [str])⟩
  rw [str_list]
  rw [size_toList] at hp
  obtain ⟨q, hq⟩ : ∃ q, pl ++ [47] = q := ⟨_, rfl⟩
  have hql : q.length ≤ 100001 := by rw [← hq, List.length_append, List.length_singleton]; omega
  have hcat := str_slash pl
  have z2 : ¬ 9223372036854775807 < (str pl).size + 1 := by rw [size_toList]; omega
  rw [hq] at hcat ⊢
  have B0 := Lib.hid ((Below.refl w.heap.size w).alloc (Nat.le_refl _) (.cells #[.bool true] 4))
  have K0 := Lib.hid (Blk.new w 4 [.bool true])
  have hfe : ∀ args w, (callFunc 156 args).run Tryz.prog w = .ok (.enter 156 args) w := fun args w => callF_enter Tryz.func156 rfl rfl args w
  have HW := Lib.hid (each_any t top c next N 156 (.pointer (some ⟨w.heap.size, 0, none⟩)) (fun k => k = w.heap.size) (fun acc wr => Below w.heap.size w wr ∧ Blk wr w.heap.size 4 [.bool (rightAll acc)])
    ⟨fun acc wr g => h.below g.1, fun acc wr w' g hb => ⟨g.1.trans (hb.mono (Nat.le_of_lt g.2.lt)), g.2.below hb⟩, hfe, fun acc wr q k g hq hk => by
      refine (fits1_any q (ptrN k) w.heap.size (rightAll acc) wr g.2 hq).mono ?_
      rintro e w' ⟨rfl, hb, ho⟩
      rw [← rightAll_snoc _ _ k] at hb
      exact ⟨rfl, ⟨g.1.trans (ho.below (Nat.le_of_lt g.2.lt) (fun k e => Nat.le_of_eq e.symm)), hb⟩, ho⟩⟩ hc f i n q [] (w.alloc (.cells #[.bool true] 4)) ⟨B0.out, K0.out⟩ (fun k e => by subst e; exact K0.out.lt) hi hkb hD (by omega))
  have c0 : ∀ b, ((w.alloc (.cells #[.bool b] 4)).cell? ⟨w.heap.size, 0, none⟩) = some (.bool b) := fun b => (Blk.new w 4 [.bool b]).cell 0
  clear h hi hkb hD hq
  unfold ptrN at *
  go_enter Tryz.func132, Tryz.ntmps132
  go_wp2_with fail
  refine HW.out.mono ?_
  rintro e w1 ⟨rfl, ⟨hb1, hk1⟩, ho1⟩
  rw [List.nil_append] at hk1
  have c1 : w1.cell? ⟨w.heap.size, 0, none⟩ = some (.bool (rightAll (eachL N (f + 1) q i))) := hk1.cell 0
  have B1 := Lib.hid hb1
  clear hb1 hk1 ho1
  go_wp2_with fail
  go_ret
  exact ⟨rfl, B1.out⟩
end Go.Proofs.YtlbbehfbjbbckaaGreatDoor
