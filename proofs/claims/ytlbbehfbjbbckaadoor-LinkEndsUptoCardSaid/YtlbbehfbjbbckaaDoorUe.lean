import Derived.Test.YtlbbehfbjbbckaaDoorUd
import Derived.Test.YtlbbehfbjbbckaaDoorUb
/-! A tree, plainly: its names, what they name; what an act does to it. -/
set_option linter.unusedVariables false
set_option linter.unusedSimpArgs false
namespace Go.Proofs.YtlbbehfbjbbckaaDoor
open Go.RowKit

structure Th where
  kind : Int
  mt : Mt
  target : ByteArray
  data : List UInt8
/-- Names, each with the number of what it names; what has a number; the number that comes next. -/
structure St where
  ls : List (List UInt8 × Int)
  th : Int → Th
  next : Int
def St.at (S : St) (p : List UInt8) : Option Int := S.ls.lookup p
def St.look (S : St) (p : List UInt8) : Option Int × Int :=
  if rightB p = false then (none, 9) else if p = [] then (some 1, 0)
  else match S.at (parentB p) with
    | none => (none, 10)
    | some d => if (S.th d).kind = 2 then (S.at p, 0) else (none, 12)
def thereS (r : Option Int × Int) : Option Int × Int := if r.2 = 0 ∧ r.1 = none then (r.1, 10) else r
def freshS (r : Option Int × Int) : Int := if r.2 = 0 ∧ r.1 ≠ none then 11 else r.2
def setT (f : Int → Th) (i : Int) (t : Th) : Int → Th := fun j => if j = i then t else f j
def St.add (S : St) (p : List UInt8) (t : Th) : St := ⟨S.ls ++ [(p, S.next)], setT S.th S.next t, S.next + 1⟩
def newS : St := ⟨[([], 1)], fun _ => ⟨2, ⟨493, 0, 0, 0, 0⟩, ⟨#[]⟩, []⟩, 2⟩
def St.mkdir (S : St) (p : List UInt8) (m : Mt) : Int × St :=
  if mayU p m ≠ 0 then (mayU p m, S) else if freshS (S.look p) ≠ 0 then (freshS (S.look p), S) else (0, S.add p ⟨2, m, ⟨#[]⟩, []⟩)
def St.symlink (S : St) (p : List UInt8) (tg : ByteArray) (m : Mt) : Int × St :=
  if mayU p m ≠ 0 then (mayU p m, S) else if tg.size = 0 then (2, S) else if 200 < tg.size then (7, S)
  else if freshS (S.look p) ≠ 0 then (freshS (S.look p), S) else (0, S.add p ⟨3, m, tg, []⟩)
def St.write (S : St) (p : List UInt8) (b : List UInt8) (m : Mt) : Int × St :=
  if mayU p m ≠ 0 then (mayU p m, S) else if 65536 < b.length then (7, S)
  else if (S.look p).2 ≠ 0 then ((S.look p).2, S)
  else match (S.look p).1 with
    | none => (0, S.add p ⟨1, m, ⟨#[]⟩, b⟩)
    | some i => if fileU (S.th i).kind ≠ 0 then (fileU (S.th i).kind, S) else (0, { S with th := setT S.th i { S.th i with mt := m, data := b } })
def St.set (S : St) (p : List UInt8) (m : Mt) : Int × St :=
  if mayU p m ≠ 0 then (mayU p m, S) else match thereS (S.look p) with
    | (some i, e) => if e ≠ 0 then (e, S) else (0, { S with th := setT S.th i { S.th i with mt := m } })
    | (none, e) => (e, S)
def St.append (S : St) (p b : List UInt8) : Int × St :=
  match thereS (S.look p) with
    | (some i, e) => if e ≠ 0 then (e, S) else if fileU (S.th i).kind ≠ 0 then (fileU (S.th i).kind, S)
      else if 65536 < (S.th i).data.length + b.length then (7, S) else (0, { S with th := setT S.th i { S.th i with data := (S.th i).data ++ b } })
    | (none, e) => (e, S)
def linkR (S : St) (p : List UInt8) (fe : Int) : Option Int × Int → Int × St
  | (some i, e) => if e ≠ 0 then (e, S) else if fileU (S.th i).kind ≠ 0 then (fileU (S.th i).kind, S)
      else if fe ≠ 0 then (fe, S) else (0, { S with ls := S.ls ++ [(p, i)] })
  | (none, e) => (e, S)
def St.link (S : St) (old p : List UInt8) : Int × St :=
  if rightB old = false ∨ rightB p = false then (9, S) else linkR S p (freshS (S.look p)) (thereS (S.look old))
def St.hasIn (S : St) (p : List UInt8) : Bool := S.ls.any (fun x => x.1 != [] && parentB x.1 == p)
def removeR (S : St) (p : List UInt8) : Option Int × Int → Int × St
  | (some i, e) => if e ≠ 0 then (e, S) else if S.hasIn p = true then (14, S) else (0, { S with ls := S.ls.filter (fun x => x.1 != p) })
  | (none, e) => (e, S)
def St.remove (S : St) (p : List UInt8) : Int × St :=
  if rightB p = false then (9, S) else if p = [] then (2, S) else removeR S p (thereS (S.look p))
def St.kindS (S : St) (p : List UInt8) : Option (Int × List UInt8) :=
  match thereS (S.look p) with
  | (some i, e) => if e = 0 then some ((S.th i).kind, (S.th i).target.data.toList) else none
  | (none, _) => none
/-- What holds of such a tree, always. -/
structure OkS (S : St) : Prop where
  nodup : S.ls.Pairwise (fun x y => x.1 ≠ y.1)
  right : ∀ x ∈ S.ls, rightB x.1 = true
  top : S.at [] = some 1
  lt : ∀ x ∈ S.ls, 1 ≤ x.2 ∧ x.2 < S.next
  one : ∀ x ∈ S.ls, ∀ y ∈ S.ls, x.2 = y.2 → (S.th x.2).kind ≠ 1 → x.1 = y.1
  kind : ∀ x ∈ S.ls, (S.th x.2).kind = 1 ∨ (S.th x.2).kind = 2 ∨ (S.th x.2).kind = 3
  kind1 : (S.th 1).kind = 2
  tgt : ∀ i, (S.th i).target.size ≤ 200 ∧ (S.th i).data.length ≤ 65536
  up : ∀ x ∈ S.ls, x.1 ≠ [] → ∃ d, S.at (parentB x.1) = some d ∧ (S.th d).kind = 2
theorem lookup_mem {α β : Type} [BEq α] [LawfulBEq α] {l : List (α × β)} {a : α} {b : β} (h : l.lookup a = some b) : (a, b) ∈ l := by
  induction l with
  | nil => simp at h
  | cons x l ih =>
    obtain ⟨x1, x2⟩ := x
    rw [List.lookup_cons] at h
    by_cases e : a = x1
    · subst e
      simp only [BEq.rfl] at h
      cases h
      exact List.mem_cons_self ..
    · have : (a == x1) = false := by simpa using e
      rw [this] at h
      exact List.mem_cons_of_mem _ (ih h)
theorem mem_lookup {α β : Type} [BEq α] [LawfulBEq α] {l : List (α × β)} (hn : l.Pairwise (fun x y => x.1 ≠ y.1)) {a : α} {b : β} (h : (a, b) ∈ l) : l.lookup a = some b := by
  induction l with
  | nil => cases h
  | cons x l ih =>
    obtain ⟨x1, x2⟩ := x
    rw [List.lookup_cons]
    obtain ⟨h1, h2⟩ := List.pairwise_cons.1 hn
    by_cases e : a = x1
    · subst e
      simp only [BEq.rfl]
      rcases List.mem_cons.1 h with h | h
      · cases h; rfl
      · exact absurd (show (a, x2).1 = (a, b).1 from rfl) (h1 (a, b) h)
    · have : (a == x1) = false := by simpa using e
      rw [this]
      rcases List.mem_cons.1 h with h | h
      · cases h; exact absurd rfl e
      · exact ih h2 h
theorem OkS.at_iff {S : St} (h : OkS S) (p : List UInt8) (i : Int) : S.at p = some i ↔ (p, i) ∈ S.ls := ⟨lookup_mem, mem_lookup h.nodup⟩
theorem lookup_append {α β : Type} [BEq α] [LawfulBEq α] (l l' : List (α × β)) (a : α) : (l ++ l').lookup a = (l.lookup a).or (l'.lookup a) := by
  induction l with
  | nil => simp
  | cons x l ih =>
    obtain ⟨x1, x2⟩ := x
    rw [List.cons_append, List.lookup_cons, List.lookup_cons]
    split
    · rfl
    · exact ih
theorem St.add_at (S : St) (p : List UInt8) (t : Th) (q : List UInt8) (hp : S.at p = none) : (S.add p t).at q = if q = p then some S.next else S.at q := by
  unfold St.at St.add at *
  rw [lookup_append]
  by_cases e : q = p
  · subst e
    rw [hp, if_pos rfl]; simp
  · rw [if_neg e]
    have : (q == p) = false := by simpa using e
    simp [List.lookup_cons, this]
theorem look_fresh {S : St} {p : List UInt8} (h : S.look p = (none, 0)) : rightB p = true ∧ p ≠ [] ∧ S.at p = none ∧ ∃ d, S.at (parentB p) = some d ∧ (S.th d).kind = 2 := by
  unfold St.look at h
  by_cases h1 : rightB p = false
  · rw [if_pos h1] at h; simp at h
  rw [if_neg h1] at h
  by_cases h2 : p = []
  · rw [if_pos h2] at h; simp at h
  rw [if_neg h2] at h
  cases hd : S.at (parentB p) with
  | none => rw [hd] at h; simp at h
  | some d =>
    rw [hd] at h
    simp only at h
    by_cases hk : (S.th d).kind = 2
    · rw [if_pos hk] at h
      simp only [Prod.mk.injEq, and_true] at h
      exact ⟨by simpa using h1, h2, h, d, rfl, hk⟩
    · rw [if_neg hk] at h; simp at h
theorem setT_same (f : Int → Th) (i : Int) (t : Th) : setT f i t i = t := if_pos rfl
theorem setT_other (f : Int → Th) {i j : Int} (t : Th) (h : j ≠ i) : setT f i t j = f j := if_neg h
theorem OkS.add {S : St} (h : OkS S) {p : List UInt8} (hl : S.look p = (none, 0)) {t : Th} (hk : t.kind = 1 ∨ t.kind = 2 ∨ t.kind = 3) (ht : t.target.size ≤ 200 ∧ t.data.length ≤ 65536) : OkS (S.add p t) := by
  obtain ⟨h1, h2, h3, d, h4, h5⟩ := look_fresh hl
  have htop := h.lt _ ((h.at_iff [] 1).1 h.top)
  have hno : ∀ x ∈ S.ls, x.1 ≠ p := fun x hx e => by
    have := (h.at_iff x.1 x.2).2 hx
    rw [e, h3] at this; cases this
  have hth : ∀ x ∈ S.ls, (S.add p t).th x.2 = S.th x.2 := fun x hx => setT_other _ _ (by have := (h.lt x hx).2; omega)
  have hnew : (S.add p t).th S.next = t := setT_same ..
  refine ⟨List.pairwise_append.2 ⟨h.nodup, List.pairwise_singleton .., fun x hx y hy => ?_⟩, fun x hx => ?_, ?_, fun x hx => ?_, fun x hx y hy he hne => ?_, fun x hx => ?_, ?_, fun i => ?_, fun x hx hne => ?_⟩
  · rw [List.mem_singleton] at hy; subst hy; exact hno x hx
  · rcases List.mem_append.1 hx with hx | hx
    · exact h.right x hx
    · rw [List.mem_singleton] at hx; subst hx; exact h1
  · rw [St.add_at S p t [] h3, if_neg (fun e => h2 e.symm)]; exact h.top
  · rcases List.mem_append.1 hx with hx | hx
    · have := h.lt x hx
      exact ⟨this.1, by show x.2 < S.next + 1; omega⟩
    · rw [List.mem_singleton] at hx; subst hx
      exact ⟨by show 1 ≤ S.next; omega, by show S.next < S.next + 1; omega⟩
  · rcases List.mem_append.1 hx with hx | hx
    · rcases List.mem_append.1 hy with hy | hy
      · rw [hth x hx] at hne; exact h.one x hx y hy he hne
      · rw [List.mem_singleton] at hy; subst hy
        have := (h.lt x hx).2
        have he' : x.2 = S.next := he
        omega
    · rw [List.mem_singleton] at hx; subst hx
      rcases List.mem_append.1 hy with hy | hy
      · have := (h.lt y hy).2
        have he' : S.next = y.2 := he
        omega
      · rw [List.mem_singleton] at hy; subst hy; rfl
  · rcases List.mem_append.1 hx with hx | hx
    · rw [hth x hx]; exact h.kind x hx
    · rw [List.mem_singleton] at hx; subst hx
      show ((S.add p t).th S.next).kind = 1 ∨ _
      rw [hnew]; exact hk
  · show (setT S.th S.next t 1).kind = 2
    rw [setT_other _ _ (by have : (1 : Int) < S.next := htop.2; omega)]; exact h.kind1
  · show (setT S.th S.next t i).target.size ≤ 200 ∧ (setT S.th S.next t i).data.length ≤ 65536
    by_cases e : i = S.next
    · subst e; rw [setT_same]; exact ht
    · rw [setT_other _ _ e]; exact h.tgt i
  · have hpar : ∀ q e, S.at q = some e → (S.add p t).at q = some e ∧ (S.add p t).th e = S.th e := fun q e he => by
      have hm := (h.at_iff q e).1 he
      refine ⟨by rw [St.add_at S p t q h3, if_neg (fun e' => by rw [e', h3] at he; cases he)]; exact he, hth _ hm⟩
    rcases List.mem_append.1 hx with hx | hx
    · obtain ⟨e, he, hk⟩ := h.up x hx hne
      obtain ⟨a, b⟩ := hpar _ e he
      exact ⟨e, a, by rw [b]; exact hk⟩
    · rw [List.mem_singleton] at hx; subst hx
      obtain ⟨a, b⟩ := hpar _ d h4
      exact ⟨d, a, by rw [b]; exact h5⟩
theorem OkS.set {S : St} (h : OkS S) (i : Int) (t : Th) (hk : t.kind = (S.th i).kind) (ht : t.target.size ≤ 200 ∧ t.data.length ≤ 65536) : OkS { S with th := setT S.th i t } := by
  have hkk : ∀ j, (setT S.th i t j).kind = (S.th j).kind := fun j => by
    by_cases e : j = i
    · subst e; rw [setT_same, hk]
    · rw [setT_other _ _ e]
  refine ⟨h.nodup, h.right, h.top, h.lt, fun x hx y hy he hne => h.one x hx y hy he (by rw [← hkk]; exact hne), fun x hx => ?_, ?_, fun j => ?_, fun x hx hne => ?_⟩
  · have := h.kind x hx
    simp only [hkk]; exact this
  · simp only [hkk]; exact h.kind1
  · show (setT S.th i t j).target.size ≤ 200 ∧ (setT S.th i t j).data.length ≤ 65536
    by_cases e : j = i
    · subst e; rw [setT_same]; exact ht
    · rw [setT_other _ _ e]; exact h.tgt j
  · obtain ⟨d, h1, h2⟩ := h.up x hx hne
    exact ⟨d, h1, by show (setT S.th i t d).kind = 2; rw [hkk]; exact h2⟩
theorem there_at {S : St} (h : OkS S) {p : List UInt8} {i : Int} (hl : thereS (S.look p) = (some i, 0)) : S.at p = some i ∧ rightB p = true := by
  have hl2 : S.look p = (some i, 0) := by
    unfold thereS at hl
    split at hl
    · simp at hl
    · exact hl
  clear hl
  have hl := hl2
  unfold St.look at hl
  by_cases h1 : rightB p = false
  · rw [if_pos h1] at hl; simp at hl
  rw [if_neg h1] at hl
  have hr : rightB p = true := by simpa using h1
  by_cases h2 : p = []
  · rw [if_pos h2] at hl
    simp only [Prod.mk.injEq, Option.some.injEq, and_true] at hl
    subst h2
    rw [← hl]
    exact ⟨h.top, hr⟩
  rw [if_neg h2] at hl
  cases hd : S.at (parentB p) with
  | none => rw [hd] at hl; simp at hl
  | some d =>
    rw [hd] at hl
    simp only at hl
    split at hl
    · simp only [Prod.mk.injEq, and_true] at hl
      exact ⟨hl, hr⟩
    · simp at hl
theorem okS_new : OkS newS := by
  refine ⟨List.pairwise_singleton .., fun x hx => ?_, rfl, fun x hx => ?_, fun x hx y hy _ _ => ?_, fun x hx => .inr (.inl rfl), rfl, fun _ => ⟨Nat.zero_le _, Nat.zero_le _⟩, fun x hx hne => ?_⟩
  · rw [show newS.ls = [([], 1)] from rfl, List.mem_singleton] at hx; subst hx; rfl
  · rw [show newS.ls = [([], 1)] from rfl, List.mem_singleton] at hx; subst hx; exact ⟨Int.le_refl _, by decide⟩
  · rw [show newS.ls = [([], 1)] from rfl, List.mem_singleton] at hx hy; rw [hx, hy]
  · rw [show newS.ls = [([], 1)] from rfl, List.mem_singleton] at hx; subst hx; exact absurd rfl hne
end Go.Proofs.YtlbbehfbjbbckaaDoor

/-! A tree in memory is a plain one: what is looked up. -/
set_option linter.unusedVariables false
set_option linter.unusedSimpArgs false
namespace Go.Proofs.YtlbbehfbjbbckaaDoor
open Go.RowKit

def thN (n : Nd) : Th := ⟨n.kind, ⟨n.m0, n.m1, n.m2, n.m3, n.m4⟩, n.target, n.data⟩
def SameO (N : Nat → Option Nd) (o : Option Nat) (a : Option Int) : Prop :=
  match o, a with
  | none, none => True
  | some j, some i => ∃ n, N j = some n ∧ n.ino = i
  | _, _ => False
structure Rep (N : Nat → Option Nd) (top : Nat) (S : St) : Prop where
  rep : ∀ p, rightB p = true → SameO N (atN N (some top) (splitB p)) (S.at p)
  only : ∀ X j, atN N (some top) X = some j → ∃ p, rightB p = true ∧ splitB p = X
  inj : ∀ i j n m, N i = some n → N j = some m → n.ino = m.ino → i = j
  info : ∀ j n, N j = some n → S.th n.ino = thN n
  lt : ∀ j n, N j = some n → 1 ≤ n.ino ∧ n.ino < S.next
  links : ∀ j n, N j = some n → n.links = ((S.ls.countP (fun x => x.2 == n.ino) : Nat) : Int)
  leaf : ∀ j n, N j = some n → n.kind ≠ 2 → ∀ s, n.kids s = none
  closed : ∀ i n s j, N i = some n → n.kids s = some j → ∃ m, N j = some m
  root : ∃ n, N top = some n
theorem atN_append (N : Nat → Option Nd) : ∀ (X Y : List (List UInt8)) (c : Option Nat), atN N c (X ++ Y) = atN N (atN N c X) Y
  | [], Y, c => by cases c <;> rfl
  | x :: X, Y, none => by rw [List.cons_append, atN, atN, atN_none]
  | x :: X, Y, some i => by rw [List.cons_append, atN, atN, atN_append]
theorem atN_nil (N : Nat → Option Nd) (c : Option Nat) : atN N c [] = c := by cases c <;> rfl
theorem atN_one {N : Nat → Option Nd} {i : Nat} {n : Nd} (h : N i = some n) (x : List UInt8) : atN N (some i) [x] = n.kids x := by rw [atN_step h, atN_nil]
theorem SameO.none_iff {N : Nat → Option Nd} {o : Option Nat} {a : Option Int} (h : SameO N o a) : o = none ↔ a = none := by
  cases o <;> cases a <;> simp [SameO] at h ⊢
theorem SameO.some {N : Nat → Option Nd} {j : Nat} {a : Option Int} (h : SameO N (some j) a) : ∃ n, N j = some n ∧ a = some n.ino := by
  cases a with
  | none => exact absurd h (by simp [SameO])
  | some i => obtain ⟨n, h1, h2⟩ := h; exact ⟨n, h1, by rw [h2]⟩
theorem Rep.parent {N : Nat → Option Nd} {top : Nat} {p : List UInt8} (hp : p ≠ []) (hr : rightB p = true) {d : Nat} {n : Nd} (hd : atN N (some top) (splitB (parentB p)) = some d) (hn : N d = some n) : atN N (some top) (splitB p) = n.kids (baseB p) := by
  rw [split_parent hp hr, atN_append, hd, atN_one hn]
/-- What is looked up is the same. -/
theorem Rep.look {N : Nat → Option Nd} {top : Nat} {S : St} (h : Rep N top S) (ho : OkS S) (p : List UInt8) : SameO N (lookN N top p).1 (S.look p).1 ∧ (lookN N top p).2.2 = (S.look p).2 := by
  unfold lookN St.look
  by_cases h1 : rightB p = false
  · rw [if_pos h1, if_pos h1]; exact ⟨trivial, rfl⟩
  rw [if_neg h1, if_neg h1]
  have hr : rightB p = true := by simpa using h1
  by_cases h2 : p = []
  · rw [if_pos h2, if_pos h2]
    have := h.rep [] rfl
    rw [splitB_nil, atN_nil, ho.top] at this
    exact ⟨this, rfl⟩
  rw [if_neg h2, if_neg h2]
  have hpar := h.rep (parentB p) (rightB_parent hr)
  cases hd : atN N (some top) (splitB (parentB p)) with
  | none =>
    rw [hd] at hpar
    rw [(hpar.none_iff).1 rfl]
    exact ⟨trivial, rfl⟩
  | some d =>
    rw [hd] at hpar
    obtain ⟨n, hn, he⟩ := hpar.some
    rw [he]
    simp only [hn]
    have hk : (S.th n.ino).kind = n.kind := by rw [h.info d n hn]; rfl
    rw [hk]
    by_cases hkd : n.kind = 2
    · rw [if_pos hkd, if_pos hkd]
      refine ⟨?_, rfl⟩
      have := h.rep p hr
      rwa [Rep.parent h2 hr hd hn] at this
    · rw [if_neg hkd, if_neg hkd]; exact ⟨trivial, rfl⟩
theorem Rep.there {N : Nat → Option Nd} {top : Nat} {S : St} (h : Rep N top S) (ho : OkS S) (p : List UInt8) : SameO N (thereU (lookN N top p)).1 (thereS (S.look p)).1 ∧ (thereU (lookN N top p)).2.2 = (thereS (S.look p)).2 := by
  obtain ⟨h1, h2⟩ := h.look ho p
  generalize lookN N top p = l at *
  obtain ⟨o, d, e⟩ := l
  simp only at h1 h2
  unfold thereU thereS
  simp only [h2, h1.none_iff]
  split
  · exact ⟨h1, rfl⟩
  · exact ⟨h1, rfl⟩
theorem Rep.fresh {N : Nat → Option Nd} {top : Nat} {S : St} (h : Rep N top S) (ho : OkS S) (p : List UInt8) : (freshU (lookN N top p)).2 = freshS (S.look p) := by
  obtain ⟨h1, h2⟩ := h.look ho p
  generalize lookN N top p = l at *
  obtain ⟨o, d, e⟩ := l
  simp only at h1 h2
  unfold freshU freshS
  simp only [h2, ne_eq, h1.none_iff]
  split <;> rfl
theorem Rep.kind {N : Nat → Option Nd} {top : Nat} {S : St} (h : Rep N top S) (ho : OkS S) (p : List UInt8) : kindP N top p = S.kindS p := by
  obtain ⟨h1, h2⟩ := h.there ho p
  unfold kindP St.kindS
  generalize thereU (lookN N top p) = l at *
  generalize thereS (S.look p) = l' at *
  obtain ⟨o, d, e⟩ := l
  obtain ⟨a, e'⟩ := l'
  simp only at h1 h2
  subst h2
  cases o with
  | none => rw [(h1.none_iff).1 rfl]
  | some j =>
    obtain ⟨n, hn, rfl⟩ := h1.some
    simp only [hn, Option.map_some]
    rw [h.info j n hn]
    rfl
theorem Rep.tgt {N : Nat → Option Nd} {top : Nat} {S : St} (h : Rep N top S) (ho : OkS S) : ∀ i n, N i = some n → n.target.size ≤ 200 := fun i n hn => by
  have := (ho.tgt n.ino).1
  rwa [h.info i n hn] at this
theorem Rep.dat {N : Nat → Option Nd} {top : Nat} {S : St} (h : Rep N top S) (ho : OkS S) : ∀ i n, N i = some n → n.data.length ≤ 65536 := fun i n hn => by
  have := (ho.tgt n.ino).2
  rwa [h.info i n hn] at this
def kidsOf (N : Nat → Option Nd) (i : Nat) (x : List UInt8) : Option Nat := (N i).bind (fun n => n.kids x)
theorem atN_cons (N : Nat → Option Nd) (i : Nat) (x : List UInt8) (r : List (List UInt8)) : atN N (some i) (x :: r) = atN N (kidsOf N i x) r := rfl
/-- One name in one directory changes: what does not pass it stays. -/
theorem atN_keep {N N' : Nat → Option Nd} {d : Nat} {b : List UInt8} (h1 : ∀ i, i ≠ d → kidsOf N' i = kidsOf N i) (h2 : ∀ y, y ≠ b → kidsOf N' d y = kidsOf N d y) :
    ∀ (X : List (List UInt8)) (c : Option Nat), (∀ Y Z, X = Y ++ b :: Z → atN N c Y ≠ some d) → atN N' c X = atN N c X
  | [], c, _ => by cases c <;> rfl
  | x :: r, none, _ => by rw [atN_none, atN_none]
  | x :: r, some i, h => by
    have he : kidsOf N' i x = kidsOf N i x := by
      by_cases hi : i = d
      · subst hi
        exact h2 x (fun e => h [] r (by rw [e]; rfl) rfl)
      · rw [h1 i hi]
    rw [atN_cons, atN_cons, he]
    exact atN_keep h1 h2 r _ (fun Y Z e => by
      have := h (x :: Y) Z (by rw [e]; rfl)
      rwa [atN_cons] at this)
/-- .. from the top, to a directory that has one name. -/
theorem atN_off {N N' : Nat → Option Nd} {top d : Nat} {b : List UInt8} {D : List (List UInt8)} (h1 : ∀ i, i ≠ d → kidsOf N' i = kidsOf N i) (h2 : ∀ y, y ≠ b → kidsOf N' d y = kidsOf N d y) (hu : ∀ X, atN N (some top) X = some d → X = D) (X : List (List UInt8)) (hX : ∀ Z, X ≠ D ++ b :: Z) :
    atN N' (some top) X = atN N (some top) X := atN_keep h1 h2 X _ (fun Y Z e hy => hX Z (by rw [e, hu Y hy]))
theorem atN_on {N N' : Nat → Option Nd} {top d : Nat} {b : List UInt8} {D : List (List UInt8)} (h1 : ∀ i, i ≠ d → kidsOf N' i = kidsOf N i) (h2 : ∀ y, y ≠ b → kidsOf N' d y = kidsOf N d y) (hu : ∀ X, atN N (some top) X = some d → X = D) (hd : atN N (some top) D = some d) (Z : List (List UInt8)) :
    atN N' (some top) (D ++ b :: Z) = atN N' (kidsOf N' d b) Z := by
  rw [atN_append, atN_off h1 h2 hu D (fun Z e => by have := congrArg List.length e; simp at this), hd, atN_cons]
/-- A directory of a tree has one name. -/
theorem Rep.uniq {N : Nat → Option Nd} {top : Nat} {S : St} (h : Rep N top S) (ho : OkS S) {d : Nat} {n : Nd} (hn : N d = some n) (hk : n.kind ≠ 1) {X Y : List (List UInt8)} (hX : atN N (some top) X = some d) (hY : atN N (some top) Y = some d) : X = Y := by
  obtain ⟨p, hp, rfl⟩ := h.only X d hX
  obtain ⟨q, hq, rfl⟩ := h.only Y d hY
  have h1 := h.rep p hp
  have h2 := h.rep q hq
  rw [hX] at h1
  rw [hY] at h2
  obtain ⟨n1, e1, e2⟩ := h1.some
  obtain ⟨n2, e3, e4⟩ := h2.some
  rw [hn, Option.some.injEq] at e1 e3
  subst e1; subst e3
  have := ho.one _ ((ho.at_iff _ _).1 e2) _ ((ho.at_iff _ _).1 e4) rfl (by rw [h.info d n hn]; exact hk)
  exact congrArg splitB this
/-- What a leaf leads to. -/
theorem atN_leaf {N : Nat → Option Nd} {k : Nat} (hk : ∀ s, kidsOf N k s = none) (Z : List (List UInt8)) : atN N (some k) Z = if Z = [] then some k else none := by
  cases Z with
  | nil => rfl
  | cons x r => rw [atN_cons, hk, atN_none, if_neg (by simp)]
end Go.Proofs.YtlbbehfbjbbckaaDoor

/-! A tree in memory is a plain one: a new one; one more name. -/
set_option linter.unusedVariables false
set_option linter.unusedSimpArgs false
namespace Go.Proofs.YtlbbehfbjbbckaaDoor
open Go.RowKit

theorem lookN_fresh {N : Nat → Option Nd} {top : Nat} {p : List UInt8} {o : Option Nat} {d : Nat} (h : lookN N top p = (o, some d, 0)) : rightB p = true ∧ p ≠ [] ∧ atN N (some top) (splitB (parentB p)) = some d ∧ ∃ m, N d = some m ∧ m.kind = 2 ∧ m.kids (baseB p) = o := by
  unfold lookN at h
  by_cases h1 : rightB p = false
  · rw [if_pos h1] at h; simp at h
  rw [if_neg h1] at h
  by_cases h2 : p = []
  · rw [if_pos h2] at h; simp at h
  rw [if_neg h2] at h
  cases hd : atN N (some top) (splitB (parentB p)) with
  | none => rw [hd] at h; simp at h
  | some d' =>
    rw [hd] at h
    cases hm : N d' with
    | none => simp only [hm] at h; simp at h
    | some m =>
      simp only [hm] at h
      by_cases hk : m.kind = 2
      · rw [if_pos hk] at h
        simp only [Prod.mk.injEq, Option.some.injEq, and_true] at h
        obtain ⟨h3, rfl⟩ := h
        exact ⟨by simpa using h1, h2, rfl, m, hm, hk, h3⟩
      · rw [if_neg hk] at h; simp at h
theorem rep_new (top kb : Nat) : Rep (N0 top kb) top newS := by
  have hx : ∀ s, kidsOf (N0 top kb) top s = none := fun s => by unfold kidsOf; rw [N0_top]; rfl
  refine ⟨fun p hp => ?_, fun X j h => ?_, fun i j n m hi hj _ => ?_, fun j n hj => ?_, fun j n hj => ?_, fun j n hj => ?_, fun j n hj _ s => ?_, fun i n s j hi hs => ?_, ⟨_, N0_top top kb⟩⟩
  · rw [atN_leaf hx]
    by_cases h : p = []
    · subst h; exact ⟨_, N0_top top kb, rfl⟩
    · rw [if_neg (fun e => h (splitB_nil_iff.1 e))]
      have : newS.at p = none := by
        unfold St.at newS
        have : (p == []) = false := by simpa using h
        simp [List.lookup_cons, this]
      rw [this]; trivial
  · rw [atN_leaf hx] at h
    by_cases hX : X = []
    · exact ⟨[], rfl, hX.symm⟩
    · rw [if_neg hX] at h; cases h
  · rw [(N0_some hi).1, (N0_some hj).1]
  · obtain ⟨rfl, rfl⟩ := N0_some hj; rfl
  · obtain ⟨rfl, rfl⟩ := N0_some hj; exact ⟨Int.le_refl _, (by decide : (1 : Int) < 2)⟩
  · obtain ⟨rfl, rfl⟩ := N0_some hj; rfl
  · obtain ⟨rfl, rfl⟩ := N0_some hj; rfl
  · obtain ⟨rfl, rfl⟩ := N0_some hi; cases hs
theorem addN_same {N : Nat → Option Nd} {d n i : Nat} {x m : Nd} {s : List UInt8} (h : N i = some m) (hn : i ≠ n) : ∃ m', addN N d n x s i = some m' ∧ thN m' = thN m ∧ m'.ino = m.ino ∧ m'.links = m.links := by
  by_cases hd : i = d
  · subst hd
    exact ⟨_, addN_dir x s h hn, rfl, rfl, rfl⟩
  · exact ⟨m, by rw [addN_old x s hn hd]; exact h, rfl, rfl, rfl⟩
theorem addN_from {N : Nat → Option Nd} {d n i : Nat} {x m' : Nd} {s : List UInt8} (h : addN N d n x s i = some m') : (i = n ∧ m' = x) ∨ (i ≠ n ∧ ∃ m, N i = some m ∧ thN m' = thN m ∧ m'.ino = m.ino ∧ m'.links = m.links ∧ ((i = d ∧ m'.kids = kidsAdd m.kids s n) ∨ (i ≠ d ∧ m'.kids = m.kids))) := by
  by_cases hn : i = n
  · subst hn; rw [addN_new, Option.some.injEq] at h; exact .inl ⟨rfl, h.symm⟩
  · by_cases hd : i = d
    · subst hd
      unfold addN at h
      rw [if_neg hn, if_pos rfl] at h
      cases hm : N i with
      | none => rw [hm] at h; cases h
      | some m =>
        rw [hm] at h
        simp only [Option.map_some, Option.some.injEq] at h
        subst h
        exact .inr ⟨hn, m, rfl, rfl, rfl, rfl, .inl ⟨rfl, rfl⟩⟩
    · rw [addN_old x s hn hd] at h
      exact .inr ⟨hn, m', h, rfl, rfl, rfl, .inr ⟨hd, rfl⟩⟩
theorem kidsOf_some {N : Nat → Option Nd} {i : Nat} {m : Nd} (h : N i = some m) : kidsOf N i = m.kids := by funext y; unfold kidsOf; rw [h]; rfl
theorem kidsOf_none {N : Nat → Option Nd} {i : Nat} (h : N i = none) : kidsOf N i = fun _ => none := by funext y; unfold kidsOf; rw [h]; rfl
theorem countP_fresh {l : List (List UInt8 × Int)} {i : Int} (h : ∀ x ∈ l, x.2 < i) : l.countP (fun x => x.2 == i) = 0 := by
  rw [List.countP_eq_zero]
  intro x hx
  have := h x hx
  simp; omega
/-- One more name, of a new thing. -/
theorem Rep.put {N : Nat → Option Nd} {top d n : Nat} {S : St} {p : List UInt8} {x : Nd} (h : Rep N top S) (ho : OkS S) (hl : lookN N top p = (none, some d, 0)) (hN : N n = none) (hxk : ∀ s, x.kids s = none) (hxi : x.ino = S.next) (hxl : x.links = 1) : Rep (addN N d n x (baseB p)) top (S.add p (thN x)) := by
  obtain ⟨hr, hp, hd, m, hm, hmk, hmb⟩ := lookN_fresh hl
  have hat : S.at p = none := by
    have := h.rep p hr
    rw [Rep.parent hp hr hd hm, hmb] at this
    exact (this.none_iff).1 rfl
  have hdn : d ≠ n := fun e => by rw [e, hN] at hm; cases hm
  have hsp := split_parent hp hr
  have h1 : ∀ i, i ≠ d → kidsOf (addN N d n x (baseB p)) i = kidsOf N i := fun i hi => by
    by_cases hn : i = n
    · subst hn
      rw [kidsOf_some (addN_new ..), kidsOf_none hN]
      funext y; exact hxk y
    · unfold kidsOf; rw [addN_old x _ hn hi]
  have h2 : ∀ y, y ≠ baseB p → kidsOf (addN N d n x (baseB p)) d y = kidsOf N d y := fun y hy => by
    rw [kidsOf_some (addN_dir x _ hm hdn), kidsOf_some hm]
    exact if_neg hy
  have hb : kidsOf (addN N d n x (baseB p)) d (baseB p) = some n := by
    rw [kidsOf_some (addN_dir x _ hm hdn)]
    exact if_pos rfl
  have hu : ∀ X, atN N (some top) X = some d → X = splitB (parentB p) := fun X hX => h.uniq ho hm (by rw [hmk]; decide) hX hd
  have hlf : ∀ s, kidsOf (addN N d n x (baseB p)) n s = none := fun s => by rw [kidsOf_some (addN_new ..)]; exact hxk s
  have hon : ∀ Z, atN (addN N d n x (baseB p)) (some top) (splitB (parentB p) ++ baseB p :: Z) = if Z = [] then some n else none := fun Z => by
    rw [atN_on h1 h2 hu hd, hb, atN_leaf hlf]
  have hoff := fun X hX => atN_off h1 h2 hu X hX
  have hsame : ∀ {o a}, SameO N o a → SameO (addN N d n x (baseB p)) o a := fun {o a} hs => by
    cases o with
    | none => cases a with
      | none => trivial
      | some i => exact absurd hs (by simp [SameO])
    | some j =>
      obtain ⟨m0, hm0, rfl⟩ := hs.some
      obtain ⟨m', e1, _, e2, _⟩ := addN_same (d := d) (n := n) (x := x) (s := baseB p) hm0 (fun e => by rw [e, hN] at hm0; cases hm0)
      exact ⟨m', e1, e2⟩
  have hth : ∀ j m0, N j = some m0 → (S.add p (thN x)).th m0.ino = S.th m0.ino := fun j m0 hj => setT_other _ _ (by have := (h.lt j m0 hj).2; omega)
  have hn1 : 1 ≤ S.next := by
    have := ho.lt _ ((ho.at_iff [] 1).1 ho.top)
    have h2 : (1 : Int) < S.next := this.2
    omega
  refine ⟨fun q hq => ?_, fun X j hX => ?_, fun i j m1 m2 hi hj he => ?_, fun j m' hj => ?_, fun j m' hj => ?_, fun j m' hj => ?_, fun j m' hj hk s => ?_, fun i m' s j hi hs => ?_, ?_⟩
  · rw [St.add_at S p (thN x) q hat]
    by_cases hqp : q = p
    · subst hqp
      rw [if_pos rfl, hsp, hon, if_pos rfl]
      exact ⟨x, addN_new .., hxi⟩
    · rw [if_neg hqp]
      by_cases hz : ∃ Z, splitB q = splitB (parentB p) ++ baseB p :: Z
      · obtain ⟨Z, hZ⟩ := hz
        have hZ0 : Z ≠ [] := fun e => hqp (splitB_inj (by rw [hZ, e, hsp]))
        rw [hZ, hon, if_neg hZ0]
        have := h.rep q hq
        rw [hZ, atN_append, hd, atN_cons, kidsOf_some hm, hmb, atN_none] at this
        rw [(this.none_iff).1 rfl]; trivial
      · rw [hoff _ (fun Z e => hz ⟨Z, e⟩)]
        exact hsame (h.rep q hq)
  · by_cases hz : ∃ Z, X = splitB (parentB p) ++ baseB p :: Z
    · obtain ⟨Z, rfl⟩ := hz
      rw [hon] at hX
      by_cases hZ : Z = []
      · subst hZ; exact ⟨p, hr, hsp⟩
      · rw [if_neg hZ] at hX; cases hX
    · rw [hoff _ (fun Z e => hz ⟨Z, e⟩)] at hX
      exact h.only X j hX
  · rcases addN_from hi with ⟨rfl, rfl⟩ | ⟨g1, a0, ha0, e1, e2, e3, e4⟩
    · rcases addN_from hj with ⟨rfl, rfl⟩ | ⟨g2, b0, hb0, f1, f2, f3, f4⟩
      · rfl
      · have := (h.lt j b0 hb0).2
        rw [hxi, f2] at he; omega
    · rcases addN_from hj with ⟨rfl, rfl⟩ | ⟨g2, b0, hb0, f1, f2, f3, f4⟩
      · have := (h.lt i a0 ha0).2
        rw [hxi, e2] at he; omega
      · exact h.inj i j a0 b0 ha0 hb0 (by rw [← e2, ← f2]; exact he)
  · rcases addN_from hj with ⟨rfl, rfl⟩ | ⟨g1, a0, ha0, e1, e2, e3, e4⟩
    · rw [hxi]; exact setT_same ..
    · rw [e2, hth j a0 ha0, h.info j a0 ha0, e1]
  · rcases addN_from hj with ⟨rfl, rfl⟩ | ⟨g1, a0, ha0, e1, e2, e3, e4⟩
    · rw [hxi]; exact ⟨hn1, by show S.next < S.next + 1; omega⟩
    · rw [e2]
      have := h.lt j a0 ha0
      exact ⟨this.1, by show a0.ino < S.next + 1; omega⟩
  · show m'.links = (((S.ls ++ [(p, S.next)]).countP (fun x => x.2 == m'.ino) : Nat) : Int)
    rw [List.countP_append]
    rcases addN_from hj with ⟨rfl, rfl⟩ | ⟨g1, a0, ha0, e1, e2, e3, e4⟩
    · rw [hxl, hxi, countP_fresh (fun y hy => (ho.lt y hy).2)]
      simp
    · rw [e3, e2, h.links j a0 ha0]
      have := (h.lt j a0 ha0).2
      have : (S.next == a0.ino) = false := by
        have : ¬ S.next = a0.ino := by omega
        simpa using this
      simp [this]
  · rcases addN_from hj with ⟨rfl, rfl⟩ | ⟨g1, a0, ha0, e1, e2, e3, ⟨rfl, e4⟩ | ⟨g3, e4⟩⟩
    · exact hxk s
    · rw [hm, Option.some.injEq] at ha0
      subst ha0
      exact absurd (by rw [show m'.kind = (thN m').kind from rfl, e1]; exact hmk) hk
    · rw [e4]
      exact h.leaf j a0 ha0 (by rw [show a0.kind = (thN a0).kind from rfl, ← e1]; exact hk) s
  · have hex : ∀ j q, N j = some q → ∃ q', addN N d n x (baseB p) j = some q' := fun j q hq => by
      obtain ⟨q', hq', _⟩ := addN_is (d := d) (n := n) x (baseB p) hq
      exact ⟨q', hq'⟩
    rcases addN_from hi with ⟨rfl, rfl⟩ | ⟨g1, a0, ha0, e1, e2, e3, ⟨rfl, e4⟩ | ⟨g3, e4⟩⟩
    · rw [hxk s] at hs; cases hs
    · rw [e4] at hs
      unfold kidsAdd at hs
      by_cases hys : s = baseB p
      · rw [if_pos hys, Option.some.injEq] at hs
        subst hs
        exact ⟨x, addN_new ..⟩
      · rw [if_neg hys] at hs
        obtain ⟨q, hq⟩ := h.closed i a0 s j ha0 hs
        exact hex j q hq
    · rw [e4] at hs
      obtain ⟨q, hq⟩ := h.closed i a0 s j ha0 hs
      exact hex j q hq
  · obtain ⟨r, hr0⟩ := h.root
    obtain ⟨q', hq', _⟩ := addN_is (d := d) (n := n) x (baseB p) hr0
    exact ⟨q', hq'⟩
theorem kidsOf_set {N : Nat → Option Nd} {k : Nat} {x x' : Nd} (hk : N k = some x) (e : x'.kids = x.kids) (i : Nat) : kidsOf (setN N k x') i = kidsOf N i := by
  by_cases hi : i = k
  · subst hi; rw [kidsOf_some (setN_same ..), kidsOf_some hk, e]
  · unfold kidsOf; rw [setN_other x' hi]
theorem atN_kids {N N' : Nat → Option Nd} (h : ∀ i, kidsOf N' i = kidsOf N i) : ∀ (X : List (List UInt8)) (c : Option Nat), atN N' c X = atN N c X
  | [], c => by cases c <;> rfl
  | x :: r, none => by rw [atN_none, atN_none]
  | x :: r, some i => by rw [atN_cons, atN_cons, h]; exact atN_kids h r _
/-- A thing changes in place. -/
theorem Rep.set {N : Nat → Option Nd} {top k : Nat} {S : St} {x x' : Nd} (h : Rep N top S) (hk : N k = some x) (e1 : x'.kids = x.kids) (e2 : x'.ino = x.ino) (e3 : x'.links = x.links) (e4 : x'.kind = x.kind) : Rep (setN N k x') top { S with th := setT S.th x.ino (thN x') } := by
  have hat : ∀ X, atN (setN N k x') (some top) X = atN N (some top) X := fun X => atN_kids (kidsOf_set hk e1) X _
  have hfrom : ∀ {i m'}, setN N k x' i = some m' → ∃ m, N i = some m ∧ m'.kids = m.kids ∧ m'.ino = m.ino ∧ m'.links = m.links ∧ m'.kind = m.kind ∧ (i ≠ k → m' = m) ∧ (i = k → m' = x') := fun {i m'} hi => by
    rcases setN_some hi with ⟨rfl, rfl⟩ | ⟨hne, hm⟩
    · exact ⟨x, hk, e1, e2, e3, e4, fun h => absurd rfl h, fun _ => rfl⟩
    · exact ⟨m', hm, rfl, rfl, rfl, rfl, fun _ => rfl, fun h => absurd h hne⟩
  have hto : ∀ {i m}, N i = some m → ∃ m', setN N k x' i = some m' ∧ m'.ino = m.ino := fun {i m} hi => by
    by_cases e : i = k
    · subst e
      rw [hk, Option.some.injEq] at hi; subst hi
      exact ⟨x', setN_same .., e2⟩
    · exact ⟨m, (setN_other x' e).trans hi, rfl⟩
  refine ⟨fun p hp => ?_, fun X j hX => h.only X j (by rw [← hat]; exact hX), fun i j n m hi hj he => ?_, fun j n hj => ?_, fun j n hj => ?_, fun j n hj => ?_, fun j n hj hkd s => ?_, fun i n s j hi hs => ?_, ?_⟩
  · rw [hat]
    have := h.rep p hp
    show SameO (setN N k x') _ (S.at p)
    cases ho : atN N (some top) (splitB p) with
    | none => rw [ho] at this; rw [(this.none_iff).1 rfl]; trivial
    | some j =>
      rw [ho] at this
      obtain ⟨m, hm, e⟩ := this.some
      obtain ⟨m', h1, h2⟩ := hto hm
      rw [e]; exact ⟨m', h1, h2⟩
  · obtain ⟨a, h1, _, h2, _⟩ := hfrom hi
    obtain ⟨b, h3, _, h4, _⟩ := hfrom hj
    exact h.inj i j a b h1 h3 (by rw [← h2, ← h4]; exact he)
  · obtain ⟨a, h1, _, h2, _, _, h5, h6⟩ := hfrom hj
    show setT S.th x.ino (thN x') n.ino = thN n
    by_cases e : j = k
    · rw [h6 e, e2, setT_same]
    · have hne : n.ino ≠ x.ino := fun e' => e (h.inj j k a x h1 hk (by rw [← h2]; exact e'))
      rw [setT_other _ _ hne, h2, h.info j a h1, h5 e]
  · obtain ⟨a, h1, _, h2, _⟩ := hfrom hj
    rw [h2]; exact h.lt j a h1
  · obtain ⟨a, h1, _, h2, h3, _⟩ := hfrom hj
    rw [h3, h2]; exact h.links j a h1
  · obtain ⟨a, h1, h0, _, _, h4, _⟩ := hfrom hj
    rw [h0]; exact h.leaf j a h1 (by rw [← h4]; exact hkd) s
  · obtain ⟨a, h1, h0, _⟩ := hfrom hi
    rw [h0] at hs
    obtain ⟨m, hm⟩ := h.closed i a s j h1 hs
    obtain ⟨m', hm', _⟩ := hto hm
    exact ⟨m', hm'⟩
  · obtain ⟨r, hr⟩ := h.root
    obtain ⟨m', hm', _⟩ := hto hr
    exact ⟨m', hm'⟩
end Go.Proofs.YtlbbehfbjbbckaaDoor

/-! One who follows a path: the program's up, enter. -/
set_option linter.unusedVariables false
set_option linter.unusedSimpArgs false
namespace Go.Proofs.YtlbbehfbjbbckaaDoor
open Go.RowKit

def WkAt (w : World) (g t : Nat) (s : Wk) : Prop := ∃ A n c, n ≤ c ∧ Blk w g 57 [.pointer (some ⟨t, 0, none⟩), .string (str s.at_), .slice A n c, .int .i64 (s.hops : Nat)] ∧ Sl 1 w A n (strs s.row) ∧ ∀ a, A = some a → a.block ≠ g
theorem walker_cells {w : World} {g : Nat} {a b c d : Value} (h : Blk w g 57 [a, b, c, d]) : w.cell? ⟨g, 0, none⟩ = some a ∧ w.cell? ⟨g, 1, none⟩ = some b ∧ w.cell? ⟨g, 2, none⟩ = some c ∧ w.cell? ⟨g, 3, none⟩ = some d ∧ (∀ j, w.frozen? ⟨g, j, none⟩ = false) := ⟨h.cell 0, h.cell 1, h.cell 2, h.cell 3, h.frozen⟩
theorem WkAt.below {w w' : World} {g t : Nat} {s : Wk} (h : WkAt w g t s) (hb : Below w.heap.size w w') : WkAt w' g t s := by
  obtain ⟨A, n, c, h0, h1, h2, h3⟩ := h
  exact ⟨A, n, c, h0, h1.below hb, h2.below hb, h3⟩
/-- A block that is of none of the tree's kinds. -/
theorem TreeAt.other {w : World} {t top c : Nat} {next : Int} {N : Nat → Option Nd} (h : TreeAt w t top next c N) {g : Nat} {T : TypeId} {cs : List Value} (hg : Blk w g T cs) (h1 : T ≠ 5) (h2 : T ≠ 68) (h3 : T ≠ 65) {w' : World} (hh : ∀ k, k < w.heap.size → k ≠ g → w'.heap[k]? = w.heap[k]?) : TreeAt w' t top next c N := by
  have hn : N g = none := by
    cases hi : N g with
    | none => rfl
    | some n => exact absurd rfl ((h.node g n hi).ne hg (fun e => h2 e.symm))
  have hlt : ∀ k, heldT N k → k < w.heap.size := by
    rintro k (⟨n, hi⟩ | ⟨i, n, a, hi, ha, rfl⟩ | ⟨i, n, hi, hk⟩)
    · exact (h.node k n hi).lt
    · obtain ⟨cs, hc⟩ := (h.data i n hi).2 a ha
      exact (Array.getElem?_eq_some_iff.1 hc).1
    · exact (h.kids i n k hi hk).lt
  exact h.heap (h.tree.heap (hh t h.tree.lt (h.tree.ne hg (fun e => h3 e.symm)))) (fun k hk => hh k (hlt k hk) (fun e => h.free hg h1 hn (e ▸ hk)))
theorem Sl.strsOnly {w w' : World} {A : Option Addr} {n g : Nat} {l : List (List UInt8)} (h : Sl 1 w A n (strs l)) {T : TypeId} {cs : List Value} (hg : Blk w g T cs) (hA : ∀ a, A = some a → a.block ≠ g) (hh : ∀ k, k < w.heap.size → k ≠ g → w'.heap[k]? = w.heap[k]?) : Sl 1 w' A n (strs l) :=
  ⟨h.len, h.max, by
    rcases h.at_ with h0 | ⟨b, o, rfl, hc⟩
    · exact .inl h0
    · exact .inr ⟨b, o, rfl, fun j v hj => (World.cell?_of_block (a := ⟨b, o + j, none⟩) (hh b (World.block_lt_of_cell? w _ (hc j v hj)) (hA _ rfl))).trans (hc j v hj)⟩⟩
theorem Sl.tailS {w : World} {A : Option Addr} {n c : Nat} {x : List UInt8} {r : List (List UInt8)} (h : Sl 1 w A n (strs (x :: r))) (hc : n ≤ c) : Sl 1 w (subAt A 1 c 1) (n - 1) (strs r) ∧ ∀ a, subAt A 1 c 1 = some a → ∃ a0, A = some a0 ∧ a.block = a0.block := by
  have hl : r.length + 1 = n := by have := h.len; rw [strs_len, List.length_cons] at this; omega
  have hA : ∀ a, subAt A 1 c 1 = some a → ∃ a0, A = some a0 ∧ a.block = a0.block := by
    intro a ha
    unfold subAt at ha
    split at ha
    · exact ⟨a, ha, rfl⟩
    · cases A with
      | none => cases ha
      | some a0 =>
        simp only [Option.map_some, Option.some.injEq] at ha
        subst ha
        refine ⟨a0, rfl, ?_⟩
        unfold Addr.add
        split <;> rfl
  refine ⟨⟨by rw [strs_len]; omega, by have := h.max; omega, ?_⟩, hA⟩
  cases r with
  | nil => exact .inl rfl
  | cons y r =>
    rcases h.at_ with h0 | ⟨b, o, rfl, hc'⟩
    · simp [strs] at h0
    · refine .inr ⟨b, o + 1, ?_, fun j v hj => ?_⟩
      · unfold subAt
        rw [if_neg (by rw [List.length_cons] at hl; omega)]
        rfl
      · have := hc' (j + 1) v (by simpa [strs] using hj)
        rwa [show o + 1 + j = o + (j + 1) by omega]
theorem belowRow {B : Nat} {w w1 : World} (h : Below B w w1) {g : Nat} (hg : B ≤ g) (cs : Array Value) : Below B w (w1.setRow g cs) :=
  ⟨h.os, h.tape, h.output, by simp; exact h.size, fun k hk => (setRow_other w1 g k cs (by omega)).trans (h.block k hk)⟩
theorem str_nil_iff (l : List UInt8) : (str l).size = 0 ↔ l = [] := by rw [size_toList]; exact List.length_eq_zero_iff
set_option maxRecDepth 100000 in
set_option maxHeartbeats 4000000 in
theorem up_any (g t : Nat) (s : Wk) (x : ByteArray) (w : World) (h : WkAt w g t s) (hl : s.at_.length ≤ 200) :
    Calls Tryd.prog 52 #[.pointer (some ⟨g, 0, none⟩), .string x] w fun e w' => e = .returned (.int .i64 (upW s).2) ∧ WkAt w' g t (upW s).1 ∧ Only (fun k => k = g) w w' := by
  obtain ⟨A, n, c, hnc, h1, h2, h3⟩ := h
  obtain ⟨x0, x1, x2, x3, xf⟩ := walker_cells h1
  have f1 := xf 1
  have H1 := Lib.hid h1
  have H2 := Lib.hid h2
  have H3 := Lib.hid h3
  clear h1 h2 h3 xf
  by_cases he : s.at_ = []
  · have K := Lib.hid (show upW s = (s, 16) from if_pos he)
    have hq : (str s.at_) = ⟨#[]⟩ := by rw [he]; rfl
    rw [hq] at x1
    have HQ := Lib.hid hq
    clear hq he
    go_enter Tryd.func52, Tryd.ntmps52
    go_wp2_with fail
    go_ret
    rw [K.out]
    exact ⟨rfl, ⟨A, n, c, hnc, H1.out, H2.out, H3.out⟩, Only.refl _ _⟩
  · have K := Lib.hid (show upW s = ({ s with at_ := parentB s.at_ }, 0) from if_neg he)
    have hnl := nil_toList (str s.at_) (fun e => he ((str_nil_iff _).1 e))
    have hsz : (str s.at_).size ≤ 200 := by rw [size_toList]; exact hl
    have hpe : str (parentB (str s.at_).data.toList) = str (parentB s.at_) := by simp [str]
    clear he
    go_enter Tryd.func52, Tryd.ntmps52
    go_wp2_with fail
    refine (parent_any (str s.at_) w (by omega)).mono ?_
    rintro e w1 ⟨rfl, rfl⟩
    rw [hpe]
    clear hpe
    go_wp2_with fail
    go_ret
    rw [K.out]
    have hh : ∀ k, k < w1.heap.size → k ≠ g → (w1.setCell ⟨g, 1, none⟩ (.string (str (parentB s.at_)))).heap[k]? = w1.heap[k]? := fun k _ hk => Below.heap_setCell _ _ _ _ hk
    exact ⟨rfl, ⟨A, n, c, hnc, H1.out.set 1 _, H2.out.strsOnly H1.out H3.out hh, H3.out⟩, Only.set w1 _ _ rfl⟩
end Go.Proofs.YtlbbehfbjbbckaaDoor
