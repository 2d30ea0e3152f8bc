/- Sat: what memory holds, as a list of parts that do not meet. Parts may be dropped. -/
import Derived.Test.YtpjfebedfejmgaaDecT
namespace Go.Dec
set_option linter.unusedVariables false

/-- What stands beside memory's blocks: the operating system, what was put out. -/
structure Env' where
  os : Os
  out : Array (Nat × ByteArray)

/-- A piece of memory. -/
structure PH where
  m : Nat → Option Obj
  e : Env'
instance : CoeFun PH (fun _ => Nat → Option Obj) := ⟨PH.m⟩
abbrev HP := PH → Prop

def PH.disj (p q : PH) : Prop := ∀ b, p b = none ∨ q b = none
structure PH.sub (p q : PH) : Prop where
  f : ∀ b o, p b = some o → q b = some o
  e : p.e = q.e
instance {p q : PH} : CoeFun (p.sub q) (fun _ => ∀ b o, p b = some o → q b = some o) := ⟨PH.sub.f⟩

theorem PH.sub_refl (p : PH) : p.sub p := ⟨fun _ _ h => h, rfl⟩
theorem PH.sub_trans {p q r : PH} (h1 : p.sub q) (h2 : q.sub r) : p.sub r := ⟨fun b o h => h2 b o (h1 b o h), h1.e.trans h2.e⟩
theorem PH.disj_symm {p q : PH} (h : p.disj q) : q.disj p := fun b => (h b).symm
theorem PH.disj_sub {p q r : PH} (h : p.disj q) (hs : r.sub q) : p.disj r := fun b => by
  rcases h b with h | h
  · exact .inl h
  · cases hr : r b with
    | none => exact .inr rfl
    | some o => rw [hs b o hr] at h; cases h

/-- Each part holds in a piece of p; the pieces do not meet. -/
def satL : List HP → PH → Prop
  | [], _ => True
  | H :: r, p => ∃ p1 p2, p1.sub p ∧ p2.sub p ∧ p1.disj p2 ∧ H p1 ∧ satL r p2

theorem satL_sub : ∀ {l : List HP} {p q : PH}, p.sub q → satL l p → satL l q
  | [], _, _, _, _ => trivial
  | H :: r, p, q, hs, ⟨p1, p2, h1, h2, hd, hH, hr⟩ => ⟨p1, p2, PH.sub_trans h1 hs, PH.sub_trans h2 hs, hd, hH, hr⟩

def World.env' (w : World) : Env' := ⟨w.os, w.output⟩
def World.ph (w : World) : PH := ⟨fun b => w.heap[b]?, World.env' w⟩

/-- The world's memory holds these parts. -/
def Sat (w : World) (l : List HP) : Prop := satL l (World.ph w)

/-! ### Words for parts -/
def pt (b : Nat) (o : Obj) : HP := fun p => p b = some o
def emp : HP := fun _ => True
def HP.ex {α : Type} (f : α → HP) : HP := fun p => ∃ x, f x p
def HP.star (A B : HP) : HP := fun p => ∃ p1 p2, PH.sub p1 p ∧ PH.sub p2 p ∧ PH.disj p1 p2 ∧ A p1 ∧ B p2
def HP.and (φ : Prop) (A : HP) : HP := fun p => φ ∧ A p
/-- All of a list of parts. -/
def HP.all (l : List HP) : HP := satL l

section
variable {w : World} {l r : List HP} {H A B : HP}

theorem Sat.tail (h : Sat w (H :: l)) : Sat w l := by
  obtain ⟨p1, p2, h1, h2, hd, hH, hr⟩ := h
  exact satL_sub h2 hr

theorem satL_swap {A B : HP} {l : List HP} {p : PH} (h : satL (A :: B :: l) p) : satL (B :: A :: l) p := by
  obtain ⟨p1, p2, h1, h2, hd, hA, q1, q2, g1, g2, gd, hB, hl⟩ := h
  let u : PH := ⟨fun b => match p1 b with
    | some o => some o
    | none => q2 b, p1.e⟩
  have hu1 : p1.sub u := ⟨fun b o h => by simp [u, h], rfl⟩
  have hu2 : q2.sub u := ⟨fun b o h => by
    have : p1 b = none := (hd b).resolve_right (by rw [g2 b o h]; simp)
    simp [u, this, h], by show q2.e = p1.e; rw [g2.e, h2.e, h1.e]⟩
  have hus : u.sub p := ⟨fun b o h => by
    simp only [u] at h
    split at h
    · rename_i o' ho; obtain rfl := Option.some.inj h; exact h1 b _ ho
    · exact h2 b o (g2 b o h), h1.e⟩
  refine ⟨q1, u, PH.sub_trans g1 h2, hus, fun b => ?_, hB, p1, q2, hu1, hu2, PH.disj_sub hd g2, hA, hl⟩
  rcases gd b with h | h
  · exact .inl h
  · rcases hd b with h' | h'
    · right; simp [u, h', h]
    · left
      cases hq : q1 b with
      | none => rfl
      | some o => rw [g1 b o hq] at h'; cases h'

theorem satL_perm {l l' : List HP} (h : l.Perm l') : ∀ {p : PH}, satL l p → satL l' p := by
  induction h with
  | nil => exact fun h => h
  | cons x _ ih => exact fun ⟨p1, p2, h1, h2, hd, hA, hl⟩ => ⟨p1, p2, h1, h2, hd, hA, ih hl⟩
  | swap x y l => exact satL_swap
  | trans _ _ ih1 ih2 => exact fun h => ih2 (ih1 h)

theorem Sat.perm (hp : l.Perm r) (h : Sat w l) : Sat w r := satL_perm hp h

/-- Part number i, and the others. -/
def takeAt : List HP → Nat → Option (HP × List HP)
  | [], _ => none
  | x :: r, 0 => some (x, r)
  | x :: r, n + 1 => match takeAt r n with
    | some (y, r') => some (y, x :: r')
    | none => none

theorem takeAt_perm : ∀ {l : List HP} {i : Nat} {x : HP} {r : List HP}, takeAt l i = some (x, r) → l.Perm (x :: r)
  | [], _, _, _, h => by simp [takeAt] at h
  | y :: l, 0, x, r, h => by simp only [takeAt, Option.some.injEq, Prod.mk.injEq] at h; obtain ⟨rfl, rfl⟩ := h; exact .refl _
  | y :: l, n + 1, x, r, h => by
    simp only [takeAt] at h
    split at h
    · rename_i z r' hz
      simp only [Option.some.injEq, Prod.mk.injEq] at h
      obtain ⟨rfl, rfl⟩ := h
      exact (List.Perm.cons y (takeAt_perm hz)).trans (.swap _ _ _)
    · cases h

/-- The parts of these numbers come first, in this order (each number as it stands once those before it are out). -/
def pickAll : List HP → List Nat → Option (List HP)
  | l, [] => some l
  | l, i :: is => match takeAt l i with
    | some (x, r) => match pickAll r is with
      | some r' => some (x :: r')
      | none => none
    | none => none

theorem pickAll_perm : ∀ {is : List Nat} {l r : List HP}, pickAll l is = some r → l.Perm r
  | [], l, r, h => by simp only [pickAll, Option.some.injEq] at h; subst h; exact .refl _
  | i :: is, l, r, h => by
    simp only [pickAll] at h
    split at h
    · rename_i x l' hx
      split at h
      · rename_i r' hr
        obtain rfl := Option.some.inj h
        exact (takeAt_perm hx).trans (.cons x (pickAll_perm hr))
      · cases h
    · cases h

theorem Sat.pick (h : Sat w l) (is : List Nat) {r : List HP} (hr : pickAll l is = some r := by rfl) : Sat w r := h.perm (pickAll_perm hr)

theorem Sat.imp (hi : ∀ p, A p → B p) (h : Sat w (A :: l)) : Sat w (B :: l) := by
  obtain ⟨p1, p2, h1, h2, hd, hA, hl⟩ := h
  exact ⟨p1, p2, h1, h2, hd, hi _ hA, hl⟩

theorem Sat.ex {α : Type} {f : α → HP} (h : Sat w (HP.ex f :: l)) : ∃ x, Sat w (f x :: l) := by
  obtain ⟨p1, p2, h1, h2, hd, ⟨x, hx⟩, hl⟩ := h
  exact ⟨x, p1, p2, h1, h2, hd, hx, hl⟩

theorem Sat.ex_mk {α : Type} {f : α → HP} (x : α) (h : Sat w (f x :: l)) : Sat w (HP.ex f :: l) := h.imp fun _ h => ⟨x, h⟩

theorem Sat.and {φ : Prop} (h : Sat w (HP.and φ A :: l)) : φ ∧ Sat w (A :: l) := by
  obtain ⟨p1, p2, h1, h2, hd, ⟨hφ, hA⟩, hl⟩ := h
  exact ⟨hφ, p1, p2, h1, h2, hd, hA, hl⟩

theorem Sat.and_mk {φ : Prop} (hφ : φ) (h : Sat w (A :: l)) : Sat w (HP.and φ A :: l) := h.imp fun _ h => ⟨hφ, h⟩

theorem Sat.star (h : Sat w (HP.star A B :: l)) : Sat w (A :: B :: l) := by
  obtain ⟨p1, p2, h1, h2, hd, ⟨q1, q2, g1, g2, gd, hA, hB⟩, hl⟩ := h
  let u : PH := ⟨fun b => match q2 b with
    | some o => some o
    | none => p2 b, q2.e⟩
  have hu1 : q2.sub u := ⟨fun b o h => by simp [u, h], rfl⟩
  have hu2 : p2.sub u := ⟨fun b o h => by
    have : q2 b = none := by
      cases hq : q2 b with
      | none => rfl
      | some o' => rcases hd b with h' | h'
                   · rw [g2 b o' hq] at h'; cases h'
                   · rw [h] at h'; cases h'
    simp [u, this, h], by show p2.e = q2.e; rw [g2.e, h1.e, h2.e]⟩
  have hus : u.sub (World.ph w) := ⟨fun b o h => by
    simp only [u] at h
    split at h
    · rename_i o' ho; obtain rfl := Option.some.inj h; exact h1 b _ (g2 b _ ho)
    · exact h2 b o h, g2.e.trans h1.e⟩
  refine ⟨q1, u, PH.sub_trans g1 h1, hus, fun b => ?_, hA, q2, p2, hu1, hu2, fun b => ?_, hB, hl⟩
  · rcases gd b with h | h
    · exact .inl h
    · cases hq : q1 b with
      | none => exact .inl rfl
      | some o =>
        right
        have : p2 b = none := (hd b).resolve_left (by rw [g1 b o hq]; simp)
        simp [u, h, this]
  · rcases hd b with h' | h'
    · left
      cases hq : q2 b with
      | none => rfl
      | some o => rw [g2 b o hq] at h'; cases h'
    · exact .inr h'

theorem Sat.star_mk (h : Sat w (A :: B :: l)) : Sat w (HP.star A B :: l) := by
  obtain ⟨p1, p2, h1, h2, hd, hA, q1, q2, g1, g2, gd, hB, hl⟩ := h
  let u : PH := ⟨fun b => match p1 b with
    | some o => some o
    | none => q1 b, p1.e⟩
  have hu1 : p1.sub u := ⟨fun b o h => by simp [u, h], rfl⟩
  have hu2 : q1.sub u := ⟨fun b o h => by
    have : p1 b = none := (hd b).resolve_right (by rw [g1 b o h]; simp)
    simp [u, this, h], by show q1.e = p1.e; rw [g1.e, h2.e, h1.e]⟩
  refine ⟨u, q2, ⟨fun b o h => ?_, h1.e⟩, PH.sub_trans g2 h2, fun b => ?_, ⟨p1, q1, hu1, hu2, PH.disj_sub hd g1, hA, hB⟩, hl⟩
  · simp only [u] at h
    split at h
    · rename_i o' ho; obtain rfl := Option.some.inj h; exact h1 b _ ho
    · exact h2 b o (g1 b o h)
  · cases hq : q2 b with
    | none => exact .inr rfl
    | some o =>
      left
      have h1' : p1 b = none := (hd b).resolve_right (by rw [g2 b o hq]; simp)
      have h2' : q1 b = none := (gd b).resolve_right (by rw [hq]; simp)
      simp [u, h1', h2']

/-- What a part says of a block. -/
theorem Sat.get {b : Nat} {o : Obj} (h : Sat w (pt b o :: l)) : w.heap[b]? = some o := by
  obtain ⟨p1, p2, h1, h2, hd, hA, hl⟩ := h
  exact h1 b o hA

theorem Sat.at {i : Nat} {b : Nat} {o : Obj} {r : List HP} (h : Sat w l) (i : Nat) (hi : takeAt l i = some (pt b o, r) := by rfl) : w.heap[b]? = some o := (h.perm (takeAt_perm hi)).get

/-- Two blocks that are told apart are two. -/
theorem Sat.ne {b c : Nat} {o o' : Obj} (h : Sat w (pt b o :: pt c o' :: l)) : b ≠ c := by
  obtain ⟨p1, p2, h1, h2, hd, hA, q1, q2, g1, g2, gd, hB, hl⟩ := h
  rintro rfl
  rcases hd b with h | h
  · rw [show p1 b = some o from hA] at h; cases h
  · rw [g1 b o' hB] at h; cases h

def setB (w : World) (b : Nat) (o : Obj) : World := { w with heap := w.heap.setIfInBounds b o }

/-- Which cells of a block may not be written. -/
def frOf : Obj → Nat × Nat
  | .cells _ _ fr => fr
  | _ => (0, 0)

theorem frozen_of {w : World} {a : Addr} : w.frozen? a = match w.heap[a.block]? with
    | some o => decide ((frOf o).1 ≤ a.off) && decide (a.off < (frOf o).2)
    | none => false := by
  unfold World.frozen?
  split
  · rename_i h; rw [h]; rfl
  · rename_i h
    split
    · rename_i o ho
      cases o <;> first | (simp [frOf]; done) | skip
      exact (h _ _ _ _ ho).elim
    · rfl

theorem env_set {b : Nat} {o' : Obj} : World.env' (setB w b o') = World.env' w := rfl

theorem Sat.set {b : Nat} {o o' : Obj} (h : Sat w (pt b o :: l)) : Sat (setB w b o') (pt b o' :: l) := by
  have hget := h.get
  obtain ⟨p1, p2, h1, h2, hd, hA, hl⟩ := h
  have hlt : b < w.heap.size := (Array.getElem?_eq_some_iff.1 hget).1
  have hp2 : p2 b = none := (hd b).resolve_left (by rw [show p1 b = some o from hA]; simp)
  refine ⟨⟨fun c => if c = b then some o' else none, World.env' (setB w b o')⟩, p2, ⟨fun c x h => ?_, rfl⟩, ⟨fun c x h => ?_, h2.e⟩, fun c => ?_, by simp [pt], hl⟩
  · simp only at h
    split at h
    · rename_i hc; subst hc; obtain rfl := Option.some.inj h; simp [World.ph, setB, hlt]
    · cases h
  · have hc : c ≠ b := fun e => by subst e; rw [hp2] at h; cases h
    have := h2 c x h
    simpa [World.ph, setB, Array.getElem?_setIfInBounds_ne (Ne.symm hc)] using this
  · by_cases hc : c = b
    · subst hc; exact .inr hp2
    · exact .inl (by simp [hc])

/-- Nothing but the count of draws may differ. -/
def SameW (w' w : World) : Prop := w'.heap = w.heap ∧ w'.os = w.os ∧ w'.output = w.output

theorem Sat.heap {w' : World} (h : Sat w l) (he : SameW w' w) : Sat w' l := by
  obtain ⟨e1, e2, e3⟩ := he
  have : World.ph w' = World.ph w := by
    unfold World.ph World.env'
    rw [e1, e2, e3]
  unfold Sat
  rw [this]; exact h

theorem Sat.push {o : Obj} {w' : World} (h : Sat w l) (he : w'.heap = w.heap.push o) (h2 : w'.os = w.os := by rfl) (h3 : w'.output = w.output := by rfl) : Sat w' (pt w.heap.size o :: l) := by
  have henv : World.env' w' = World.env' w := by unfold World.env'; rw [h2, h3]
  unfold Sat at *
  refine ⟨⟨fun c => if c = w.heap.size then some o else none, World.env' w'⟩, World.ph w, ⟨fun c x h => ?_, rfl⟩, ⟨fun c x h => ?_, henv.symm⟩, fun c => ?_, by simp [pt], h⟩
  · simp only at h
    split at h
    · rename_i hc; subst hc; obtain rfl := Option.some.inj h; simp [World.ph, he]
    · cases h
  · have hlt : c < w.heap.size := (Array.getElem?_eq_some_iff.1 h).1
    have hne : c ≠ w.heap.size := by omega
    simpa [World.ph, he, Array.getElem?_push, hne] using h
  · by_cases hc : c = w.heap.size
    · subst hc; right; simp [World.ph]
    · exact .inl (by simp [hc])

/-- All of a world, as it stands. -/
def whole (W : World) : HP := fun p => (∀ b o, W.heap[b]? = some o → p b = some o) ∧ p.e = World.env' W

theorem Sat.whole (w : World) : Sat w [Dec.whole w] :=
  ⟨World.ph w, ⟨fun _ => none, World.env' w⟩, PH.sub_refl _, ⟨(fun _ _ h => by cases h), rfl⟩, (fun _ => Or.inr rfl), ⟨fun _ _ h => h, rfl⟩, trivial⟩

theorem Sat.of_whole {W : World} (hs : Sat w (Dec.whole W :: l)) : (∀ (b : Nat) (o : Obj), W.heap[b]? = some o → w.heap[b]? = some o) ∧ w.os = W.os ∧ w.output = W.output ∧ ∀ a : Addr, a.block < W.heap.size → w.frozen? a = W.frozen? a := by
  obtain ⟨p1, p2, h1, h2, hd, ⟨hA, he⟩, hl⟩ := hs
  have e : World.env' w = World.env' W := h1.e.symm.trans he
  unfold World.env' at e
  simp only [Env'.mk.injEq] at e
  have hh : ∀ (b : Nat) (o : Obj), W.heap[b]? = some o → w.heap[b]? = some o := fun b o hb => h1 b o (hA b o hb)
  refine ⟨hh, e.1, e.2, fun a ha => ?_⟩
  have hg : W.heap[a.block]? = some W.heap[a.block] := by simp [ha]
  rw [frozen_of, frozen_of, hg, hh _ _ hg]

end
end Go.Dec
