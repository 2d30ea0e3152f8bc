/- Dedup: what was taken, kept in memory. -/
import Derived.Test.YtcpmaccapgpgaaaGreatT1
namespace Go.Dec
set_option linter.unusedVariables false
set_option linter.unusedSimpArgs false

def rsP (b : BatM) : HP := slc T.api_Record 4 b.x (b.rs.flatMap encR)
def batsP (bs : List BatM) : HP := HP.all (bs.map rsP)
/-- A call of the input's. -/
structure OpJ (l : List HP) (o : OpI) : Prop where
  rd : ∀ w, Sat w l → Rd w 4 o.b.x (o.b.rs.flatMap encR)

section
variable {w : World} {l r : List HP}

theorem bats_rd {bs : List BatM} {b : BatM} (hb : b ∈ bs) : FocR (batsP bs :: l) b.x 4 (b.rs.flatMap encR) := ⟨fun w hs => by
  obtain ⟨L, hs⟩ := hs.all_mem hb
  have hs : Sat w (slc T.api_Record 4 b.x (b.rs.flatMap encR) :: HP.all L :: l) := hs
  exact hs.rd⟩
theorem bats_put {bs : List BatM} {b : BatM} (hs : Sat w (slc T.api_Record 4 b.x (b.rs.flatMap encR) :: batsP bs :: l)) : Sat w (batsP (bs ++ [b]) :: l) := by
  have hs : Sat w (HP.all (rsP b :: bs.map rsP) :: l) := Sat.all_put' (a := rsP b) hs
  have := hs.all_perm' (L' := (bs ++ [b]).map rsP) (by rw [List.map_append]; exact (List.perm_append_comm (l₁ := [rsP b])))
  exact this
end

theorem row_put (most next : Int) (x : RowA) (rs : List RowA) (p : Int) : rowO ⟨most, next, putL x rs⟩ p = if p = x.pid then some x else rowO ⟨most, next, rs⟩ p := by
  unfold rowO putL
  show List.find? _ (_ ++ _) = _
  rw [List.find?_append, List.find?_filter]
  by_cases h : p = x.pid
  · rw [if_pos h]
    have e1 : (rs.find? fun a => decide (a.pid < x.pid) && decide (a.pid = p)) = none := List.find?_eq_none.2 fun a _ => by simp; omega
    simp only [Bool.decide_and, Bool.decide_eq_true] at *
    rw [e1, Option.none_or, List.find?_cons_of_pos (by simp [h])]
  · rw [if_neg h, List.find?_cons_of_neg (by simp; omega), List.find?_filter]
    by_cases h2 : p < x.pid
    · have e1 : (rs.find? fun a => decide (a.pid < x.pid) && decide (a.pid = p)) = rs.find? fun a => decide (a.pid = p) := by congr 1; funext a; rw [Bool.eq_iff_iff]; simp; omega
      have e2 : (rs.find? fun a => decide (x.pid < a.pid) && decide (a.pid = p)) = none := List.find?_eq_none.2 fun a _ => by simp; omega
      simp only [Bool.decide_and, Bool.decide_eq_true] at *
      rw [e1, e2, Option.or_none]
    · have e1 : (rs.find? fun a => decide (a.pid < x.pid) && decide (a.pid = p)) = none := List.find?_eq_none.2 fun a _ => by simp; omega
      have e2 : (rs.find? fun a => decide (x.pid < a.pid) && decide (a.pid = p)) = rs.find? fun a => decide (a.pid = p) := by congr 1; funext a; rw [Bool.eq_iff_iff]; simp; omega
      simp only [Bool.decide_and, Bool.decide_eq_true] at *
      rw [e1, e2, Option.none_or]
theorem rowF_next {A : TabA} {b : BatM} (hp : b.pid ≠ 0) (p : Int) : rowF (nextT A b) p = if p = b.pid then rowN A b else rowF A p := by
  have e : nextT A b = ⟨A.most, b.base + spanB b, putL (rowN A b) A.rows⟩ := by unfold nextT; rw [if_neg hp]
  unfold rowF
  rw [e, row_put, rowN_pid]
  by_cases h : p = b.pid
  · rw [if_pos h, if_pos h]; rfl
  · rw [if_neg h, if_neg h]; rfl
theorem rowF_next0 {A : TabA} {b : BatM} (hp : b.pid = 0) (p : Int) : rowF (nextT A b) p = rowF A p := by
  have e : nextT A b = ⟨A.most, b.base + spanB b, A.rows⟩ := by unfold nextT; rw [if_pos hp]
  rw [e]; rfl

/-! ### Once -/
def sumE (p e : Int) (bs : List BatM) : Int := ((bs.filter fun a => decide (a.pid = p ∧ a.epoch = e)).map fun a => (a.rs.length : Int)).sum
theorem sumE_snoc (p e : Int) (bs : List BatM) (b : BatM) : sumE p e (bs ++ [b]) = sumE p e bs + if b.pid = p ∧ b.epoch = e then (b.rs.length : Int) else 0 := by
  unfold sumE
  rw [List.filter_append, List.map_append, List.sum_append]
  split <;> simp [*]
theorem sumE_zero {p e : Int} {bs : List BatM} (h : ∀ a ∈ bs, a.pid = p → a.epoch ≠ e) : sumE p e bs = 0 := by
  unfold sumE
  rw [List.filter_eq_nil_iff.2 fun a ha => by simp only [decide_eq_true_eq]; exact fun h2 => h a ha h2.1 h2.2]
  rfl
theorem sumE_le {p e : Int} : ∀ {bs : List BatM}, (∀ b ∈ bs, b.rs.length ≤ 8) → 0 ≤ sumE p e bs ∧ sumE p e bs ≤ 8 * bs.length
  | [], _ => by simp [sumE]
  | b :: r, h => by
    have ih := sumE_le (p := p) (e := e) (bs := r) fun c hc => h c (List.mem_cons_of_mem _ hc)
    have hb := h b (List.mem_cons_self ..)
    unfold sumE at *
    rw [List.filter_cons]
    split
    · rw [List.map_cons, List.sum_cons, List.length_cons]; omega
    · rw [List.length_cons]; omega
def checkB (bs : List BatM) (b : BatM) : Prop := (∀ a ∈ bs, a.pid = b.pid → ¬ (a.epoch > b.epoch ∨ (markB a = true ∧ a.epoch = b.epoch))) ∧ (markB b = false → b.seq = sumE b.pid b.epoch bs)
def OnceOk (bs : List BatM) : Prop := ∀ (i : Nat) (hi : i < bs.length), checkB (bs.take i) bs[i]
structure OnceI (bs : List BatM) (A : TabA) : Prop where
  le : ∀ a ∈ bs, a.epoch ≤ (rowF A a.pid).epoch ∧ (markB a = true → a.epoch < (rowF A a.pid).epoch)
  sum : ∀ p, sumE p (rowF A p).epoch bs = (rowF A p).seq + (rowF A p).count
theorem once_nil (most : Int) : OnceI [] ⟨most, 0, []⟩ := ⟨by simp, fun p => by simp [sumE, rowF, rowO, rowD]⟩
theorem once_ok_snoc {bs : List BatM} {b : BatM} (h : OnceOk bs) (hb : checkB bs b) : OnceOk (bs ++ [b]) := fun i hi => by
  rw [List.length_append, List.length_singleton] at hi
  rcases Nat.lt_or_ge i bs.length with h1 | h1
  · rw [List.getElem_append_left h1, List.take_append_of_le_length (by omega)]
    exact h i h1
  · obtain rfl : i = bs.length := by omega
    rw [List.getElem_append_right (Nat.le_refl _), List.take_append_of_le_length (by omega), List.take_length]
    simpa using hb
theorem once_step {bs : List BatM} {A : TabA} {b : BatM} (hI : OnceI bs A) (h1 : (judgeA A b).2 = 0) (h2 : (judgeA A b).1.again = false) (hp : 0 < b.pid) : checkB bs b ∧ OnceI (bs ++ [b]) (nextT A b) := by
  obtain ⟨hv, hj⟩ := judge_fresh h1 h2
  obtain ⟨hje, -, hfr⟩ := hj (by omega)
  obtain ⟨hf1, hf2, hf3⟩ := fresh_zero hfr
  have hfit := (span_le b hv).2.2.2.1
  have hpid : ∀ a ∈ bs, a.pid = b.pid → a.epoch ≤ (rowF A b.pid).epoch ∧ (markB a = true → a.epoch < (rowF A b.pid).epoch) := fun a ha e => by rw [← e]; exact hI.le a ha
  have hseq : markB b = false → b.seq = sumE b.pid b.epoch bs := fun hm => by
    have h3 : b.seq = (if b.epoch > (rowF A b.pid).epoch then 0 else (rowF A b.pid).seq + (rowF A b.pid).count) := Decidable.not_not.1 fun e => hf2 ⟨hm, e⟩
    rw [h3]
    split
    · rw [sumE_zero]
      intro a ha e
      have := (hpid a ha e).1; omega
    · have e : b.epoch = (rowF A b.pid).epoch := by omega
      rw [e, hI.sum]
  refine ⟨⟨fun a ha e => ?_, hseq⟩, fun a ha => ?_, fun p => ?_⟩
  · have := hpid a ha e
    rintro (h | ⟨h, h'⟩)
    · omega
    · have := this.2 h; omega
  · rw [rowF_next (by omega)]
    rcases List.mem_append.1 ha with ha | ha
    · split
      · rename_i e
        have h3 := hpid a ha e
        unfold rowN
        split
        · show a.epoch ≤ b.epoch + 1 ∧ (_ → a.epoch < b.epoch + 1); omega
        · refine ⟨by show a.epoch ≤ b.epoch; omega, fun h => ?_⟩
          have := h3.2 h; show a.epoch < b.epoch; omega
      · exact hI.le a ha
    · obtain rfl := List.mem_singleton.1 ha
      rw [if_pos rfl]
      unfold rowN
      split
      · show a.epoch ≤ a.epoch + 1 ∧ (_ → a.epoch < a.epoch + 1); omega
      · rename_i h
        exact ⟨Int.le_refl _, fun h' => absurd h' h⟩
  · rw [rowF_next (by omega)]
    by_cases hpp : p = b.pid
    · rw [if_pos hpp, hpp]
      unfold rowN
      by_cases hm : markB b = true
      · rw [if_pos hm]
        show sumE b.pid (b.epoch + 1) (bs ++ [b]) = 0 + 0
        rw [sumE_zero]
        · rfl
        · intro a ha e
          rcases List.mem_append.1 ha with ha | ha
          · have := (hpid a ha e).1; omega
          · rw [List.mem_singleton.1 ha]; omega
      · rw [if_neg hm]
        show sumE b.pid b.epoch (bs ++ [b]) = b.seq + (b.rs.length : Int)
        rw [sumE_snoc, if_pos ⟨rfl, rfl⟩, ← hseq (by simpa using hm)]
    · rw [if_neg hpp, sumE_snoc, if_neg (fun h => hpp h.1.symm), hI.sum]; omega
theorem once_step0 {bs : List BatM} {A : TabA} {b : BatM} (hI : OnceI bs A) (hp : b.pid = 0) : OnceI bs (nextT A b) :=
  ⟨fun a ha => by rw [rowF_next0 hp]; exact hI.le a ha, fun p => by rw [rowF_next0 hp]; exact hI.sum p⟩
end Go.Dec
