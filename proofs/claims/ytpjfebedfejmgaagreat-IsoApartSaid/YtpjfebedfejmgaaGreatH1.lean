/- Isolation: what holds of what was taken: it grows. -/
import Derived.Test.YtpjfebedfejmgaaGreatT2
namespace Go.Dec
set_option linter.unusedVariables false
set_option linter.unusedSimpArgs false

theorem okV_nil : okV ⟨0, [], []⟩ := ⟨by show (0 : Int) ≤ 0 ∧ (0 : Int) ≤ _; omega, by simp, by simp, by simp, by simp, by simp, by simp, by simp, by simp⟩
theorem hist_ok {bs : List BatM} {A : ViewA} (h : Hist bs A) : okV A := by
  induction h with
  | nil => exact okV_nil
  | snoc _ hc ih => exact okV_take ih hc
theorem take_next {A : ViewA} {b : BatM} : (takeV A b).next = b.base + spanB b := by
  unfold takeV
  split
  · rfl
  · split
    · split <;> rfl
    · rfl
theorem hist_base {bs : List BatM} {A : ViewA} (h : Hist bs A) : bs.Pairwise (fun a b => a.base < b.base) ∧ ∀ b ∈ bs, b.base < A.next := by
  induction h with
  | nil => exact ⟨.nil, by simp⟩
  | @snoc bs A b _ hc ih =>
    obtain ⟨hv, hb, -⟩ := code_zero hc
    have hs := (span_le b hv).1
    refine ⟨?_, fun c hcm => ?_⟩
    · rw [List.pairwise_append]
      refine ⟨ih.1, by simp, fun c hcm d hd => ?_⟩
      rw [List.mem_singleton.1 hd]
      have := ih.2 c hcm
      omega
    · rw [take_next]
      rcases List.mem_append.1 hcm with hcm | hcm
      · have := ih.2 c hcm; omega
      · rw [List.mem_singleton.1 hcm]; omega
theorem stable_le {A : ViewA} (hok : okV A) : stableA A ≤ A.next ∧ ∀ t ∈ A.op, stableA A ≤ t.first := by
  unfold stableA
  cases hop : A.op with
  | nil => exact ⟨Int.le_refl _, by simp⟩
  | cons u us =>
    dsimp only
    have hu : u ∈ A.op := by rw [hop]; exact List.mem_cons_self ..
    have := (hok.op u hu).1.first
    refine ⟨by omega, fun t ht => ?_⟩
    have hb := hok.byFirst
    rw [hop] at hb
    rcases List.mem_cons.1 ht with rfl | ht
    · exact Int.le_refl _
    · have := (List.pairwise_cons.1 hb).1 t ht; omega
theorem stable_ge {A : ViewA} {s : Int} (h1 : s ≤ A.next) (h2 : ∀ t ∈ A.op, s ≤ t.first) : s ≤ stableA A := by
  unfold stableA
  cases hop : A.op with
  | nil => exact h1
  | cons u us => exact h2 u (by rw [hop]; exact List.mem_cons_self ..)
theorem stable_mono {A : ViewA} {b : BatM} (hok : okV A) (hc : codeA A b = 0) : stableA A ≤ stableA (takeV A b) := by
  obtain ⟨hv, hb, -⟩ := code_zero hc
  have hs := (span_le b hv).1
  obtain ⟨h1, h2⟩ := stable_le hok
  refine stable_ge (by rw [take_next]; omega) fun t ht => ?_
  unfold takeV at ht
  split at ht
  · rcases List.mem_append.1 ht with ht | ht
    · exact h2 t ht
    · rw [List.mem_singleton.1 ht]; show stableA A ≤ b.base; omega
  · split at ht
    · split at ht <;> exact h2 t (List.mem_filter.1 ht).1
    · exact h2 t ht
theorem fate_keep {A : ViewA} {b c : BatM} (hok : okV A) (hc : codeA A b = 0) (hlt : c.base < stableA A) : fateA (takeV A b) c = fateA A c := by
  have hm := stable_mono hok hc
  unfold fateA
  by_cases hmk : markB c = true
  · rw [if_pos hmk, if_pos hmk]
  rw [if_neg hmk, if_neg hmk, if_neg (show ¬ c.base ≥ stableA (takeV A b) by omega), if_neg (show ¬ c.base ≥ stableA A by omega)]
  have hfa : (takeV A b).fa = A.fa ∨ ∃ t ∈ A.op, (takeV A b).fa = A.fa ++ [{ t with last := b.base }] := by
    unfold takeV
    split
    · exact .inl rfl
    · split
      · rename_i h1 h2
        obtain ⟨t, ht⟩ : ∃ t, opF A b.pid = some t := Option.isSome_iff_exists.1 h2.2
        split
        · refine .inr ⟨t, (opF_some ht).1, ?_⟩
          rw [ht]; rfl
        · exact .inl rfl
      · exact .inl rfl
  rcases hfa with hfa | ⟨t, ht, hfa⟩
  · have : faF (takeV A b) c.pid c.epoch = faF A c.pid c.epoch := by unfold faF; rw [hfa]
    rw [this]
  · have h2 := (stable_le hok).2 t ht
    have hf : faF (takeV A b) c.pid c.epoch = (faF A c.pid c.epoch).or (([{ t with last := b.base }] : List TxnA).find? fun t => decide (t.pid = c.pid ∧ t.epoch = c.epoch)) := by
      unfold faF; rw [hfa, List.find?_append]
    rw [hf]
    cases hA : faF A c.pid c.epoch with
    | some u => rfl
    | none =>
      rw [Option.none_or]
      by_cases hk : t.pid = c.pid ∧ t.epoch = c.epoch
      · rw [List.find?_cons_of_pos (by simp [hk])]
        rw [if_neg (fun h => by have := h.2.2; have : c.base ≥ t.first := this; omega), if_neg (fun h => by have := h.2.1; cases this)]
      · rw [List.find?_cons_of_neg (by simpa using hk), List.find?_nil]
theorem parted {s : Int} : ∀ {bs : List BatM}, bs.Pairwise (fun a b => a.base < b.base) → ∃ b1 b2, bs = b1 ++ b2 ∧ (∀ c ∈ b1, c.base < s) ∧ ∀ c ∈ b2, c.base ≥ s
  | [], _ => ⟨[], [], rfl, by simp, by simp⟩
  | b :: r, h => by
    rw [List.pairwise_cons] at h
    by_cases hb : b.base < s
    · obtain ⟨b1, b2, rfl, h1, h2⟩ := parted (s := s) h.2
      refine ⟨b :: b1, b2, rfl, fun c hc => ?_, h2⟩
      rcases List.mem_cons.1 hc with rfl | hc
      · exact hb
      · exact h1 c hc
    · refine ⟨[], b :: r, rfl, by simp, fun c hc => ?_⟩
      rcases List.mem_cons.1 hc with rfl | hc
      · omega
      · have := h.1 c hc; omega
theorem pick_grow {bs : List BatM} {A : ViewA} {b : BatM} (h : Hist bs A) (hc : codeA A b = 0) : ∃ more, pickA (takeV A b) (bs ++ [b]) = pickA A bs ++ more := by
  have hok := hist_ok h
  obtain ⟨b1, b2, rfl, h1, h2⟩ := parted (s := stableA A) (hist_base h).1
  have e1 : pickA (takeV A b) b1 = pickA A b1 := by
    unfold pickA
    clear h
    induction b1 with
    | nil => rfl
    | cons c r ih =>
      rw [List.flatMap_cons, List.flatMap_cons, fate_keep hok hc (h1 c (List.mem_cons_self ..)), ih fun d hd => h1 d (List.mem_cons_of_mem _ hd)]
  have e2 : pickA A b2 = [] := by
    unfold pickA
    rw [List.flatMap_eq_nil_iff]
    intro c hcm
    have := h2 c hcm
    rw [if_neg]
    unfold fateA
    split
    · decide
    · decide
  refine ⟨pickA (takeV A b) (b2 ++ [b]), ?_⟩
  have e3 : ∀ (A : ViewA) (x y : List BatM), pickA A (x ++ y) = pickA A x ++ pickA A y := fun A x y => by unfold pickA; rw [List.flatMap_append]
  rw [List.append_assoc, e3, e1, e3 A, e2, List.append_nil]

end Go.Dec
