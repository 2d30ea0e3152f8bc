/- Isolation: what holds of what was taken: a transaction's batches have one fate. -/
import Derived.Test.YtpjfebedfejmgaaGreatH1
namespace Go.Dec
set_option linter.unusedVariables false
set_option linter.unusedSimpArgs false

def keyEq (a b : BatM) : Prop := a.pid = b.pid ∧ a.epoch = b.epoch
/-- No mark of a batch's transaction stands from here to there. -/
def noMark (bs : List BatM) (i j : Nat) (a : BatM) : Prop := ∀ k (hk : k < bs.length), i < k → k < j → keyEq bs[k] a → markB bs[k] = false

theorem opF_drop {A : ViewA} {p q : Int} (h : p ≠ q) {n : Int} {fa : List TxnA} : opF ⟨n, dropP q A.op, fa⟩ p = opF A p := by
  unfold opF dropP
  rw [List.find?_filter]
  congr 1
  funext t
  by_cases ht : t.pid = p
  · have : t.pid ≠ q := by rw [ht]; exact h
    simp [ht, h]
  · simp [ht]

theorem inv1 {bs : List BatM} {A : ViewA} (h : Hist bs A) : ∀ i (hi : i < bs.length), bs[i].kind = 1 → noMark bs i bs.length bs[i] → ∃ t, opF A bs[i].pid = some t ∧ t.epoch = bs[i].epoch ∧ t.first ≤ bs[i].base := by
  induction h with
  | nil => intro i hi; cases hi
  | @snoc bs A b hh hc ih =>
    obtain ⟨hv, hbase, hmay⟩ := code_zero hc
    intro i hi hk hno
    by_cases hib : i < bs.length
    · have hgi : (bs ++ [b])[i] = bs[i] := List.getElem_append_left hib
      rw [hgi] at hk hno ⊢
      obtain ⟨t, h1, h2, h3⟩ := ih i hib hk fun k hk' hik hkj hkey => by
        have := hno k (by rw [List.length_append]; omega) hik (by rw [List.length_append]; omega) (by rw [List.getElem_append_left hk']; exact hkey)
        rwa [List.getElem_append_left hk'] at this
      refine ⟨t, ?_, h2, h3⟩
      unfold takeV
      split
      · show (A.op ++ [_]).find? _ = some t
        rw [List.find?_append]
        have : A.op.find? (fun u => decide (u.pid = bs[i].pid)) = some t := h1
        rw [this]; rfl
      · split
        · rename_i hm
          obtain ⟨u, hu⟩ : ∃ u, opF A b.pid = some u := Option.isSome_iff_exists.1 hm.2
          have hk0 : b.kind ≠ 0 := by
            have := hm.1
            unfold markB at this
            simp only [Bool.or_eq_true, decide_eq_true_eq] at this
            omega
          obtain ⟨-, m2, -, -⟩ := may_zero (hmay hk0)
          have hne : bs[i].pid ≠ b.pid := fun e => by
            have e2 : u = t := by rw [← e, h1] at hu; exact (Option.some.inj hu).symm
            have := hno bs.length (by rw [List.length_append]; simp) hib (by rw [List.length_append]; simp) (by
              rw [List.getElem_append_right (Nat.le_refl _)]
              simp only [Nat.sub_self, List.getElem_cons_zero]
              exact ⟨e.symm, by rw [← m2 u hu, e2, h2]⟩)
            rw [List.getElem_append_right (Nat.le_refl _)] at this
            simp only [Nat.sub_self, List.getElem_cons_zero] at this
            rw [hm.1] at this; cases this
          split
          · rw [opF_drop hne]; exact h1
          · rw [opF_drop hne]; exact h1
        · exact h1
    · have hib : i = bs.length := by rw [List.length_append] at hi; simp at hi; omega
      subst hib
      have hgi : (bs ++ [b])[bs.length] = b := by rw [List.getElem_append_right (Nat.le_refl _)]; simp
      rw [hgi] at hk ⊢
      obtain ⟨-, m2, -, -⟩ := may_zero (hmay (by omega))
      unfold takeV
      cases ho : opF A b.pid with
      | none =>
        rw [if_pos ⟨hk, rfl⟩]
        refine ⟨⟨b.pid, b.epoch, b.base, -1⟩, ?_, rfl, Int.le_refl _⟩
        show (A.op ++ [_]).find? _ = _
        rw [List.find?_append]
        have : A.op.find? (fun u => decide (u.pid = b.pid)) = none := ho
        rw [this]
        simp
      | some t =>
        have hmk : markB b = false := by unfold markB; rw [hk]; rfl
        rw [if_neg (fun h => by cases h.2), if_neg (fun h => by rw [hmk] at h; cases h.1)]
        refine ⟨t, ho, m2 t ho, ?_⟩
        have := ((hist_ok hh).op t (opF_some ho).1).1.first
        omega

theorem inv2 {bs : List BatM} {A : ViewA} (h : Hist bs A) : ∀ i j (hi : i < bs.length) (hj : j < bs.length), i < j → bs[i].kind = 1 → bs[j].kind = 1 → keyEq bs[j] bs[i] → noMark bs i j bs[i] →
    ∀ t, (t ∈ A.op ∨ t ∈ A.fa) → t.pid = bs[i].pid → t.epoch = bs[i].epoch → t.first ≤ bs[i].base ∨ t.first > bs[j].base := by
  induction h with
  | nil => intro i j hi; cases hi
  | @snoc bs A b hh hc ih =>
    obtain ⟨hv, hbase, hmay⟩ := code_zero hc
    intro i j hi hj hij hki hkj hkey hno t ht htp hte
    have hib : i < bs.length := by rw [List.length_append] at hj; simp at hj; omega
    have hgi : (bs ++ [b])[i] = bs[i] := List.getElem_append_left hib
    rw [hgi] at hki hkey hno htp hte ⊢
    by_cases hjb : j < bs.length
    · have hgj : (bs ++ [b])[j] = bs[j] := List.getElem_append_left hjb
      rw [hgj] at hkj hkey ⊢
      have hno' : noMark bs i j bs[i] := fun k hk' hik hkj' hkey' => by
        have := hno k (by rw [List.length_append]; omega) hik hkj' (by rw [List.getElem_append_left hk']; exact hkey')
        rwa [List.getElem_append_left hk'] at this
      have old : ∀ u, (u ∈ A.op ∨ u ∈ A.fa) → u.pid = bs[i].pid → u.epoch = bs[i].epoch → u.first ≤ bs[i].base ∨ u.first > bs[j].base := ih i j hib hjb hij hki hkj hkey hno'
      have hjl := (hist_base hh).2 _ (List.getElem_mem hjb)
      unfold takeV at ht
      split at ht
      · rcases ht with ht | ht
        · rcases List.mem_append.1 ht with ht | ht
          · exact old t (.inl ht) htp hte
          · rw [List.mem_singleton.1 ht]
            right; show b.base > _; omega
        · exact old t (.inr ht) htp hte
      · split at ht
        · rename_i hm
          obtain ⟨u, hu⟩ : ∃ u, opF A b.pid = some u := Option.isSome_iff_exists.1 hm.2
          split at ht
          · rcases ht with ht | ht
            · exact old t (.inl (List.mem_filter.1 ht).1) htp hte
            · rcases List.mem_append.1 ht with ht | ht
              · exact old t (.inr ht) htp hte
              · rw [hu] at ht
                have e := List.mem_singleton.1 ht
                subst e
                exact old u (.inl (opF_some hu).1) htp hte
          · rcases ht with ht | ht
            · exact old t (.inl (List.mem_filter.1 ht).1) htp hte
            · exact old t (.inr ht) htp hte
        · exact old t ht htp hte
    · have hjb : j = bs.length := by rw [List.length_append] at hj; simp at hj; omega
      subst hjb
      have hgj : (bs ++ [b])[bs.length] = b := by rw [List.getElem_append_right (Nat.le_refl _)]; simp
      rw [hgj] at hkj hkey ⊢
      obtain ⟨t0, h1, h2, h3⟩ := inv1 hh i hib hki fun k hk' hik hkj' hkey' => by
        have := hno k (by rw [List.length_append]; omega) hik hkj' (by rw [List.getElem_append_left hk']; exact hkey')
        rwa [List.getElem_append_left hk'] at this
      obtain ⟨m1, m2, -, -⟩ := may_zero (hmay (by omega))
      have ho : opF A b.pid = some t0 := by rw [hkey.1]; exact h1
      have hmk : markB b = false := by unfold markB; rw [hkj]; rfl
      have htk : takeV A b = { A with next := b.base + spanB b } := by
        unfold takeV
        rw [if_neg (fun h => by rw [ho] at h; cases h.2), if_neg (fun h => by rw [hmk] at h; cases h.1)]
      rw [htk] at ht
      rcases ht with ht | ht
      · have ht : t ∈ A.op := ht
        have e : t = t0 := by
          have h4 := opF_some h1
          have hnd := (hist_ok hh).pids
          have : ∀ {l : List TxnA}, (l.map (·.pid)).Nodup → t ∈ l → t0 ∈ l → t.pid = t0.pid → t = t0 := fun {l} hnd h5 h6 h7 => by
            induction l with
            | nil => cases h5
            | cons a r ihl =>
              rw [List.map_cons, List.nodup_cons] at hnd
              rcases List.mem_cons.1 h5 with e5 | m5 <;> rcases List.mem_cons.1 h6 with e6 | m6
              · exact e5.trans e6.symm
              · exact absurd (List.mem_map.2 ⟨t0, m6, by rw [← e5]; exact h7.symm⟩) hnd.1
              · exact absurd (List.mem_map.2 ⟨t, m5, by rw [← e6]; exact h7⟩) hnd.1
              · exact ihl hnd.2 m5 m6
          exact this hnd ht h4.1 (by rw [htp, h4.2])
        rw [e]; exact .inl h3
      · have ht : t ∈ A.fa := ht
        exact absurd ⟨by rw [htp, hkey.1], by rw [hte, hkey.2]⟩ (faF_none m1 t ht)

theorem one_fate {bs : List BatM} {A : ViewA} (h : Hist bs A) (i j : Nat) (hi : i < bs.length) (hj : j < bs.length) (hij : i < j) (hki : bs[i].kind = 1) (hkj : bs[j].kind = 1) (hkey : keyEq bs[j] bs[i]) (hno : noMark bs i j bs[i]) (hst : bs[j].base < stableA A) :
    fateA A bs[i] = fateA A bs[j] := by
  have hlt : bs[i].base < bs[j].base := (List.pairwise_iff_getElem.1 (hist_base h).1) i j hi hj hij
  have h1 : markB bs[i] = false := by unfold markB; rw [hki]; rfl
  have h2 : markB bs[j] = false := by unfold markB; rw [hkj]; rfl
  unfold fateA
  rw [if_neg (show ¬ markB bs[i] = true by rw [h1]; simp), if_neg (show ¬ bs[i].base ≥ stableA A by omega), if_neg (show ¬ markB bs[j] = true by rw [h2]; simp), if_neg (show ¬ bs[j].base ≥ stableA A by omega), hkey.1, hkey.2, hki, hkj]
  cases hf : faF A bs[i].pid bs[i].epoch with
  | none => rfl
  | some t =>
    obtain ⟨ht, htp, hte⟩ := faF_some hf
    rcases inv2 h i j hi hj hij hki hkj hkey hno t (.inr ht) htp hte with h5 | h5
    · rw [if_pos ⟨rfl, rfl, by show bs[i].base ≥ t.first; omega⟩, if_pos ⟨rfl, rfl, by show bs[j].base ≥ t.first; omega⟩]
    · rw [if_neg (fun h6 => by have : bs[i].base ≥ t.first := h6.2.2; omega), if_neg (fun h6 => by have : bs[j].base ≥ t.first := h6.2.2; omega)]

end Go.Dec
