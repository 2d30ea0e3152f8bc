/- Isolation: what holds of what was taken: the document's stable offset and its committed records are the view's. -/
import Derived.Test.YtpjfebedfejmgaaGreatH2
namespace Go.Dec
set_option linter.unusedVariables false
set_option linter.unusedSimpArgs false

def endL (a : BatM) : List BatM → Int
  | [] => 0
  | b :: r => if markB b = true ∧ b.pid = a.pid ∧ b.epoch = a.epoch then (if b.kind = 2 then 1 else 2) else endL a r
def stableL (n : Int) : List BatM → Int
  | [] => n
  | b :: r => if b.kind = 1 ∧ endL b r = 0 then b.base else stableL n r
def commL (s : Int) : List BatM → List AtM
  | [] => []
  | b :: r => (if b.base < s ∧ markB b = false ∧ (b.kind = 0 ∨ endL b r = 1) then flat1 b else []) ++ commL s r

theorem end_snoc (a b : BatM) : ∀ s : List BatM, endL a (s ++ [b]) = if endL a s ≠ 0 then endL a s else endL a [b]
  | [] => by simp [endL]
  | c :: s => by
    have ih := end_snoc a b s
    have e : ∀ t, endL a (c :: t) = if markB c = true ∧ c.pid = a.pid ∧ c.epoch = a.epoch then (if c.kind = 2 then 1 else 2) else endL a t := fun _ => rfl
    rw [List.cons_append, e, e]
    by_cases h : markB c = true ∧ c.pid = a.pid ∧ c.epoch = a.epoch
    · rw [if_pos h, if_pos h]
      split <;> simp
    · rw [if_neg h, if_neg h, ih]
theorem end_one (a b : BatM) : endL a [b] = if markB b = true ∧ b.pid = a.pid ∧ b.epoch = a.epoch then (if b.kind = 2 then 1 else 2) else 0 := rfl
theorem snoc_split {bs p s : List BatM} {a b : BatM} (h : bs ++ [b] = p ++ a :: s) : (s = [] ∧ a = b ∧ p = bs) ∨ ∃ s', s = s' ++ [b] ∧ bs = p ++ a :: s' := by
  rcases List.eq_nil_or_concat s with hs | ⟨s', c, hs⟩
  · subst hs
    left
    have := List.append_inj' h rfl
    exact ⟨rfl, (List.cons.inj this.2).1.symm, this.1.symm⟩
  · rw [List.concat_eq_append] at hs
    subst hs
    right
    have h2 : bs ++ [b] = (p ++ a :: s') ++ [c] := by rw [h]; simp
    have := List.append_inj' h2 rfl
    exact ⟨s', by rw [(List.cons.inj this.2).1], this.1⟩

theorem take_cases {A : ViewA} {b : BatM} (hc : codeA A b = 0) :
    (b.kind = 1 ∧ opF A b.pid = none ∧ takeV A b = ⟨b.base + spanB b, A.op ++ [⟨b.pid, b.epoch, b.base, -1⟩], A.fa⟩) ∨
    (∃ t, markB b = true ∧ opF A b.pid = some t ∧ t.epoch = b.epoch ∧ ((b.kind = 3 ∧ takeV A b = ⟨b.base + spanB b, dropP b.pid A.op, A.fa ++ [⟨t.pid, t.epoch, t.first, b.base⟩]⟩) ∨ (b.kind = 2 ∧ takeV A b = ⟨b.base + spanB b, dropP b.pid A.op, A.fa⟩))) ∨
    ((markB b = true → opF A b.pid = none) ∧ (b.kind = 1 → ∃ t, opF A b.pid = some t ∧ t.epoch = b.epoch) ∧ takeV A b = ⟨b.base + spanB b, A.op, A.fa⟩) := by
  obtain ⟨hv, hbase, hmay⟩ := code_zero hc
  have hmk : markB b = true → b.kind = 2 ∨ b.kind = 3 := fun h => by
    unfold markB at h
    simpa using h
  cases ho : opF A b.pid with
  | none =>
    by_cases hk : b.kind = 1
    · left
      refine ⟨hk, rfl, ?_⟩
      unfold takeV
      rw [if_pos ⟨hk, by rw [ho]; rfl⟩]
    · right; right
      refine ⟨fun _ => rfl, fun h => absurd h hk, ?_⟩
      unfold takeV
      rw [if_neg (fun h => hk h.1), if_neg (fun h => by rw [ho] at h; cases h.2)]
  | some t =>
    by_cases hm : markB b = true
    · have hk := hmk hm
      obtain ⟨-, m2, -, -⟩ := may_zero (hmay (by omega))
      right; left
      refine ⟨t, hm, rfl, m2 t ho, ?_⟩
      rcases hk with hk | hk
      · right
        refine ⟨hk, ?_⟩
        unfold takeV
        rw [if_neg (fun h => by omega), if_pos ⟨hm, by rw [ho]; rfl⟩, if_neg (by omega)]
      · left
        refine ⟨hk, ?_⟩
        unfold takeV
        rw [if_neg (fun h => by omega), if_pos ⟨hm, by rw [ho]; rfl⟩, if_pos hk, ho]; rfl
    · right; right
      refine ⟨fun h => absurd h hm, fun h => ?_, ?_⟩
      · obtain ⟨-, m2, -, -⟩ := may_zero (hmay (by omega))
        exact ⟨t, rfl, m2 t ho⟩
      · unfold takeV
        rw [if_neg (fun h => by rw [ho] at h; cases h.2), if_neg (fun h => hm h.1)]

theorem mem_uniq {l : List TxnA} {t u : TxnA} (hnd : (l.map (·.pid)).Nodup) (h1 : t ∈ l) (h2 : u ∈ l) (h : t.pid = u.pid) : t = u := by
  induction l with
  | nil => cases h1
  | cons a r ihl =>
    rw [List.map_cons, List.nodup_cons] at hnd
    rcases List.mem_cons.1 h1 with e5 | m5 <;> rcases List.mem_cons.1 h2 with e6 | m6
    · exact e5.trans e6.symm
    · exact absurd (List.mem_map.2 ⟨u, m6, by rw [← e5]; exact h.symm⟩) hnd.1
    · exact absurd (List.mem_map.2 ⟨t, m5, by rw [← e6]; exact h⟩) hnd.1
    · exact ihl hnd.2 m5 m6

theorem opF_mem {A : ViewA} (hok : okV A) {t : TxnA} (ht : t ∈ A.op) : opF A t.pid = some t := by
  cases h : opF A t.pid with
  | none => exact absurd rfl (opF_none h t ht)
  | some u => rw [mem_uniq hok.pids (opF_some h).1 ht (opF_some h).2]

theorem end_noMark {p s : List BatM} {a : BatM} (h : endL a s = 0) : noMark (p ++ a :: s) p.length (p ++ a :: s).length a := by
  intro k hk hik _ hkey
  have hk2 : k - (p.length + 1) < s.length := by simp at hk; omega
  have hget : (p ++ a :: s)[k] = s[k - (p.length + 1)] := by
    rw [List.getElem_append_right (by omega)]
    have : k - p.length = (k - (p.length + 1)) + 1 := by omega
    simp only [this, List.getElem_cons_succ]
  rw [hget] at hkey ⊢
  have hall : ∀ (s : List BatM), endL a s = 0 → ∀ c ∈ s, keyEq c a → markB c = false := by
    intro s
    induction s with
    | nil => intro _ c hc; cases hc
    | cons c s ih =>
      intro h d hd hkey
      unfold endL at h
      split at h
      · split at h <;> cases h
      · rename_i hn
        rcases List.mem_cons.1 hd with rfl | hd
        · cases hm : markB d with
          | false => rfl
          | true => exact absurd ⟨hm, hkey.1, hkey.2⟩ hn
        · exact ih h d hd hkey
  exact hall s h _ (List.getElem_mem hk2) hkey

theorem invA {bs : List BatM} {A : ViewA} (h : Hist bs A) {p s : List BatM} {a : BatM} (hb : bs = p ++ a :: s) (hk : a.kind = 1) (he : endL a s = 0) : ∃ t, opF A a.pid = some t ∧ t.epoch = a.epoch ∧ t.first ≤ a.base := by
  subst hb
  have hi : p.length < (p ++ a :: s).length := by simp
  have hget : (p ++ a :: s)[p.length] = a := by simp
  have := inv1 h p.length hi (by rw [hget]; exact hk) (by rw [hget]; exact end_noMark he)
  rwa [hget] at this

theorem invB {bs : List BatM} {A : ViewA} (h : Hist bs A) : ∀ t ∈ A.op, ∃ p a s, bs = p ++ a :: s ∧ a.kind = 1 ∧ endL a s = 0 ∧ a.pid = t.pid ∧ a.epoch = t.epoch ∧ a.base = t.first := by
  induction h with
  | nil => intro t ht; cases ht
  | @snoc bs A b hh hc ih =>
    have hok := hist_ok hh
    intro t ht
    have ext : ∀ u ∈ A.op, (markB b = true → b.pid = u.pid → b.epoch = u.epoch → False) → ∃ p a s, bs ++ [b] = p ++ a :: s ∧ a.kind = 1 ∧ endL a s = 0 ∧ a.pid = u.pid ∧ a.epoch = u.epoch ∧ a.base = u.first := fun u hu hno => by
      obtain ⟨p, a, s, h1, h2, h3, h4, h5, h6⟩ := ih u hu
      refine ⟨p, a, s ++ [b], by rw [h1]; simp, h2, ?_, h4, h5, h6⟩
      rw [end_snoc, if_neg (by rw [h3]; simp), end_one, if_neg]
      rintro ⟨g1, g2, g3⟩
      exact hno g1 (by rw [g2, h4]) (by rw [g3, h5])
    rcases take_cases hc with ⟨h1, h2, h3⟩ | ⟨u, h1, h2, h3, h4⟩ | ⟨h1, h2, h3⟩
    · rw [h3] at ht
      rcases List.mem_append.1 ht with ht | ht
      · exact ext t ht fun g1 g2 _ => opF_none h2 t ht g2.symm
      · rw [List.mem_singleton.1 ht]
        exact ⟨bs, b, [], rfl, h1, rfl, rfl, rfl, rfl⟩
    · have ht : t ∈ dropP b.pid A.op := by
        rcases h4 with ⟨-, h4⟩ | ⟨-, h4⟩ <;> (rw [h4] at ht; exact ht)
      obtain ⟨g1, g2⟩ := List.mem_filter.1 ht
      exact ext t g1 fun _ g3 _ => by simp at g2; exact g2 g3.symm
    · rw [h3] at ht
      exact ext t ht fun g1 g2 _ => opF_none (h1 g1) t ht g2.symm

theorem invC {bs : List BatM} {A : ViewA} (h : Hist bs A) : ∀ p a s, bs = p ++ a :: s → a.kind = 1 → endL a s = 2 → ∃ t ∈ A.fa, t.pid = a.pid ∧ t.epoch = a.epoch ∧ t.first ≤ a.base := by
  induction h with
  | nil => intro p a s h; simp at h
  | @snoc bs A b hh hc ih =>
    intro p a s hb hk he
    have hfa : ∀ t ∈ A.fa, t ∈ (takeV A b).fa := fun t ht => by
      rcases take_cases hc with ⟨h1, h2, h3⟩ | ⟨u, h1, h2, h3, ⟨-, h4⟩ | ⟨-, h4⟩⟩ | ⟨h1, h2, h3⟩
      · rw [h3]; exact ht
      · rw [h4]; exact List.mem_append_left _ ht
      · rw [h4]; exact ht
      · rw [h3]; exact ht
    rcases snoc_split hb with ⟨rfl, rfl, rfl⟩ | ⟨s', rfl, hb'⟩
    · cases he
    · rw [end_snoc] at he
      by_cases h0 : endL a s' ≠ 0
      · rw [if_pos h0] at he
        obtain ⟨t, h1, h2⟩ := ih p a s' hb' hk he
        exact ⟨t, hfa t h1, h2⟩
      · rw [if_neg h0, end_one] at he
        have h0 : endL a s' = 0 := Decidable.not_not.1 h0
        split at he
        · rename_i hm
          split at he
          · cases he
          · rename_i hk2
            obtain ⟨t, g1, g2, g3⟩ := invA hh hb' hk h0
            rw [← hm.2.1] at g1
            rcases take_cases hc with ⟨h1, h2, h3⟩ | ⟨u, h1, h2, h3, ⟨-, h4⟩ | ⟨h5, h4⟩⟩ | ⟨h1, h2, h3⟩
            · rw [h2] at g1; cases g1
            · rw [h2] at g1
              obtain rfl := Option.some.inj g1
              refine ⟨⟨u.pid, u.epoch, u.first, b.base⟩, by rw [h4]; simp, ?_, g2, g3⟩
              show u.pid = a.pid
              rw [(opF_some h2).2, hm.2.1]
            · exact absurd h5 hk2
            · rw [h1 hm.1] at g1; cases g1
        · cases he

theorem invD {bs : List BatM} {A : ViewA} (h : Hist bs A) : ∀ p a s, bs = p ++ a :: s → a.kind = 1 → endL a s = 1 → ∀ t, (t ∈ A.op ∨ t ∈ A.fa) → t.pid = a.pid → t.epoch = a.epoch → a.base < t.first := by
  induction h with
  | nil => intro p a s h; simp at h
  | @snoc bs A b hh hc ih =>
    intro p a s hb hk he
    obtain ⟨hv, hbase, hmay⟩ := code_zero hc
    rcases snoc_split hb with ⟨rfl, rfl, rfl⟩ | ⟨s', rfl, hb'⟩
    · cases he
    · have hlt : a.base < A.next := (hist_base hh).2 a (by rw [hb']; simp)
      rw [end_snoc] at he
      by_cases h0 : endL a s' ≠ 0
      · rw [if_pos h0] at he
        have ih := ih p a s' hb' hk he
        intro t ht htp hte
        rcases take_cases hc with ⟨h1, h2, h3⟩ | ⟨u, h1, h2, h3, ⟨-, h4⟩ | ⟨-, h4⟩⟩ | ⟨h1, h2, h3⟩
        · rw [h3] at ht
          rcases ht with ht | ht
          · rcases List.mem_append.1 ht with ht | ht
            · exact ih t (.inl ht) htp hte
            · rw [List.mem_singleton.1 ht]; show a.base < b.base; omega
          · exact ih t (.inr ht) htp hte
        · rw [h4] at ht
          rcases ht with ht | ht
          · exact ih t (.inl (List.mem_filter.1 ht).1) htp hte
          · rcases List.mem_append.1 ht with ht | ht
            · exact ih t (.inr ht) htp hte
            · rw [List.mem_singleton.1 ht] at htp hte ⊢
              exact ih u (.inl (opF_some h2).1) htp hte
        · rw [h4] at ht
          rcases ht with ht | ht
          · exact ih t (.inl (List.mem_filter.1 ht).1) htp hte
          · exact ih t (.inr ht) htp hte
        · rw [h3] at ht
          exact ih t ht htp hte
      · rw [if_neg h0, end_one] at he
        have h0 : endL a s' = 0 := Decidable.not_not.1 h0
        split at he
        · rename_i hm
          split at he
          · rename_i hk2
            obtain ⟨t, g1, g2, g3⟩ := invA hh hb' hk h0
            rw [← hm.2.1] at g1
            obtain ⟨m1, -, -, -⟩ := may_zero (hmay (by omega))
            intro t2 ht htp hte
            rcases take_cases hc with ⟨h1, h2, h3⟩ | ⟨u, h1, h2, h3, ⟨h5, h4⟩ | ⟨h5, h4⟩⟩ | ⟨h1, h2, h3⟩
            · rw [h2] at g1; cases g1
            · omega
            · rw [h4] at ht
              rcases ht with ht | ht
              · have := (List.mem_filter.1 ht).2
                simp at this
                exact absurd (htp.trans hm.2.1.symm) this
              · exact absurd ⟨htp.trans hm.2.1.symm, hte.trans hm.2.2.symm⟩ (faF_none m1 t2 ht)
            · rw [h1 hm.1] at g1; cases g1
          · cases he
        · cases he

/-- The least batch that is open. -/
theorem stableL_first : ∀ (bs : List BatM) {n : Int}, (stableL n bs = n ∧ ∀ p a s, bs = p ++ a :: s → ¬ (a.kind = 1 ∧ endL a s = 0)) ∨
    ∃ p a s, bs = p ++ a :: s ∧ a.kind = 1 ∧ endL a s = 0 ∧ stableL n bs = a.base ∧ ∀ p' a' s', bs = p' ++ a' :: s' → a'.kind = 1 → endL a' s' = 0 → p.length ≤ p'.length
  | [], n => .inl ⟨rfl, fun p a s h => by simp at h⟩
  | b :: r, n => by
    unfold stableL
    by_cases h : b.kind = 1 ∧ endL b r = 0
    · rw [if_pos h]
      exact .inr ⟨[], b, r, rfl, h.1, h.2, rfl, fun _ _ _ _ _ _ => by simp⟩
    · rw [if_neg h]
      rcases stableL_first r (n := n) with ⟨h1, h2⟩ | ⟨p, a, s, h1, h2, h3, h4, h5⟩
      · refine .inl ⟨h1, fun p a s hp => ?_⟩
        cases p with
        | nil => obtain ⟨rfl, rfl⟩ := List.cons.inj hp; exact h
        | cons c p => exact h2 p a s (List.cons.inj hp).2
      · refine .inr ⟨b :: p, a, s, by rw [h1]; rfl, h2, h3, h4, fun p' a' s' hp h6 h7 => ?_⟩
        cases p' with
        | nil => obtain ⟨rfl, rfl⟩ := List.cons.inj hp; exact absurd ⟨h6, h7⟩ h
        | cons c p' => have := h5 p' a' s' (List.cons.inj hp).2 h6 h7; simp; omega

theorem stable_doc {bs : List BatM} {A : ViewA} (h : Hist bs A) : stableA A = stableL A.next bs := by
  have hok := hist_ok h
  symm
  refine stable_is hok ?_ (fun t ht => ?_) ?_
  · rcases stableL_first bs (n := A.next) with ⟨h1, -⟩ | ⟨p, a, s, h1, h2, h3, h4, h5⟩
    · omega
    · rw [h4]
      have := (hist_base h).2 a (by rw [h1]; simp); omega
  · obtain ⟨p, a, s, h1, h2, h3, -, -, h6⟩ := invB h t ht
    rcases stableL_first bs (n := A.next) with ⟨-, h7⟩ | ⟨p', a', s', g1, g2, g3, g4, g5⟩
    · exact absurd ⟨h2, h3⟩ (h7 p a s h1)
    · rw [g4, ← h6]
      have hle := g5 p a s h1 h2 h3
      have hb := (hist_base h).1
      have e1 : bs[p.length]? = some a := by rw [h1]; simp
      have e2 : bs[p'.length]? = some a' := by rw [g1]; simp
      obtain ⟨i1, i2⟩ := List.getElem?_eq_some_iff.1 e1
      obtain ⟨j1, j2⟩ := List.getElem?_eq_some_iff.1 e2
      by_cases hpp : p'.length = p.length
      · have : a' = a := by rw [← i2, ← j2]; simp only [hpp]
        rw [this]; exact Int.le_refl _
      · have := (List.pairwise_iff_getElem.1 hb) p'.length p.length j1 i1 (by omega)
        rw [i2, j2] at this; omega
  · rcases stableL_first bs (n := A.next) with ⟨h1, -⟩ | ⟨p, a, s, h1, h2, h3, h4, h5⟩
    · exact .inl h1
    · right
      obtain ⟨t, g1, g2, g3⟩ := invA h h1 h2 h3
      obtain ⟨gm, gp⟩ := opF_some g1
      refine ⟨t, gm, ?_⟩
      rw [h4]
      obtain ⟨p', a', s', k1, k2, k3, -, -, k6⟩ := invB h t gm
      have hle := h5 p' a' s' k1 k2 k3
      have hb := (hist_base h).1
      have e1 : bs[p.length]? = some a := by rw [h1]; simp
      have e2 : bs[p'.length]? = some a' := by rw [k1]; simp
      obtain ⟨i1, i2⟩ := List.getElem?_eq_some_iff.1 e1
      obtain ⟨j1, j2⟩ := List.getElem?_eq_some_iff.1 e2
      by_cases hpp : p.length = p'.length
      · have : a = a' := by rw [← i2, ← j2]; simp only [hpp]
        rw [this, k6]
      · have := (List.pairwise_iff_getElem.1 hb) p.length p'.length i1 j1 (by omega)
        rw [i2, j2] at this; omega

theorem hist_valid {bs : List BatM} {A : ViewA} (h : Hist bs A) : ∀ b ∈ bs, validB b = 0 := by
  induction h with
  | nil => intro b hb; cases hb
  | snoc _ hc ih =>
    intro c hcm
    rcases List.mem_append.1 hcm with hcm | hcm
    · exact ih c hcm
    · rw [List.mem_singleton.1 hcm]; exact (code_zero hc).1

theorem end_range (a : BatM) : ∀ s : List BatM, endL a s = 0 ∨ endL a s = 1 ∨ endL a s = 2
  | [] => .inl rfl
  | b :: s => by
    unfold endL
    split
    · split
      · exact .inr (.inl rfl)
      · exact .inr (.inr rfl)
    · exact end_range a s

theorem fate_doc {bs p s : List BatM} {a : BatM} {A : ViewA} (h : Hist bs A) (hb : bs = p ++ a :: s) : fateA A a = 1 ↔ (a.base < stableA A ∧ markB a = false ∧ (a.kind = 0 ∨ endL a s = 1)) := by
  have hok := hist_ok h
  have hv := hist_valid h a (by rw [hb]; simp)
  have hk := (span_le a hv).2.2.1.1
  unfold fateA
  by_cases hm : markB a = true
  · rw [if_pos hm]
    simp [hm]
  rw [if_neg hm]
  have hm' : markB a = false := by simpa using hm
  by_cases hs : a.base ≥ stableA A
  · rw [if_pos hs]
    constructor
    · intro h; cases h
    · intro h; omega
  rw [if_neg hs]
  have hk01 : a.kind = 0 ∨ a.kind = 1 := by
    unfold markB at hm'
    simp at hm'
    omega
  rcases hk01 with hk0 | hk1
  · rw [if_neg (fun h => by omega)]
    exact ⟨fun _ => ⟨by omega, hm', .inl hk0⟩, fun _ => rfl⟩
  rcases end_range a s with he | he | he
  · obtain ⟨t, g1, g2, g3⟩ := invA h hb hk1 he
    have := (stable_le hok).2 t (opF_some g1).1
    omega
  · have hd := invD h p a s hb hk1 he
    rw [if_neg]
    · exact ⟨fun _ => ⟨by omega, hm', .inr he⟩, fun _ => rfl⟩
    · rintro ⟨-, h2, h3⟩
      obtain ⟨t, ht⟩ := Option.isSome_iff_exists.1 h2
      rw [ht] at h3
      obtain ⟨g1, g2, g3⟩ := faF_some ht
      have h4 := hd t (.inr g1) g2 g3
      have h3 : a.base ≥ t.first := h3
      omega
  · obtain ⟨t, g1, g2, g3, g4⟩ := invC h p a s hb hk1 he
    rw [if_pos]
    · constructor
      · intro h; cases h
      · rintro ⟨-, -, h | h⟩ <;> omega
    · cases hf : faF A a.pid a.epoch with
      | none => exact absurd ⟨g2, g3⟩ (faF_none hf t g1)
      | some u =>
        refine ⟨hk1, rfl, ?_⟩
        obtain ⟨f1, f2, f3⟩ := faF_some hf
        have : u = t := by
          have hkk : ∀ {l : List TxnA}, (l.map fun t => (t.pid, t.epoch)).Nodup → u ∈ l → t ∈ l → u = t := fun {l} hnd h5 h6 => by
            induction l with
            | nil => cases h5
            | cons c r ihl =>
              rw [List.map_cons, List.nodup_cons] at hnd
              rcases List.mem_cons.1 h5 with e5 | m5 <;> rcases List.mem_cons.1 h6 with e6 | m6
              · exact e5.trans e6.symm
              · exact absurd (List.mem_map.2 ⟨t, m6, by rw [← e5, f2, f3, g2, g3]⟩) hnd.1
              · exact absurd (List.mem_map.2 ⟨u, m5, by rw [← e6, f2, f3, g2, g3]⟩) hnd.1
              · exact ihl hnd.2 m5 m6
          exact hkk hok.keys f1 g1
        show a.base ≥ u.first
        rw [this]; exact g4

theorem comm_doc {bs : List BatM} {A : ViewA} (h : Hist bs A) : pickA A bs = commL (stableL A.next bs) bs := by
  rw [← stable_doc h]
  have : ∀ s p, bs = p ++ s → pickA A s = commL (stableA A) s := by
    intro s
    induction s with
    | nil => intro p _; rfl
    | cons a s ih =>
      intro p hb
      have e := fate_doc h hb
      have ih := ih (p ++ [a]) (by rw [hb]; simp)
      unfold pickA at ih ⊢
      rw [List.flatMap_cons, ih]
      show _ = (if _ then flat1 a else []) ++ _
      congr 1
      by_cases hf : fateA A a = 1
      · rw [if_pos hf, if_pos (e.1 hf)]
      · rw [if_neg hf, if_neg (fun h => hf (e.2 h))]
  exact this bs [] rfl

/-- What fell is of no batch that came later. -/
theorem invE {bs : List BatM} {A : ViewA} (h : Hist bs A) : ∀ t ∈ A.fa, ∀ c ∈ bs, c.kind = 1 → c.pid = t.pid → c.epoch = t.epoch → c.base < t.last := by
  induction h with
  | nil => intro t ht; cases ht
  | @snoc bs A b hh hc ih =>
    obtain ⟨hv, hbase, hmay⟩ := code_zero hc
    intro t ht c hcm hk hp he
    rcases List.mem_append.1 hcm with hcm | hcm
    · have hlt := (hist_base hh).2 c hcm
      rcases take_cases hc with ⟨h1, h2, h3⟩ | ⟨u, h1, h2, h3, ⟨h5, h4⟩ | ⟨h5, h4⟩⟩ | ⟨h1, h2, h3⟩
      · rw [h3] at ht; exact ih t ht c hcm hk hp he
      · rw [h4] at ht
        rcases List.mem_append.1 ht with ht | ht
        · exact ih t ht c hcm hk hp he
        · rw [List.mem_singleton.1 ht]; show c.base < b.base; omega
      · rw [h4] at ht; exact ih t ht c hcm hk hp he
      · rw [h3] at ht; exact ih t ht c hcm hk hp he
    · have hcb := List.mem_singleton.1 hcm
      subst hcb
      obtain ⟨m1, -, -, -⟩ := may_zero (hmay (by omega))
      rcases take_cases hc with ⟨h1, h2, h3⟩ | ⟨u, h1, h2, h3, ⟨h5, h4⟩ | ⟨h5, h4⟩⟩ | ⟨h1, h2, h3⟩
      · rw [h3] at ht; exact absurd ⟨hp.symm, he.symm⟩ (faF_none m1 t ht)
      · omega
      · omega
      · rw [h3] at ht; exact absurd ⟨hp.symm, he.symm⟩ (faF_none m1 t ht)

/-- What fell ahead of an offset, forgotten. -/
def forgetA (A : ViewA) (n : Int) : ViewA := ⟨A.next, A.op, A.fa.filter fun t => !decide (t.last < n)⟩
theorem okV_forget {A : ViewA} (hok : okV A) (n : Int) : okV (forgetA A n) := by
  have hsub : (A.fa.filter fun t => !decide (t.last < n)).Sublist A.fa := List.filter_sublist
  exact ⟨hok.next, ⟨hok.many.1, Nat.le_trans hsub.length_le hok.many.2⟩, hok.op, fun t ht => hok.fa t (hsub.subset ht), hok.byFirst, hok.byLast.sublist hsub, hok.pids, hok.keys.sublist (hsub.map _), fun t ht u hu => hok.apart t ht u (hsub.subset hu)⟩
theorem fate_forget {bs : List BatM} {A : ViewA} (h : Hist bs A) (n : Int) {c : BatM} (hc : c ∈ bs) (hn : n ≤ c.base) : fateA (forgetA A n) c = fateA A c := by
  unfold fateA
  have e : stableA (forgetA A n) = stableA A := rfl
  rw [e]
  by_cases hm : markB c = true
  · rw [if_pos hm, if_pos hm]
  rw [if_neg hm, if_neg hm]
  by_cases hs : c.base ≥ stableA A
  · rw [if_pos hs, if_pos hs]
  rw [if_neg hs, if_neg hs]
  by_cases hk : c.kind = 1
  · have e2 : faF (forgetA A n) c.pid c.epoch = faF A c.pid c.epoch := by
      have hi := invE h
      unfold faF forgetA
      rw [List.find?_filter]
      have : ∀ l : List TxnA, (∀ t ∈ l, t ∈ A.fa) → (l.find? fun a => decide ((!decide (a.last < n)) = true ∧ decide (a.pid = c.pid ∧ a.epoch = c.epoch) = true)) = l.find? fun t => decide (t.pid = c.pid ∧ t.epoch = c.epoch) := by
        intro l
        induction l with
        | nil => intro _; rfl
        | cons t l ih =>
          intro hl
          by_cases hkey : t.pid = c.pid ∧ t.epoch = c.epoch
          · have := hi t (hl t (List.mem_cons_self ..)) c hc hk hkey.1.symm hkey.2.symm
            rw [List.find?_cons_of_pos (by simp [hkey]; omega), List.find?_cons_of_pos (by simp [hkey])]
          · rw [List.find?_cons_of_neg (by simp [hkey]), List.find?_cons_of_neg (by simp [hkey])]
            exact ih fun u hu => hl u (List.mem_cons_of_mem _ hu)
      exact this A.fa fun t ht => ht
    rw [e2]
  · rw [if_neg (fun h => hk h.1), if_neg (fun h => hk h.1)]
theorem pick_forget {bs cs : List BatM} {A : ViewA} (h : Hist bs A) (n : Int) (hc : ∀ c ∈ cs, c ∈ bs ∧ n ≤ c.base) : pickA (forgetA A n) cs = pickA A cs := by
  unfold pickA
  induction cs with
  | nil => rfl
  | cons c r ih =>
    obtain ⟨h1, h2⟩ := hc c (List.mem_cons_self ..)
    rw [List.flatMap_cons, List.flatMap_cons, fate_forget h n h1 h2, ih fun d hd => hc d (List.mem_cons_of_mem _ hd)]

end Go.Dec
