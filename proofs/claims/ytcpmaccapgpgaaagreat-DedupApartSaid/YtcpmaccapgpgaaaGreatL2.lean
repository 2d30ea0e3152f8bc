/- Dedup: DedupStable. -/
import Derived.Test.YtcpmaccapgpgaaaGreatT2
namespace Go.Dec
set_option linter.unusedVariables false
set_option linter.unusedSimpArgs false

def pairB (x : BatM) : Int × Int := (x.pid, x.base)
def pairR (r : RowA) : Int × Int := (r.pid, r.frm)
def leftB (bs : List BatM) (b : BatM) : List BatM := bs.filter fun x => !(decide (x.pid = b.pid) && markB b)
def thereB (bs : List BatM) (b : BatM) : Bool := (leftB bs b).any fun x => decide (x.pid = b.pid)
def beganB (bs : List BatM) (b : BatM) : List BatM := leftB bs b ++ if b.kind = 1 ∧ thereB bs b = false then [b] else []
def StabI (bs : List BatM) (A : TabA) : Prop := (bs.map pairB).Perm ((openR A.rows).map pairR)

theorem stab_spec {A : TabA} (hok : okTb A) : (∀ r ∈ openR A.rows, stableT A ≤ r.frm) ∧ stableT A ≤ A.next ∧ (stableT A = A.next ∨ ∃ r ∈ openR A.rows, stableT A = r.frm) := by
  have hp := openS_perm A.rows
  have hs := openS_sorted hok
  have hlt : ∀ r ∈ openR A.rows, r.frm < A.next := fun r hr => by
    have hm := List.mem_filter.1 hr
    have h0 : 0 ≤ r.frm := by simpa using hm.2
    have h := hok.row r hm.1
    rcases Int.lt_or_le 0 r.count with hc | hc
    · have := h.some_ hc; omega
    · have := h.none_ (by have := h.count; omega); omega
  unfold stableT
  cases ho : openS A.rows with
  | nil =>
    rw [ho] at hp
    have e : openR A.rows = [] := hp.symm.eq_nil
    rw [e]
    exact ⟨by simp, Int.le_refl _, .inl rfl⟩
  | cons y ys =>
    rw [ho] at hp hs
    rw [List.pairwise_cons] at hs
    have hy : y ∈ openR A.rows := hp.mem_iff.1 (List.mem_cons_self ..)
    refine ⟨fun r hr => ?_, ?_, .inr ⟨y, hy, rfl⟩⟩
    · rcases List.mem_cons.1 (hp.mem_iff.2 hr) with rfl | hr
      · exact Int.le_refl _
      · have := hs.1 r hr; show y.frm ≤ r.frm; omega
    · have := hlt y hy; show y.frm ≤ A.next; omega
theorem stab_is {A : TabA} (hok : okTb A) {n : Int} (h1 : ∀ r ∈ openR A.rows, n ≤ r.frm) (h2 : n ≤ A.next) (h3 : n = A.next ∨ ∃ r ∈ openR A.rows, n = r.frm) : n = stableT A := by
  obtain ⟨g1, g2, g3⟩ := stab_spec hok
  have le : stableT A ≤ n := by
    rcases h3 with rfl | ⟨r, hr, rfl⟩
    · exact g2
    · exact g1 r hr
  have ge : n ≤ stableT A := by
    rcases g3 with h | ⟨r, hr, h⟩
    · omega
    · rw [h]; exact h1 r hr
  omega

theorem open_rest {A : TabA} (pid : Int) : openR (restL pid A.rows) = (openR A.rows).filter fun r => !decide (r.pid = pid) := by
  unfold openR restL
  rw [List.filter_filter, List.filter_filter]
  exact List.filter_congr fun r _ => Bool.and_comm _ _
theorem pair_filter {bs : List BatM} {rs : List RowA} (h : (bs.map pairB).Perm (rs.map pairR)) (pid : Int) : ((bs.filter fun x => !decide (x.pid = pid)).map pairB).Perm ((rs.filter fun r => !decide (r.pid = pid)).map pairR) := by
  have := h.filter fun p => !decide (p.1 = pid)
  rw [List.filter_map, List.filter_map] at this
  exact this
theorem pair_any {bs : List BatM} {rs : List RowA} (h : (bs.map pairB).Perm (rs.map pairR)) (pid : Int) : (∃ x ∈ bs, x.pid = pid) ↔ ∃ r ∈ rs, r.pid = pid := by
  constructor
  · rintro ⟨x, hx, rfl⟩
    obtain ⟨r, hr, e⟩ := List.mem_map.1 (h.mem_iff.1 (List.mem_map.2 ⟨x, hx, rfl⟩))
    simp only [pairR, pairB, Prod.mk.injEq] at e
    exact ⟨r, hr, e.1⟩
  · rintro ⟨x, hx, rfl⟩
    obtain ⟨r, hr, e⟩ := List.mem_map.1 (h.mem_iff.2 (List.mem_map.2 ⟨x, hx, rfl⟩))
    simp only [pairR, pairB, Prod.mk.injEq] at e
    exact ⟨r, hr, e.1⟩
/-- What is open of a producer: its row. -/
theorem open_pid {A : TabA} (hok : okTb A) (pid : Int) : (∃ r ∈ openR A.rows, r.pid = pid) ↔ 0 ≤ (rowF A pid).frm := by
  constructor
  · rintro ⟨r, hr, rfl⟩
    have hm := List.mem_filter.1 hr
    have h0 : 0 ≤ r.frm := by simpa using hm.2
    cases ho : rowO A r.pid with
    | none => exact absurd rfl (rowO_none ho r hm.1)
    | some y =>
      obtain ⟨h1, h2⟩ := rowO_some ho
      have : y = r := by
        have hp := rest_perm h1 hok.byPid
        rcases List.mem_cons.1 (hp.mem_iff.1 hm.1) with h | h
        · exact h.symm
        · have := (List.mem_filter.1 h).2
          simp [h2] at this
      unfold rowF; rw [ho, this]; exact h0
  · intro h
    cases ho : rowO A pid with
    | none => unfold rowF at h; rw [ho] at h; exact absurd h (by show ¬ (0 : Int) ≤ -1; omega)
    | some y =>
      obtain ⟨h1, h2⟩ := rowO_some ho
      unfold rowF at h; rw [ho] at h
      exact ⟨y, List.mem_filter.2 ⟨h1, by simpa using h⟩, h2⟩

theorem stab_step {bs : List BatM} {A : TabA} {b : BatM} (hok : okTb A) (hI : StabI bs A) (h1 : (judgeA A b).2 = 0) (h2 : (judgeA A b).1.again = false) : StabI (beganB bs b) (nextT A b) := by
  obtain ⟨hv, hj⟩ := judge_fresh h1 h2
  obtain ⟨hs1, hs2, hnum, hfit, hnx⟩ := span_le b hv
  have hnk := hnum.1
  by_cases hp0 : b.pid = 0
  · have e : nextT A b = ⟨A.most, b.base + spanB b, A.rows⟩ := by unfold nextT; rw [if_pos hp0]
    have hk : b.kind = 0 := Decidable.not_not.1 fun h => hfit.1 ⟨hp0, .inl h⟩
    have hm : markB b = false := by unfold markB; rw [hk]; rfl
    have e2 : beganB bs b = bs := by
      unfold beganB leftB
      rw [if_neg (by omega), List.append_nil, hm]
      exact List.filter_eq_self.2 fun x _ => by simp
    rw [e, e2]; exact hI
  obtain ⟨hje, -, hfr⟩ := hj hp0
  obtain ⟨hf1, hf2, hf3⟩ := fresh_zero hfr
  have e : (nextT A b).rows = putL (rowN A b) A.rows := by unfold nextT; rw [if_neg hp0]
  have hpp := openR_perm (put_perm (rowN A b) A.rows)
  rw [rowN_pid] at hpp
  have hpn : openR (rowN A b :: restL b.pid A.rows) = (if 0 ≤ (rowN A b).frm then [rowN A b] else []) ++ openR (restL b.pid A.rows) := by
    unfold openR
    rw [List.filter_cons]
    split <;> split <;> simp_all
  rw [hpn, open_rest] at hpp
  unfold StabI
  rw [e]
  refine List.Perm.trans ?_ (hpp.map pairR).symm
  rw [List.map_append]
  unfold beganB
  by_cases hm : markB b = true
  · have hk : ¬ (b.kind = 1 ∧ thereB bs b = false) := fun h => by unfold markB at hm; rw [h.1] at hm; cases hm
    have eN : (rowN A b).frm = -1 := by unfold rowN; rw [if_pos hm]
    rw [if_neg hk, List.append_nil, eN, if_neg (by omega), List.map_nil, List.nil_append]
    have e3 : leftB bs b = bs.filter fun x => !decide (x.pid = b.pid) := List.filter_congr fun x _ => by rw [hm, Bool.and_true]
    rw [e3]
    exact pair_filter hI b.pid
  have hm : markB b = false := by simpa using hm
  have e3 : leftB bs b = bs := List.filter_eq_self.2 fun x _ => by rw [hm, Bool.and_false]; rfl
  have eN : (rowN A b).frm = frmF A b := by unfold rowN; rw [if_neg (by rw [hm]; simp)]
  have hth : thereB bs b = true ↔ 0 ≤ (rowF A b.pid).frm := by
    rw [← open_pid hok, ← pair_any hI]
    unfold thereB
    rw [e3, List.any_eq_true]
    simp
  rw [e3, eN, List.map_append]
  -- the rows that are open and not its own
  have hnone : ¬ 0 ≤ (rowF A b.pid).frm → (openR A.rows).filter (fun r => !decide (r.pid = b.pid)) = openR A.rows := fun h => List.filter_eq_self.2 fun r hr => by
    have : r.pid ≠ b.pid := fun e => h ((open_pid hok b.pid).1 ⟨r, hr, e⟩)
    simp [this]
  by_cases hop : 0 ≤ (rowF A b.pid).frm
  · have hk : ¬ (b.kind = 1 ∧ thereB bs b = false) := fun h => by have := hth.2 hop; rw [h.2] at this; cases this
    rw [if_neg hk, List.map_nil, List.append_nil]
    have eF : frmF A b = (rowF A b.pid).frm := by unfold frmF; rw [if_neg (by omega)]
    rw [eF, if_pos hop]
    -- its own row was open, and stays so
    cases ho : rowO A b.pid with
    | none => unfold rowF at hop; rw [ho] at hop; exact absurd hop (by show ¬ (0 : Int) ≤ -1; omega)
    | some y =>
      obtain ⟨g1, g2⟩ := rowO_some ho
      have hy : rowF A b.pid = y := by unfold rowF; rw [ho]; rfl
      rw [hy] at hop eF
      have hpo := openR_perm (rest_perm g1 hok.byPid)
      rw [g2] at hpo
      have hpo2 : openR (y :: restL b.pid A.rows) = y :: openR (restL b.pid A.rows) := by unfold openR; rw [List.filter_cons, if_pos (by simpa using hop)]
      rw [hpo2, open_rest] at hpo
      refine hI.trans ((hpo.map pairR).trans ?_)
      have ep : pairR (rowN A b) = pairR y := by
        unfold pairR
        rw [rowN_pid, eN, eF, g2]
      simp only [List.map_cons, List.map_nil, List.singleton_append, ep]
      exact .refl _
  · have htf : thereB bs b = false := by
      cases h : thereB bs b with
      | false => rfl
      | true => exact absurd (hth.1 h) hop
    rw [hnone hop]
    have hk01 : b.kind = 0 ∨ b.kind = 1 := by
      unfold markB at hm
      simp only [Bool.or_eq_false_iff, decide_eq_false_iff_not] at hm
      omega
    rcases hk01 with hk | hk
    · have eF : frmF A b = (rowF A b.pid).frm := by unfold frmF; rw [if_neg (by omega)]
      rw [if_neg (by omega), List.map_nil, List.append_nil, eF, if_neg hop, List.map_nil, List.nil_append]
      exact hI
    · have eF : frmF A b = b.base := by unfold frmF; rw [if_pos ⟨hk, by omega⟩]
      have hb0 := hnum.2.1.1
      rw [if_pos ⟨hk, htf⟩, eF, if_pos hb0]
      have ep : pairR (rowN A b) = pairB b := by
        unfold pairR pairB
        rw [rowN_pid, eN, eF]
      simp only [List.map_cons, List.map_nil, ep]
      exact (List.Perm.append_right _ hI).trans List.perm_append_comm
theorem stab_mono {A : TabA} {b : BatM} (hok : okTb A) (h1 : (judgeA A b).2 = 0) (h2 : (judgeA A b).1.again = false) (h3 : A.next ≤ b.base) : stableT A ≤ stableT (nextT A b) := by
  have hok' := next_ok hok h1 h2 h3
  obtain ⟨hv, hj⟩ := judge_fresh h1 h2
  obtain ⟨hs1, hs2, hnum, hfit, hnx⟩ := span_le b hv
  obtain ⟨g1, g2, -⟩ := stab_spec hok
  obtain ⟨-, -, g3⟩ := stab_spec hok'
  have hn : (nextT A b).next = b.base + spanB b := rfl
  rcases g3 with h | ⟨r, hr, h⟩
  · omega
  · rw [h]
    by_cases hp0 : b.pid = 0
    · have e : (nextT A b).rows = A.rows := by unfold nextT; rw [if_pos hp0]
      rw [e] at hr; exact g1 r hr
    · have e : (nextT A b).rows = putL (rowN A b) A.rows := by unfold nextT; rw [if_neg hp0]
      rw [e] at hr
      have hm := List.mem_filter.1 ((openR_perm (put_perm _ _)).mem_iff.1 hr)
      rcases List.mem_cons.1 hm.1 with rfl | hm1
      · have h0 : 0 ≤ (rowN A b).frm := by simpa using hm.2
        unfold rowN at h0 ⊢
        split at h0
        · exact absurd h0 (by show ¬ (0 : Int) ≤ -1; omega)
        · rename_i hmk
          rw [if_neg hmk]
          show stableT A ≤ frmF A b
          have h0 : 0 ≤ frmF A b := h0
          unfold frmF at h0 ⊢
          split
          · omega
          · rename_i hk
            rw [if_neg hk] at h0
            obtain ⟨y, hy, hyp⟩ := (open_pid hok b.pid).2 h0
            cases ho : rowO A b.pid with
            | none => unfold rowF at h0; rw [ho] at h0; exact absurd h0 (by show ¬ (0 : Int) ≤ -1; omega)
            | some z =>
              have hz : rowF A b.pid = z := by unfold rowF; rw [ho]; rfl
              rw [hz] at h0 ⊢
              exact g1 z (List.mem_filter.2 ⟨(rowO_some ho).1, by simpa using h0⟩)
      · exact g1 r (List.mem_filter.2 ⟨(List.mem_filter.1 hm1).1, hm.2⟩)

def minB (n : Int) (bs : List BatM) : Int := bs.foldl (fun m x => if x.base < m then x.base else m) n
theorem minB_spec : ∀ (bs : List BatM) (n : Int), minB n bs ≤ n ∧ (∀ x ∈ bs, minB n bs ≤ x.base) ∧ (minB n bs = n ∨ ∃ x ∈ bs, minB n bs = x.base)
  | [], n => ⟨Int.le_refl _, by simp, .inl rfl⟩
  | b :: bs, n => by
    have h := minB_spec bs (if b.base < n then b.base else n)
    have e : minB n (b :: bs) = minB (if b.base < n then b.base else n) bs := rfl
    rw [e]
    obtain ⟨h1, h2, h3⟩ := h
    have h4 : (if b.base < n then b.base else n) ≤ n ∧ (if b.base < n then b.base else n) ≤ b.base := by split <;> omega
    refine ⟨by omega, fun x hx => ?_, ?_⟩
    · rcases List.mem_cons.1 hx with rfl | hx
      · omega
      · exact h2 x hx
    · rcases h3 with h | ⟨x, hx, h⟩
      · by_cases hb : b.base < n
        · rw [if_pos hb] at h; rw [if_pos hb]; exact .inr ⟨b, List.mem_cons_self .., h⟩
        · rw [if_neg hb] at h; rw [if_neg hb]; exact .inl h
      · exact .inr ⟨x, List.mem_cons_of_mem _ hx, h⟩
theorem minB_stab {bs : List BatM} {A : TabA} (hok : okTb A) (hI : StabI bs A) : minB A.next bs = stableT A := by
  obtain ⟨h1, h2, h3⟩ := minB_spec bs A.next
  refine stab_is hok (fun r hr => ?_) h1 ?_
  · obtain ⟨x, hx, e⟩ := List.mem_map.1 (hI.mem_iff.2 (List.mem_map.2 ⟨r, hr, rfl⟩))
    simp only [pairR, pairB, Prod.mk.injEq] at e
    rw [← e.2]; exact h2 x hx
  · rcases h3 with h | ⟨x, hx, h⟩
    · exact .inl h
    · obtain ⟨r, hr, e⟩ := List.mem_map.1 (hI.mem_iff.1 (List.mem_map.2 ⟨x, hx, rfl⟩))
      simp only [pairR, pairB, Prod.mk.injEq] at e
      exact .inr ⟨r, hr, by rw [e.2]; exact h⟩
theorem stab_len {bs : List BatM} {A : TabA} (hI : StabI bs A) : (openS A.rows).length = bs.length := by
  have := hI.length_eq
  rw [List.length_map, List.length_map] at this
  rw [(openS_perm _).length_eq, this]
theorem minB_take (n : Int) {bs : List BatM} {j : Nat} (hj : j < bs.length) : minB n (bs.take (j + 1)) = if bs[j].base < minB n (bs.take j) then bs[j].base else minB n (bs.take j) := by
  unfold minB
  rw [List.take_succ_eq_append_getElem hj, List.foldl_append]; rfl
end Go.Dec
