/- Dedup: Take. -/
import Derived.Test.YtcpmaccapgpgaaaGreatD2
namespace Go.Dec
set_option linter.unusedVariables false
set_option linter.unusedSimpArgs false

def lateF (A : TabA) (b : BatM) : Int := match rowO A b.pid with
  | none => b.time
  | some r => if r.time > b.time then r.time else b.time
def frmF (A : TabA) (b : BatM) : Int := if b.kind = 1 ∧ (rowF A b.pid).frm < 0 then b.base else (rowF A b.pid).frm
def rowN (A : TabA) (b : BatM) : RowA := if markB b then ⟨b.pid, b.epoch + 1, 0, 0, 0, -1, lateF A b⟩ else ⟨b.pid, b.epoch, b.seq, b.rs.length, b.base, frmF A b, lateF A b⟩
def restL (pid : Int) (rs : List RowA) : List RowA := rs.filter fun r => !decide (r.pid = pid)
def putL (x : RowA) (rs : List RowA) : List RowA := rs.filter (fun r => decide (r.pid < x.pid)) ++ x :: rs.filter (fun r => decide (x.pid < r.pid))
def nextT (A : TabA) (b : BatM) : TabA := ⟨A.most, b.base + spanB b, if b.pid = 0 then A.rows else putL (rowN A b) A.rows⟩
def takeT (A : TabA) (b : BatM) : Int × TabA :=
  if (judgeA A b).2 ≠ 0 then ((judgeA A b).2, A) else if (judgeA A b).1.again then (4, A) else if b.base < A.next then (8, A) else (0, nextT A b)

theorem put_perm (x : RowA) (rs : List RowA) : (putL x rs).Perm (x :: restL x.pid rs) := by
  unfold putL restL
  refine List.perm_middle.trans (.cons _ ?_)
  have h := List.filter_append_perm (fun r : RowA => decide (r.pid < x.pid)) (rs.filter fun r => !decide (r.pid = x.pid))
  rw [List.filter_filter, List.filter_filter] at h
  have e1 : rs.filter (fun r => decide (r.pid < x.pid)) = rs.filter (fun r => decide (r.pid < x.pid) && !decide (r.pid = x.pid)) := List.filter_congr fun r _ => by
    rw [Bool.eq_iff_iff]; simp; omega
  have e2 : rs.filter (fun r => decide (x.pid < r.pid)) = rs.filter (fun r => !decide (r.pid < x.pid) && !decide (r.pid = x.pid)) := List.filter_congr fun r _ => by
    rw [Bool.eq_iff_iff]; simp; omega
  rw [e1, e2]; exact h
theorem put_sorted {x : RowA} {rs : List RowA} (h : rs.Pairwise fun a b => a.pid < b.pid) : (putL x rs).Pairwise fun a b => a.pid < b.pid := by
  unfold putL
  rw [List.pairwise_append, List.pairwise_cons]
  refine ⟨h.filter _, ⟨fun r hr => ?_, h.filter _⟩, fun a ha c hc => ?_⟩
  · simpa using (List.mem_filter.1 hr).2
  · have h1 : a.pid < x.pid := by simpa using (List.mem_filter.1 ha).2
    rcases List.mem_cons.1 hc with rfl | hc
    · exact h1
    · have h2 : x.pid < c.pid := by simpa using (List.mem_filter.1 hc).2
      omega
theorem rest_none {pid : Int} {rs : List RowA} (h : ∀ r ∈ rs, r.pid ≠ pid) : restL pid rs = rs := List.filter_eq_self.2 fun r hr => by simp [h r hr]
theorem rest_perm {x : RowA} : ∀ {rs : List RowA}, x ∈ rs → (rs.Pairwise fun a b => a.pid < b.pid) → rs.Perm (x :: restL x.pid rs)
  | y :: rs, hx, h => by
    rw [List.pairwise_cons] at h
    unfold restL
    rw [List.filter_cons]
    rcases List.mem_cons.1 hx with rfl | hx
    · rw [if_neg (by simp)]
      have := rest_none (pid := x.pid) (rs := rs) (fun r hr => by have := h.1 r hr; omega)
      unfold restL at this
      rw [this]
    · have h1 := h.1 x hx
      rw [if_pos (by simp; omega)]
      exact ((rest_perm hx h.2).cons y).trans (.swap _ _ _)
theorem openR_perm {a b : List RowA} (h : a.Perm b) : (openR a).Perm (openR b) := h.filter _
theorem apart_perm {a b : List RowA} (h : a.Perm b) (ha : (openR a).Pairwise fun x y => x.frm ≠ y.frm) : (openR b).Pairwise fun x y => x.frm ≠ y.frm :=
  (List.Perm.pairwise_iff (fun {x y} h => Ne.symm h) (openR_perm h)).1 ha

theorem judge_fresh {A : TabA} {b : BatM} (h1 : (judgeA A b).2 = 0) (h2 : (judgeA A b).1.again = false) : validB b = 0 ∧ (b.pid ≠ 0 → (rowF A b.pid).epoch ≤ b.epoch ∧ ¬ (markB b = false ∧ (againV (rowF A b.pid) b).2 = true) ∧ freshA A (rowF A b.pid) (rowO A b.pid).isSome b = 0) := by
  unfold judgeA at h1 h2
  split at h1
  · rename_i h
    rw [if_pos h] at h2
    refine ⟨h1, fun hp => absurd h (fun h => h.elim (fun h => h h1) hp)⟩
  rename_i h
  rw [if_neg h] at h2
  have hv : validB b = 0 := Decidable.not_not.1 fun e => h (.inl e)
  refine ⟨hv, fun hp => ?_⟩
  split at h1
  · rename_i h3
    rw [if_pos h3] at h2
    split at h1
    · rename_i h4; rw [if_pos h4] at h2; cases h2
    · cases h1
  rename_i h3
  rw [if_neg h3] at h2
  split at h1
  · rename_i h4
    rw [if_pos h4] at h2
    obtain ⟨-, h4⟩ := h4
    unfold againV at h2 h4
    split at h4
    · cases h4
    · rename_i h5
      rw [if_neg h5] at h2
      split at h2 <;> cases h2
  · rename_i h4
    exact ⟨by omega, h4, h1⟩
theorem fresh_zero {A : TabA} {x : RowA} {there : Bool} {b : BatM} (h : freshA A x there b = 0) : ¬ (0 ≤ x.frm ∧ (b.epoch > x.epoch ∨ b.kind = 0)) ∧ ¬ (markB b = false ∧ b.seq ≠ (if b.epoch > x.epoch then 0 else x.seq + x.count)) ∧ (there = false → (A.rows.length : Int) < A.most) := by
  unfold freshA at h
  by_cases h1 : 0 ≤ x.frm ∧ (b.epoch > x.epoch ∨ b.kind = 0)
  · rw [if_pos h1] at h; cases h
  rw [if_neg h1] at h
  by_cases h2 : markB b = false ∧ b.seq ≠ (if b.epoch > x.epoch then 0 else x.seq + x.count)
  · rw [if_pos h2] at h; cases h
  rw [if_neg h2] at h
  by_cases h3 : there = false ∧ (A.rows.length : Int) ≥ A.most
  · rw [if_pos h3] at h; cases h
  exact ⟨h1, h2, fun e => by rcases Int.lt_or_le (A.rows.length : Int) A.most with h | h; exact h; exact absurd ⟨e, h⟩ h3⟩
theorem rowN_pid (A : TabA) (b : BatM) : (rowN A b).pid = b.pid := by unfold rowN; split <;> rfl
theorem late_ok {A : TabA} (hok : okTb A) {b : BatM} (hb : 0 ≤ b.time ∧ b.time ≤ 1099511627776) : 0 ≤ lateF A b ∧ lateF A b ≤ 1099511627776 := by
  unfold lateF
  split
  · exact hb
  · rename_i r hr
    have := (hok.row r (rowO_some hr).1).time
    split <;> omega

theorem next_ok {A : TabA} {b : BatM} (hok : okTb A) (h1 : (judgeA A b).2 = 0) (h2 : (judgeA A b).1.again = false) (h3 : A.next ≤ b.base) : okTb (nextT A b) := by
  obtain ⟨hv, hj⟩ := judge_fresh h1 h2
  obtain ⟨hs1, hs2, hnum, hfit, hnx⟩ := span_le b hv
  have hn0 := hok.next
  by_cases hp0 : b.pid = 0
  · have e : nextT A b = ⟨A.most, b.base + spanB b, A.rows⟩ := by unfold nextT; rw [if_pos hp0]
    rw [e]
    exact ⟨hok.most, ⟨by show 0 ≤ b.base + spanB b; omega, by show b.base + spanB b ≤ _; omega⟩, hok.many, fun r hr => by
      have h := hok.row r hr
      exact ⟨h.pid, h.epoch, h.time, h.count, h.seq, h.base, h.frm, h.none_, fun hc => by have := h.some_ hc; show _ ∧ _ ∧ _ ≤ b.base + spanB b ∧ _; omega⟩, hok.byPid, hok.apart⟩
  obtain ⟨hje, -, hfr⟩ := hj hp0
  obtain ⟨hf1, hf2, hf3⟩ := fresh_zero hfr
  have e : nextT A b = ⟨A.most, b.base + spanB b, putL (rowN A b) A.rows⟩ := by unfold nextT; rw [if_neg hp0]
  have hpp := put_perm (rowN A b) A.rows
  rw [rowN_pid] at hpp
  obtain ⟨hnk, hnb, hnp, hne, hns, hnt⟩ := hnum
  have hlate := late_ok hok hnt
  have hF := rowF_ok hok b.pid
  -- the old row's From, if any
  have hfrm : (rowF A b.pid).frm < A.next := by
    unfold rowF
    cases h : rowO A b.pid with
    | none => show (-1 : Int) < _; omega
    | some y =>
      have hy := hok.row y (rowO_some h).1
      show y.frm < A.next
      rcases Int.lt_or_le 0 y.count with hc | hc
      · have := hy.some_ hc; omega
      · have := hy.none_ (by have := hy.count; omega); omega
  have hokN : okR (rowN A b) (b.base + spanB b) := by
    unfold rowN
    by_cases hm : markB b = true
    · rw [if_pos hm]
      exact ⟨by show 1 ≤ b.pid ∧ b.pid ≤ _; omega, by show 0 ≤ b.epoch + 1 ∧ b.epoch + 1 ≤ _; omega, hlate, by show (0 : Int) ≤ 0 ∧ (0 : Int) ≤ 64; omega, Int.le_refl _, Int.le_refl _, Int.le_refl _, fun _ => ⟨rfl, rfl, rfl⟩, fun h => absurd h (by show ¬ (0 : Int) < 0; omega)⟩
    · rw [if_neg hm]
      have hm : markB b = false := by simpa using hm
      have hlen : spanB b = b.rs.length := by unfold spanB; rw [hm]; rfl
      have hseq : b.seq + b.rs.length ≤ 2147483648 := by
        unfold validB at hv
        split at hv
        · cases hv
        split at hv
        · cases hv
        split at hv
        · rename_i h; exact absurd hv h
        split at hv
        · cases hv
        · rename_i h
          rcases Int.lt_or_le 2147483647 (b.seq + (spanB b - 1)) with h9 | h9
          · exact absurd (.inr ⟨by omega, hm, by omega⟩) h
          · omega
      have hfrm2 : -1 ≤ frmF A b ∧ frmF A b ≤ b.base := by
        unfold frmF
        split
        · omega
        · omega
      exact ⟨by show 1 ≤ b.pid ∧ b.pid ≤ _; omega, by show 0 ≤ b.epoch ∧ b.epoch ≤ _; omega, hlate, by show (0 : Int) ≤ b.rs.length ∧ (b.rs.length : Int) ≤ 64; omega, hns.1, hnb.1, hfrm2.1, fun h => absurd h (by show ¬ (b.rs.length : Int) = 0; omega), fun _ => by
        show b.epoch ≤ _ ∧ b.seq + (b.rs.length : Int) ≤ _ ∧ b.base + (b.rs.length : Int) ≤ b.base + spanB b ∧ frmF A b ≤ b.base
        omega⟩
  have hrest : restL b.pid A.rows ⊆ A.rows := fun r hr => (List.mem_filter.1 hr).1
  rw [e]
  refine ⟨hok.most, ⟨by show 0 ≤ b.base + spanB b; omega, by show b.base + spanB b ≤ _; omega⟩, ?_, fun r hr => ?_, put_sorted hok.byPid, ?_⟩
  · show ((putL (rowN A b) A.rows).length : Int) ≤ A.most
    rw [hpp.length_eq, List.length_cons]
    cases h : rowO A b.pid with
    | none =>
      have := hf3 (by rw [h]; rfl)
      rw [rest_none (rowO_none h)]; omega
    | some y =>
      have h4 := (rest_perm (rowO_some h).1 hok.byPid).length_eq
      rw [(rowO_some h).2, List.length_cons] at h4
      have := hok.many
      omega
  · have hr : r ∈ putL (rowN A b) A.rows := hr
    rcases List.mem_cons.1 (hpp.mem_iff.1 hr) with rfl | hr
    · exact hokN
    · have h := hok.row r (hrest hr)
      exact ⟨h.pid, h.epoch, h.time, h.count, h.seq, h.base, h.frm, h.none_, fun hc => by have := h.some_ hc; show _ ∧ _ ∧ _ ≤ b.base + spanB b ∧ _; omega⟩
  · refine apart_perm hpp.symm ?_
    have hsub : (openR (restL b.pid A.rows)).Pairwise fun x y => x.frm ≠ y.frm := hok.apart.sublist ((List.filter_sublist).filter _)
    unfold openR
    rw [List.filter_cons]
    split
    rotate_left
    · exact hsub
    rename_i hop
    have hop : 0 ≤ (rowN A b).frm := by simpa using hop
    rw [List.pairwise_cons]
    refine ⟨fun y hy => ?_, hsub⟩
    have hy1 := List.mem_filter.1 hy
    have hy2 : 0 ≤ y.frm := by simpa using hy1.2
    have hyr := hok.row y (hrest hy1.1)
    have hm : ¬ markB b = true := fun hm => by unfold rowN at hop; rw [if_pos hm] at hop; exact absurd hop (by show ¬ (0 : Int) ≤ -1; omega)
    unfold rowN
    rw [if_neg hm]
    show frmF A b ≠ y.frm
    have hylt : y.frm < A.next := by
      rcases Int.lt_or_le 0 y.count with hc | hc
      · have := hyr.some_ hc; omega
      · have := hyr.none_ (by have := hyr.count; omega); omega
    unfold frmF
    split
    · omega
    · rename_i hk
      cases h : rowO A b.pid with
      | none =>
        have : (rowF A b.pid).frm = -1 := by unfold rowF; rw [h]; rfl
        omega
      | some z =>
        have hz : rowF A b.pid = z := by unfold rowF; rw [h]; rfl
        rw [hz] at *
        by_cases hzo : 0 ≤ z.frm
        · have h5 := apart_perm (rest_perm (rowO_some h).1 hok.byPid) hok.apart
          rw [(rowO_some h).2] at h5
          unfold openR at h5
          rw [List.filter_cons, if_pos (by simpa using hzo), List.pairwise_cons] at h5
          exact h5.1 y hy
        · omega
theorem take_ok {A A' : TabA} {b : BatM} {e : Int} (hok : okTb A) (h : takeT A b = (e, A')) : okTb A' := by
  unfold takeT at h
  split at h
  · cases h; exact hok
  split at h
  · cases h; exact hok
  split at h
  · cases h; exact hok
  cases h
  exact next_ok hok (by omega) (by simpa using ‹¬ (judgeA A b).1.again = true›) (by omega)
end Go.Dec
