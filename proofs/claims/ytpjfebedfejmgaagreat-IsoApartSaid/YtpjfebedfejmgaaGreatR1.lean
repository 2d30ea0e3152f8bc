/- Isolation: batches, and which may be. -/
import Derived.Test.YtpjfebedfejmgaaGreatFns0
import Derived.Test.YtpjfebedfejmgaaGreatTypes
import Derived.Test.YtpjfebedfejmgaaGreatOpsZ
namespace Go.Dec
set_option linter.unusedVariables false
set_option linter.unusedSimpArgs false

structure RecM where
  key : ByteArray
  value : ByteArray
  gone : Bool
  time : Int
def encR (r : RecM) : List Value := [.string r.key, .string r.value, .bool r.gone, .int .i64 r.time]
instance : EncA encR [.str, .str, .bool, .int .i64] (fun r => (r.key, r.value, r.gone, r.time, ())) := ⟨fun _ => rfl⟩
instance : EncN encR 4 := ⟨fun _ => rfl, by decide, by simp [encR, Value.oneCell']⟩
/-- A batch: its numbers, its records and their slice. -/
structure BatM where
  base : Int
  pid : Int
  epoch : Int
  seq : Int
  kind : Int
  time : Int
  x : Sl
  rs : List RecM
def encB7 (b : BatM) : List Value := [.int .i64 b.base, .int .i64 b.pid, .int .i64 b.epoch, .int .i64 b.seq, .int .i64 b.kind, .int .i64 b.time, .slice b.x.a b.x.len b.x.cap]
instance : EncA encB7 [.int .i64, .int .i64, .int .i64, .int .i64, .int .i64, .int .i64, .slc] (fun b => (b.base, b.pid, b.epoch, b.seq, b.kind, b.time, b.x, ())) := ⟨fun _ => rfl⟩
instance : EncN encB7 7 := ⟨fun _ => rfl, by decide, by simp [encB7, Value.oneCell']⟩

def markB (b : BatM) : Bool := decide (b.kind = 2) || decide (b.kind = 3)
def numsB (b : BatM) : Prop := (0 ≤ b.kind ∧ b.kind ≤ 3) ∧ (0 ≤ b.base ∧ b.base ≤ 1099511627776) ∧ (0 ≤ b.pid ∧ b.pid ≤ 1048576) ∧ (0 ≤ b.epoch ∧ b.epoch ≤ 32767) ∧ (0 ≤ b.seq ∧ b.seq ≤ 2147483647) ∧ (0 ≤ b.time ∧ b.time ≤ 1099511627776)
instance (b : BatM) : Decidable (numsB b) := by unfold numsB; infer_instance
def fitsB (b : BatM) : Prop := ¬ (b.pid = 0 ∧ (b.kind ≠ 0 ∨ b.epoch ≠ 0 ∨ b.seq ≠ 0)) ∧ if markB b then b.seq = 0 ∧ b.rs.length = 0 else 0 < b.rs.length
instance (b : BatM) : Decidable (fitsB b) := by unfold fitsB; infer_instance
def recF (r : RecM) : Int := if r.key.size > 1024 ∨ r.value.size > 1024 then 7 else if ¬ (0 ≤ r.time ∧ r.time ≤ 1099511627776) ∨ (r.gone = true ∧ r.value.size > 0) then 2 else 0
def badF : List RecM → Int
  | [] => 0
  | r :: rs => if recF r ≠ 0 then recF r else badF rs
def spanB (b : BatM) : Int := if markB b then 1 else (b.rs.length : Nat)
def validB (b : BatM) : Int := if ¬ numsB b ∨ ¬ fitsB b then 2 else if b.rs.length > 64 then 7 else if badF b.rs ≠ 0 then badF b.rs else
  if b.base > 1099511627776 - (spanB b - 1) ∨ (b.pid > 0 ∧ markB b = false ∧ b.seq > 2147483647 - (spanB b - 1)) then 24 else 0
def nextB (b : BatM) : Int := if validB b ≠ 0 then 0 else b.base + spanB b

theorem badF_take : ∀ (rs : List RecM) (i : Nat) (hi : i < rs.length), badF (rs.take i) = 0 → recF rs[i] ≠ 0 → badF rs = recF rs[i]
  | r :: rs, 0, _, _, h => by
    have h : recF r ≠ 0 := h
    show (if recF r ≠ 0 then recF r else badF rs) = recF r
    rw [if_pos h]
  | r :: rs, i + 1, hi, h1, h2 => by
    have h1 : (if recF r ≠ 0 then recF r else badF (rs.take i)) = 0 := h1
    by_cases h : recF r ≠ 0
    · rw [if_pos h] at h1; exact absurd h1 h
    · rw [if_neg h] at h1
      show (if recF r ≠ 0 then recF r else badF rs) = _
      rw [if_neg h]
      exact badF_take rs i (by simpa using hi) h1 h2
theorem badF_step : ∀ (rs : List RecM) (i : Nat) (hi : i < rs.length), badF (rs.take i) = 0 → recF rs[i] = 0 → badF (rs.take (i + 1)) = 0
  | r :: rs, 0, _, _, h => by
    have h : recF r = 0 := h
    show (if recF r ≠ 0 then recF r else badF (rs.take 0)) = 0
    rw [if_neg (by rw [h]; simp)]; rfl
  | r :: rs, i + 1, hi, h1, h2 => by
    have h1 : (if recF r ≠ 0 then recF r else badF (rs.take i)) = 0 := h1
    by_cases h : recF r ≠ 0
    · rw [if_pos h] at h1; exact absurd h1 h
    · rw [if_neg h] at h1
      show (if recF r ≠ 0 then recF r else badF (rs.take (i + 1))) = 0
      rw [if_neg h]
      exact badF_step rs i (by simpa using hi) h1 h2
theorem size_pos {s : ByteArray} : s.size > 0 ↔ s ≠ ByteArray.mk #[] := by
  constructor
  · rintro h rfl; exact absurd h (Nat.lt_irrefl 0)
  · intro h
    rcases Nat.eq_zero_or_pos s.size with h0 | h0
    · exfalso
      apply h
      obtain ⟨⟨l⟩⟩ := s
      have h0 : l.length = 0 := h0
      rw [List.length_eq_zero_iff.1 h0]
    · exact h0

section
variable {w : World} {l r : List HP} {b : BatM}

theorem rmark_c (b : BatM) (hs : Sat w l) : Ret P F.rec_mark #[.agg (encB7 b).toArray] w fun vs w' => vs = [.bool (markB b)] ∧ Sat w' l :=
  rec_mark_calls b.base b.pid b.epoch b.seq b.kind b.time b.x <| by
    unfold rec_mark
    refine wp_boxO hs fun a0 w' hs => ?_
    refine wp_ldO hs ?_
    refine wp_ldO hs ?_
    refine wp_lt ?_
    exact ⟨rfl, rfl, hs.tail⟩
theorem imark_c (b : BatM) (hs : Sat w l) : Ret P F.iso_mark #[.agg (encB7 b).toArray] w fun vs w' => vs = [.bool (markB b)] ∧ Sat w' l :=
  iso_mark_calls b.base b.pid b.epoch b.seq b.kind b.time b.x <| by
    unfold iso_mark
    refine wp_boxO hs fun a0 w' hs => ?_
    refine wp_ldO hs ?_
    refine wp_ldO hs ?_
    refine wp_lt ?_
    exact ⟨rfl, rfl, hs.tail⟩
theorem dmark_c (b : BatM) (hs : Sat w l) : Ret P F.towpathref03_Mark #[.agg (encB7 b).toArray] w fun vs w' => vs = [.bool (markB b)] ∧ Sat w' l :=
  towpathref03_Mark_calls b.base b.pid b.epoch b.seq b.kind b.time b.x <| by
    unfold towpathref03_Mark
    refine wp_boxO hs fun a0 w' hs => ?_
    refine wp_ldO hs ?_
    refine wp_ldO hs ?_
    refine wp_lt ?_
    exact ⟨rfl, rfl, hs.tail⟩
theorem within_c (n lo hi : Int) (hs : Sat w l) : Ret P F.rec_within #[.int .i64 n, .int .i64 lo, .int .i64 hi] w fun vs w' => vs = [.bool (decide (lo ≤ n ∧ n ≤ hi))] ∧ Sat w' l :=
  rec_within_calls n lo hi <| by
    unfold rec_within
    refine wp_lt ?_
    exact ⟨rfl, by rw [Bool.decide_and], hs⟩
theorem out_c (n lo hi : Int) (hs : Sat w l) : Ret P F.towpathref03_out #[.int .i64 n, .int .i64 lo, .int .i64 hi] w fun vs w' => vs = [.bool (!decide (lo ≤ n ∧ n ≤ hi))] ∧ Sat w' l :=
  towpathref03_out_calls n lo hi <| by
    unfold towpathref03_out
    refine wp_lt ?_
    refine ⟨rfl, ?_, hs⟩
    congr 2
    rw [Bool.eq_iff_iff]
    simp only [Bool.or_eq_true, decide_eq_true_eq, Bool.not_eq_true', decide_eq_false_iff_not]
    omega

theorem span_c (b : BatM) [hb : FocR l b.x 4 (b.rs.flatMap encR)] (hs : Sat w l) : Ret P F.rec_Span #[.agg (encB7 b).toArray] w fun vs w' => vs = [.int .i64 (spanB b)] ∧ Sat w' l :=
  rec_Span_calls b.base b.pid b.epoch b.seq b.kind b.time b.x <| by
    unfold rec_Span spanB
    have hl := hs.slen b.x (xs := b.rs) (enc := encR)
    refine wp_boxO hs fun a0 w' hs => ?_
    refine wp_ldG hs ?_
    refine wp_call (rmark_c b hs) fun _ _ hs => ?_
    obtain ⟨rfl, hs⟩ := hs
    refine ret_of ?_
    refine wp_if (fun h => ?_) fun h => ?_
    · rw [if_pos h]; exact ⟨rfl, rfl, hs.tail⟩
    · rw [if_neg h]
      refine wp_ldO hs ?_
      refine wp_lt ?_
      rw [hl]
      exact ⟨rfl, rfl, hs.tail⟩
theorem dspan_c (b : BatM) [hb : FocR l b.x 4 (b.rs.flatMap encR)] (hs : Sat w l) : Ret P F.towpathref03_Span #[.agg (encB7 b).toArray] w fun vs w' => vs = [.int .i64 (spanB b)] ∧ Sat w' l :=
  towpathref03_Span_calls b.base b.pid b.epoch b.seq b.kind b.time b.x <| by
    unfold towpathref03_Span spanB
    have hl := hs.slen b.x (xs := b.rs) (enc := encR)
    refine wp_boxO hs fun a0 w' hs => ?_
    refine wp_ldG hs ?_
    refine wp_call (dmark_c b hs) fun _ _ hs => ?_
    obtain ⟨rfl, hs⟩ := hs
    refine ret_of ?_
    refine wp_if (fun h => ?_) fun h => ?_
    · rw [if_pos h]; exact ⟨rfl, rfl, hs.tail⟩
    · rw [if_neg h]
      refine wp_ldO hs ?_
      refine wp_lt ?_
      rw [hl]
      exact ⟨rfl, rfl, hs.tail⟩

theorem record_c (r : RecM) (hs : Sat w l) : Ret P F.rec_record #[.agg (encR r).toArray] w fun vs w' => vs = [.int .i64 (recF r)] ∧ Sat w' l :=
  rec_record_calls r.key r.value r.gone r.time <| by
    unfold rec_record recF
    refine wp_boxO hs fun a0 w' hs => ?_
    refine wp_ldO hs ?_
    refine wp_ldO hs ?_
    refine wp_lt ?_
    refine wp_if (fun h => ?_) fun h => ?_
    · rw [if_pos (by omega)]; exact ⟨rfl, rfl, hs.tail⟩
    rw [if_neg (by omega)]
    refine wp_ldO hs ?_
    refine wp_call (within_c r.time 0 1099511627776 hs) fun _ _ hs => ?_
    obtain ⟨rfl, hs⟩ := hs
    refine ret_of ?_
    refine wp_ldO hs ?_
    refine wp_ldO hs ?_
    refine wp_lt ?_
    have e : (¬ (0 ≤ r.time ∧ r.time ≤ 1099511627776) ∨ (r.gone = true ∧ r.value.size > 0)) ↔ (¬ (0 ≤ r.time ∧ r.time ≤ 1099511627776) ∨ (r.gone = true ∧ ¬ r.value = ByteArray.mk #[])) := by rw [size_pos]
    refine wp_if (fun h => ?_) fun h => ?_
    · rw [if_pos (e.2 h)]; exact ⟨rfl, rfl, hs.tail⟩
    · rw [if_neg (fun h2 => h (e.1 h2))]; exact ⟨rfl, rfl, hs.tail⟩

theorem numbers_c (b : BatM) (hs : Sat w l) : Ret P F.rec_numbers #[.agg (encB7 b).toArray] w fun vs w' => vs = [.bool (decide (numsB b))] ∧ Sat w' l :=
  rec_numbers_calls b.base b.pid b.epoch b.seq b.kind b.time b.x <| by
    unfold rec_numbers
    refine wp_boxO hs fun a0 w' hs => ?_
    refine wp_mid (fun v w' => v = (decide (numsB b), ()) ∧ Sat w' l) ?_ (by rintro _ w' ⟨rfl, hs⟩; refine wp_on ?_; exact ⟨rfl, rfl, hs⟩)
    have hno : ∀ {w'}, ¬ numsB b → Sat w' (pt a0 (.cells #[.int .i64 b.base, .int .i64 b.pid, .int .i64 b.epoch, .int .i64 b.seq, .int .i64 b.kind, .int .i64 b.time, .slice b.x.a b.x.len b.x.cap] T.api_Batch) :: l) → ((false, ()) : Bool × Unit) = (decide (numsB b), ()) ∧ Sat w' l := fun h hs => ⟨by rw [decide_eq_false h], hs.tail⟩
    refine wp_ldO hs ?_
    refine wp_ldO hs ?_
    refine wp_ldO hs ?_
    refine wp_if (fun h1 => ?_) fun h1 => ?_
    rotate_left
    · exact wp_lv (hno (fun h => h1 h.1) hs)
    refine wp_call (within_c b.base 0 1099511627776 hs) fun _ _ hs => ?_
    obtain ⟨rfl, hs⟩ := hs
    refine ret_of ?_
    refine wp_ldO hs ?_
    refine wp_if (fun h2 => ?_) fun h2 => ?_
    rotate_left
    · exact wp_lv (hno (fun h => h2 h.2.1) hs)
    refine wp_call (within_c b.pid 0 1048576 hs) fun _ _ hs => ?_
    obtain ⟨rfl, hs⟩ := hs
    refine ret_of ?_
    refine wp_ldO hs ?_
    refine wp_ldO hs ?_
    refine wp_ldO hs ?_
    refine wp_ldO hs ?_
    refine wp_ldO hs ?_
    refine wp_if (fun h3 => ?_) fun h3 => ?_
    rotate_left
    · exact wp_lv (hno (fun h => h3 ⟨⟨⟨⟨h.2.2.1, h.2.2.2.1.1⟩, h.2.2.2.1.2⟩, h.2.2.2.2.1.1⟩, h.2.2.2.2.1.2⟩) hs)
    refine wp_call (within_c b.time 0 1099511627776 hs) fun _ _ hs => ?_
    obtain ⟨rfl, hs⟩ := hs
    refine ret_of ?_
    refine wp_lt ?_
    refine wp_lv ⟨?_, hs.tail⟩
    have : (numsB b) ↔ (0 ≤ b.time ∧ b.time ≤ 1099511627776) := ⟨fun h => h.2.2.2.2.2, fun h => ⟨h1, h2, h3.1.1.1.1, ⟨h3.1.1.1.2, h3.1.1.2⟩, ⟨h3.1.2, h3.2⟩, h⟩⟩
    rw [decide_eq_decide.2 this]

theorem fits_c (b : BatM) [hb : FocR l b.x 4 (b.rs.flatMap encR)] (hs : Sat w l) : Ret P F.rec_fits #[.agg (encB7 b).toArray] w fun vs w' => vs = [.bool (decide (fitsB b))] ∧ Sat w' l :=
  rec_fits_calls b.base b.pid b.epoch b.seq b.kind b.time b.x <| by
    unfold rec_fits
    have hl := hs.slen b.x (xs := b.rs) (enc := encR)
    refine wp_boxO hs fun a0 w' hs => ?_
    refine wp_ldO hs ?_
    refine wp_ldO hs ?_
    refine wp_ldO hs ?_
    refine wp_ldO hs ?_
    refine wp_if (fun h1 => ?_) fun h1 => ?_
    · have : ¬ fitsB b := fun h => h.1 ⟨h1.1, or_assoc.1 h1.2⟩
      exact ⟨rfl, by rw [decide_eq_false this], hs.tail⟩
    have h1 : ¬ (b.pid = 0 ∧ (b.kind ≠ 0 ∨ b.epoch ≠ 0 ∨ b.seq ≠ 0)) := fun h => h1 ⟨h.1, or_assoc.2 h.2⟩
    refine wp_ldG hs ?_
    refine wp_call (rmark_c b hs) fun _ _ hs => ?_
    obtain ⟨rfl, hs⟩ := hs
    refine ret_of ?_
    refine wp_if (fun h2 => ?_) fun h2 => ?_
    · refine wp_ldO hs ?_
      refine wp_ldO hs ?_
      refine wp_lt ?_
      refine ⟨rfl, ?_, hs.tail⟩
      have : fitsB b ↔ (b.seq = 0 ∧ b.rs.length = 0) := by
        unfold fitsB
        rw [if_pos h2]
        exact ⟨fun h => h.2, fun h => ⟨h1, h⟩⟩
      congr 2
      rw [Bool.eq_iff_iff, decide_eq_true_iff, this, Bool.and_eq_true, beq_iff_eq, beq_iff_eq, hl]
      omega
    · refine wp_ldO hs ?_
      refine wp_lt ?_
      refine ⟨rfl, ?_, hs.tail⟩
      have : fitsB b ↔ 0 < b.rs.length := by
        unfold fitsB
        rw [if_neg h2]
        exact ⟨fun h => h.2, fun h => ⟨h1, h⟩⟩
      congr 2
      rw [Bool.eq_iff_iff, decide_eq_true_iff, decide_eq_true_iff, this, hl]
      omega

theorem valid_c (b : BatM) [hb : FocR l b.x 4 (b.rs.flatMap encR)] (hs : Sat w l) : Ret P F.rec_Valid #[.agg (encB7 b).toArray] w fun vs w' => vs = [.int .i64 (validB b)] ∧ Sat w' l :=
  rec_Valid_calls b.base b.pid b.epoch b.seq b.kind b.time b.x <| by
    unfold rec_Valid validB
    have hl := hs.slen b.x (xs := b.rs) (enc := encR)
    refine wp_boxO hs fun a0 w' hs => ?_
    refine wp_mid (fun v w' => v = (decide (¬ numsB b ∨ ¬ fitsB b), ()) ∧ Sat w' (pt a0 (.cells #[.int .i64 b.base, .int .i64 b.pid, .int .i64 b.epoch, .int .i64 b.seq, .int .i64 b.kind, .int .i64 b.time, .slice b.x.a b.x.len b.x.cap] T.api_Batch) :: l)) ?_ ?_
    · refine wp_ldG hs ?_
      refine wp_call (numbers_c b hs) fun _ _ hs => ?_
      obtain ⟨rfl, hs⟩ := hs
      refine ret_of ?_
      refine wp_ldG hs ?_
      refine wp_if (fun h1 => ?_) fun h1 => ?_
      · exact wp_lv ⟨by rw [decide_eq_true (.inl h1)], hs⟩
      refine wp_call (fits_c b hs) fun _ _ hs => ?_
      obtain ⟨rfl, hs⟩ := hs
      refine ret_of ?_
      refine wp_lt ?_
      refine wp_lv ⟨?_, hs⟩
      have : (¬ numsB b ∨ ¬ fitsB b) ↔ ¬ fitsB b := ⟨fun h => h.resolve_left h1, .inr⟩
      rw [decide_eq_decide.2 this, decide_not]
    clear hs
    rintro _ w ⟨rfl, hs⟩
    refine wp_on ?_
    refine wp_if (fun h1 => ?_) fun h1 => ?_
    · rw [if_pos h1]; exact ⟨rfl, rfl, hs.tail⟩
    rw [if_neg h1]
    have hnum : numsB b := Decidable.not_not.1 fun h => h1 (.inl h)
    have hfit : fitsB b := Decidable.not_not.1 fun h => h1 (.inr h)
    refine wp_ldO hs ?_
    refine wp_lt ?_
    refine wp_if (fun h2 => ?_) fun h2 => ?_
    · rw [if_pos (by omega)]; exact ⟨rfl, rfl, hs.tail⟩
    rw [if_neg (by omega)]
    refine wp_ldO hs ?_
    refine wp_mid (fun v w' => badF b.rs = 0 ∧ Sat w' (pt a0 (.cells #[.int .i64 b.base, .int .i64 b.pid, .int .i64 b.epoch, .int .i64 b.seq, .int .i64 b.kind, .int .i64 b.time, .slice b.x.a b.x.len b.x.cap] T.api_Batch) :: l)) ?_ ?_
    · refine wp_loop (fun k v w => ∃ i : Nat, v = ((i : Int), ()) ∧ i ≤ b.rs.length ∧ b.rs.length - i = k ∧ badF (b.rs.take i) = 0 ∧ Sat w (pt a0 (.cells #[.int .i64 b.base, .int .i64 b.pid, .int .i64 b.epoch, .int .i64 b.seq, .int .i64 b.kind, .int .i64 b.time, .slice b.x.a b.x.len b.x.cap] T.api_Batch) :: l)) b.rs.length ⟨0, rfl, by omega, rfl, rfl, hs⟩ ?_
      clear hs
      rintro k _ w ⟨i, rfl, hi, hk, hbad, hs⟩
      refine wp_on ?_
      refine wp_if (fun hc => ?_) fun hc => ?_
      rotate_left
      · refine wp_pass (wp_lv ⟨?_, hs⟩)
        rwa [List.take_of_length_le (by omega)] at hbad
      have hil : i < b.rs.length := by omega
      refine wp_ixA hs i hil ?_
      refine wp_newO hs fun c w' hs => ?_
      refine wp_stG hs fun w' hs => ?_
      refine wp_ldG hs ?_
      refine wp_call (record_c b.rs[i] hs) fun _ _ hs => ?_
      obtain ⟨rfl, hs⟩ := hs
      refine ret_of ?_
      refine wp_lt ?_
      refine wp_if (fun h3 => ?_) fun h3 => ?_
      · refine wp_lt ?_
        refine wp_pass (wp_pass ?_)
        have := badF_take b.rs i hil hbad h3
        rw [if_pos (by rw [this]; exact h3), this]
        exact ⟨rfl, rfl, hs.tail.tail⟩
      · refine wp_dn (us' := [.int .i64 ((i + 1 : Nat) : Int)]) (by (try simp (disch := omega) only [w64]); first | rfl | (congr; omega)) ?_
        refine wp_lp (b.rs.length - (i + 1)) ?_
        exact ⟨i + 1, rfl, by omega, rfl, badF_step b.rs i hil hbad (Decidable.not_not.1 h3), hs.sub⟩
    clear hs
    rintro _ w ⟨hbad, hs⟩
    refine wp_on ?_
    rw [if_neg (by rw [hbad]; simp)]
    refine wp_ldG hs ?_
    refine wp_call (span_c b hs) fun _ _ hs => ?_
    obtain ⟨rfl, hs⟩ := hs
    refine ret_of ?_
    have hsp : 1 ≤ spanB b ∧ spanB b ≤ 64 := by
      unfold spanB
      have h3 := hfit.2
      split
      · omega
      · rename_i hm
        rw [if_neg hm] at h3
        omega
    obtain ⟨-, hba, -, -, hse, -⟩ := hnum
    refine wp_ltx (y := spanB b - 1) ?_ (by rw [w64 (by omega) (by omega)])
    refine wp_mid (fun v w' => v = (decide (b.base > 1099511627776 - (spanB b - 1) ∨ (b.pid > 0 ∧ markB b = false ∧ b.seq > 2147483647 - (spanB b - 1))), ()) ∧ Sat w' l) ?_ ?_
    · rw [w64 (x := 1099511627776 - (spanB b - 1)) (by omega) (by omega)]
      refine wp_ldO hs ?_
      refine wp_ldO hs ?_
      refine wp_ldG hs ?_
      refine wp_if (fun h3 => ?_) fun h3 => ?_
      · exact wp_lv ⟨by rw [decide_eq_true (.inl h3)], hs.tail⟩
      refine wp_if (fun h4 => ?_) fun h4 => ?_
      rotate_left
      · exact wp_lv ⟨by rw [decide_eq_false (fun h => h.elim h3 fun h => h4 h.1)], hs.tail⟩
      refine wp_call (rmark_c b hs) fun _ _ hs => ?_
      obtain ⟨rfl, hs⟩ := hs
      refine ret_of ?_
      refine wp_ldO hs ?_
      rw [w64 (x := 2147483647 - (spanB b - 1)) (by omega) (by omega)]
      refine wp_lv ⟨?_, hs.tail⟩
      have : (b.base > 1099511627776 - (spanB b - 1) ∨ (b.pid > 0 ∧ markB b = false ∧ b.seq > 2147483647 - (spanB b - 1))) ↔ (markB b = false ∧ b.seq > 2147483647 - (spanB b - 1)) := ⟨fun h => (h.resolve_left h3).2, fun h => .inr ⟨h4, h⟩⟩
      rw [decide_eq_decide.2 this, Bool.decide_and]
      cases markB b <;> rfl
    clear hs
    rintro _ w ⟨rfl, hs⟩
    refine wp_on ?_
    refine wp_if (fun h3 => ?_) fun h3 => ?_
    · rw [if_pos h3]; exact ⟨rfl, rfl, hs⟩
    · rw [if_neg h3]; exact ⟨rfl, rfl, hs⟩

theorem span_le (b : BatM) (hv : validB b = 0) : 1 ≤ spanB b ∧ spanB b ≤ 64 ∧ numsB b ∧ fitsB b ∧ b.base + spanB b ≤ 1099511627777 := by
  unfold validB at hv
  split at hv
  · cases hv
  rename_i h1
  have hnum : numsB b := Decidable.not_not.1 fun h => h1 (.inl h)
  have hfit : fitsB b := Decidable.not_not.1 fun h => h1 (.inr h)
  split at hv
  · cases hv
  rename_i h2
  split at hv
  · rename_i h3; exact absurd hv h3
  split at hv
  · cases hv
  rename_i h4
  have hsp : 1 ≤ spanB b ∧ spanB b ≤ 64 := by
    unfold spanB
    have h3 := hfit.2
    split
    · omega
    · rename_i hm
      rw [if_neg hm] at h3
      omega
  refine ⟨hsp.1, hsp.2, hnum, hfit, ?_⟩
  apply Decidable.byContradiction
  intro h5
  exact h4 (.inl (by omega))

theorem next_c_ (b : BatM) [hb : FocR l b.x 4 (b.rs.flatMap encR)] (hs : Sat w l) : Ret P F.rec_Next #[.agg (encB7 b).toArray] w fun vs w' => vs = [.int .i64 (nextB b)] ∧ Sat w' l :=
  rec_Next_calls b.base b.pid b.epoch b.seq b.kind b.time b.x <| by
    unfold rec_Next nextB
    refine wp_boxO hs fun a0 w' hs => ?_
    refine wp_ldG hs ?_
    refine wp_call (valid_c b hs) fun _ _ hs => ?_
    obtain ⟨rfl, hs⟩ := hs
    refine ret_of ?_
    refine wp_if (fun h => ?_) fun h => ?_
    · rw [if_pos h]; exact ⟨rfl, rfl, hs.tail⟩
    rw [if_neg h]
    obtain ⟨h1, h2, h3, -⟩ := span_le b (Decidable.not_not.1 h)
    have h3 := h3.2.1
    refine wp_tk hs fun w' hs => ?_
    refine wp_hdO hs ?_
    refine wp_ldG hs ?_
    refine wp_call (span_c b hs) fun _ w' hs => ?_
    obtain ⟨rfl, hs⟩ := hs
    refine ret_of ?_ ⟨trivial, fun _ => run_ldO hs⟩
    refine wp_ltx (y := b.base + spanB b) ?_ (by rw [w64 (by omega) (by omega)])
    refine wp_untick ?_
    exact ⟨rfl, rfl, hs.tail⟩

end
end Go.Dec
