/- Isolation: Take. -/
import Derived.Test.YtpjfebedfejmgaaV3
namespace Go.Dec
set_option linter.unusedVariables false
set_option linter.unusedSimpArgs false

def dropP (p : Int) (l : List TxnA) : List TxnA := l.filter fun t => !decide (t.pid = p)
def takeV (A : ViewA) (b : BatM) : ViewA :=
  if b.kind = 1 ∧ (opF A b.pid).isSome = false then { A with next := b.base + spanB b, op := A.op ++ [⟨b.pid, b.epoch, b.base, -1⟩] }
  else if markB b = true ∧ (opF A b.pid).isSome = true then
    if b.kind = 3 then ⟨b.base + spanB b, dropP b.pid A.op, A.fa ++ [{ (opF A b.pid).getD ⟨0, 0, 0, 0⟩ with last := b.base }]⟩ else ⟨b.base + spanB b, dropP b.pid A.op, A.fa⟩
  else { A with next := b.base + spanB b }
def takeA (A : ViewA) (b : BatM) : Int × ViewA := if codeA A b ≠ 0 then (codeA A b, A) else (0, takeV A b)

theorem code_zero {A : ViewA} {b : BatM} (h : codeA A b = 0) : validB b = 0 ∧ A.next ≤ b.base ∧ (b.kind ≠ 0 → mayA A b = 0) := by
  unfold codeA at h
  by_cases h1 : validB b ≠ 0
  · rw [if_pos h1] at h; exact absurd h h1
  rw [if_neg h1] at h
  by_cases h2 : b.base < A.next
  · rw [if_pos h2] at h; cases h
  rw [if_neg h2] at h
  refine ⟨Decidable.not_not.1 h1, by omega, fun h3 => ?_⟩
  rwa [if_pos h3] at h
theorem may_zero {A : ViewA} {b : BatM} (h : mayA A b = 0) : faF A b.pid b.epoch = none ∧ (∀ t, opF A b.pid = some t → t.epoch = b.epoch) ∧ (b.kind = 1 → opF A b.pid = none → A.op.length < 1024) ∧ (b.kind = 3 → ∀ t, opF A b.pid = some t → A.fa.length < 4096) := by
  unfold mayA at h
  by_cases h1 : (faF A b.pid b.epoch).isSome = true
  · rw [if_pos h1] at h; cases h
  rw [if_neg h1] at h
  have hn : faF A b.pid b.epoch = none := by
    cases hc : faF A b.pid b.epoch with
    | none => rfl
    | some t => rw [hc] at h1; exact absurd rfl h1
  split at h
  · cases h
  rename_i h2
  split at h
  · cases h
  rename_i h3
  split at h
  · cases h
  rename_i h4
  refine ⟨hn, fun t ht => ?_, fun hk ho => ?_, fun hk t ht => ?_⟩
  · have h5 : ((opF A b.pid).getD ⟨0, 0, 0, 0⟩).pid = b.pid ∧ ((opF A b.pid).getD ⟨0, 0, 0, 0⟩).epoch = b.epoch := Decidable.not_not.1 fun h6 => h2 ⟨by rw [ht]; rfl, h6⟩
    rw [ht] at h5
    exact h5.2
  · apply Nat.lt_of_not_le
    intro h5
    exact h3 ⟨hk, by rw [ho]; rfl, h5⟩
  · apply Nat.lt_of_not_le
    intro h5
    exact h4 ⟨hk, by rw [ht]; rfl, h5⟩

theorem okT_mono {t : TxnA} {n m : Int} (h : okT t n) (hnm : n ≤ m) : okT t m := ⟨h.pid, h.epoch, h.first.1, Int.lt_of_lt_of_le h.first.2 hnm⟩

theorem dropP_perm {t : TxnA} : ∀ {l : List TxnA}, (l.map (·.pid)).Nodup → t ∈ l → l.Perm (t :: dropP t.pid l)
  | u :: l, hnd, ht => by
    rw [List.map_cons, List.nodup_cons] at hnd
    have hrest : ∀ {p : Int}, p ∉ l.map (·.pid) → dropP p l = l := fun {p} hp => List.filter_eq_self.2 fun x hx => by
      have : x.pid ≠ p := fun e => hp (List.mem_map.2 ⟨x, hx, e⟩)
      simpa using this
    rcases List.mem_cons.1 ht with rfl | ht
    · have : dropP t.pid (t :: l) = l := by
        show (t :: l).filter _ = l
        rw [List.filter_cons_of_neg (by simp)]
        exact hrest hnd.1
      rw [this]
    · have hne : u.pid ≠ t.pid := fun e => hnd.1 (List.mem_map.2 ⟨t, ht, e.symm⟩)
      have : dropP t.pid (u :: l) = u :: dropP t.pid l := by
        show (u :: l).filter _ = _
        rw [List.filter_cons_of_pos (by simpa using hne)]; rfl
      rw [this]
      exact ((dropP_perm hnd.2 ht).cons u).trans (.swap _ _ _)

theorem okV_take {A : ViewA} {b : BatM} (hok : okV A) (h : codeA A b = 0) : okV (takeV A b) := by
  obtain ⟨hv, hbase, hmay⟩ := code_zero h
  obtain ⟨s1, s2, hnum, hfit, s3⟩ := span_le b hv
  obtain ⟨hk, hb, hp, he, hse, ht⟩ := hnum
  have hnx := hok.next
  unfold takeV
  split
  · rename_i h1
    obtain ⟨hk1, ho⟩ := h1
    obtain ⟨m1, m2, m3, m4⟩ := may_zero (hmay (by omega))
    have ho : opF A b.pid = none := by
      cases hc : opF A b.pid with
      | none => rfl
      | some t => rw [hc] at ho; cases ho
    have hpid : 1 ≤ b.pid := by
      have := hfit.1
      apply Decidable.byContradiction
      intro h5
      exact this ⟨by omega, .inl (by omega)⟩
    have hlt := m3 hk1 ho
    refine ⟨by show 0 ≤ b.base + spanB b ∧ b.base + spanB b ≤ _; omega, by show (A.op ++ [_]).length ≤ 1024 ∧ _; rw [List.length_append]; exact ⟨by simp; omega, hok.many.2⟩, fun t ht => ?_, fun t ht => ?_, ?_, hok.byLast, ?_, hok.keys, fun t ht u hu => ?_⟩
    · rcases List.mem_append.1 ht with ht | ht
      · exact ⟨okT_mono (hok.op t ht).1 (by show A.next ≤ b.base + spanB b; omega), (hok.op t ht).2⟩
      · rw [List.mem_singleton.1 ht]
        exact ⟨⟨⟨hpid, hp.2⟩, he, hb.1, by show b.base < b.base + spanB b; omega⟩, rfl⟩
    · obtain ⟨h1, h2, h3⟩ := hok.fa t ht
      exact ⟨okT_mono h1 (by show A.next ≤ b.base + spanB b; omega), h2, by show t.last < b.base + spanB b; omega⟩
    · show (A.op ++ [_]).Pairwise _
      rw [List.pairwise_append]
      refine ⟨hok.byFirst, by simp, fun t ht u hu => ?_⟩
      rw [List.mem_singleton.1 hu]
      have := (hok.op t ht).1.first
      show t.first < b.base
      omega
    · show ((A.op ++ [_]).map _).Nodup
      rw [List.map_append, List.nodup_append]
      refine ⟨hok.pids, by simp, fun p hp q hq => ?_⟩
      obtain ⟨t, ht, rfl⟩ := List.mem_map.1 hp
      rw [List.map_singleton, List.mem_singleton] at hq
      rw [hq]
      exact opF_none ho t ht
    · rcases List.mem_append.1 ht with ht | ht
      · exact hok.apart t ht u hu
      · rw [List.mem_singleton.1 ht]
        intro h5
        exact faF_none m1 u hu ⟨h5.1.symm, h5.2.symm⟩
  · split
    · rename_i h1 h2
      obtain ⟨hm, ho⟩ := h2
      obtain ⟨t, ho⟩ : ∃ t, opF A b.pid = some t := Option.isSome_iff_exists.1 ho
      have hk0 : b.kind ≠ 0 := by
        unfold markB at hm
        simp only [Bool.or_eq_true, decide_eq_true_eq] at hm
        omega
      obtain ⟨m1, m2, m3, m4⟩ := may_zero (hmay hk0)
      obtain ⟨htm, htp⟩ := opF_some ho
      have hte := m2 t ho
      have hdrop : ∀ u ∈ dropP b.pid A.op, u ∈ A.op ∧ u.pid ≠ b.pid := fun u hu => by
        obtain ⟨h5, h6⟩ := List.mem_filter.1 hu
        exact ⟨h5, by simpa using h6⟩
      have hsub : (dropP b.pid A.op).Sublist A.op := List.filter_sublist
      have hop : ∀ u ∈ dropP b.pid A.op, okT u (b.base + spanB b) ∧ u.last = -1 := fun u hu => ⟨okT_mono (hok.op u (hdrop u hu).1).1 (by omega), (hok.op u (hdrop u hu).1).2⟩
      have hfa : ∀ u ∈ A.fa, okT u (b.base + spanB b) ∧ u.first < u.last ∧ u.last < b.base + spanB b := fun u hu => by
        obtain ⟨h5, h6, h7⟩ := hok.fa u hu
        exact ⟨okT_mono h5 (by omega), h6, by omega⟩
      have hlen : (dropP b.pid A.op).length ≤ 1024 := Nat.le_trans hsub.length_le hok.many.1
      split
      · rename_i hk3
        rw [ho]
        have htf := (hok.op t htm).1
        refine ⟨by show 0 ≤ b.base + spanB b ∧ b.base + spanB b ≤ _; omega, ⟨hlen, by show (A.fa ++ [_]).length ≤ _; rw [List.length_append]; have := m4 hk3 t ho; simp; omega⟩, hop, fun u hu => ?_, hok.byFirst.sublist hsub, ?_, hok.pids.sublist (hsub.map _), ?_, fun u hu x hx => ?_⟩
        · rcases List.mem_append.1 hu with hu | hu
          · exact hfa u hu
          · rw [List.mem_singleton.1 hu]
            have := htf.first
            exact ⟨⟨htf.pid, htf.epoch, this.1, by show t.first < b.base + spanB b; omega⟩, by show t.first < b.base; omega, by show b.base < b.base + spanB b; omega⟩
        · show (A.fa ++ [_]).Pairwise _
          rw [List.pairwise_append]
          refine ⟨hok.byLast, by simp, fun u hu x hx => ?_⟩
          rw [List.mem_singleton.1 hx]
          have := (hok.fa u hu).2.2
          show u.last < b.base
          omega
        · show ((A.fa ++ [_]).map _).Nodup
          rw [List.map_append, List.nodup_append]
          refine ⟨hok.keys, by simp, fun p hp q hq => ?_⟩
          obtain ⟨u, hu, rfl⟩ := List.mem_map.1 hp
          rw [List.map_singleton, List.mem_singleton] at hq
          rw [hq]
          intro h5
          simp only [Prod.mk.injEq] at h5
          exact faF_none m1 u hu ⟨h5.1.trans htp, h5.2.trans hte⟩
        · rcases List.mem_append.1 hx with hx | hx
          · exact hok.apart u (hdrop u hu).1 x hx
          · rw [List.mem_singleton.1 hx]
            intro h5
            exact (hdrop u hu).2 (h5.1.trans htp)
      · exact ⟨by show 0 ≤ b.base + spanB b ∧ b.base + spanB b ≤ _; omega, ⟨hlen, hok.many.2⟩, hop, hfa, hok.byFirst.sublist hsub, hok.byLast, hok.pids.sublist (hsub.map _), hok.keys, fun u hu x hx => hok.apart u (hdrop u hu).1 x hx⟩
    · refine ⟨by show 0 ≤ b.base + spanB b ∧ b.base + spanB b ≤ _; omega, hok.many, fun t ht => ⟨okT_mono (hok.op t ht).1 (by show A.next ≤ b.base + spanB b; omega), (hok.op t ht).2⟩, fun t ht => ?_, hok.byFirst, hok.byLast, hok.pids, hok.keys, hok.apart⟩
      obtain ⟨h1, h2, h3⟩ := hok.fa t ht
      exact ⟨okT_mono h1 (by show A.next ≤ b.base + spanB b; omega), h2, by show t.last < b.base + spanB b; omega⟩

section
variable {w : World} {l r r1 r2 r3 l' : List HP} {v : Nat} {A : ViewA} {b : BatM}

theorem itake_c (b : BatM) [hf : Fo l vw v A r] [hb : FocR r b.x 4 (b.rs.flatMap encR)] (hs : Sat w l) : Ret P F.iso_View_Take #[.pointer (some ⟨v, 0, none⟩), .agg (encB7 b).toArray] w fun vs w' => vs = [.int .i64 (takeA A b).1] ∧ Sat w' (vw v (takeA A b).2 :: r) :=
  iso_View_Take_calls _ b.base b.pid b.epoch b.seq b.kind b.time b.x <| by
    unfold iso_View_Take takeA
    refine wp_boxO (hs.perm hf.perm) fun a0 w' hs => ?_
    refine wp_ldG hs ?_
    refine wp_call (iMay_c (v := v) b hs) fun _ _ hs => ?_
    obtain ⟨rfl, hs⟩ := hs
    refine ret_of ?_
    refine wp_lt ?_
    refine wp_if (fun h => ?_) fun h => ?_
    · rw [if_pos h]
      refine wp_lt ?_
      exact ⟨rfl, rfl, hs.sub⟩
    rw [if_neg h]
    have hc : codeA A b = 0 := Decidable.not_not.1 h
    obtain ⟨hv, hbase, hmay⟩ := code_zero hc
    refine wp_ldG hs ?_
    refine wp_call (next_c_ b hs) fun _ _ hs => ?_
    obtain ⟨rfl, hs⟩ := hs
    refine ret_of ?_
    have hnx : nextB b = b.base + spanB b := by unfold nextB; rw [if_neg (by rw [hv]; simp)]
    rw [hnx]
    obtain ⟨m1, m2, hok, hs⟩ := vw_open hs
    have hok' := okV_take hok hc
    have ho := opF_look A b.pid
    refine wp_nn ?_
    refine wp_stO hs fun w' hs => ?_
    refine wp_mid (fun x w' => ∃ c : Nat, x = (⟨c, 0, none⟩, (opF A b.pid).isSome, ()) ∧ Sat w' (pt c (.cells #[.int .i64 ((opF A b.pid).getD ⟨0, 0, 0, 0⟩).pid, .int .i64 ((opF A b.pid).getD ⟨0, 0, 0, 0⟩).epoch, .int .i64 ((opF A b.pid).getD ⟨0, 0, 0, 0⟩).first, .int .i64 ((opF A b.pid).getD ⟨0, 0, 0, 0⟩).last] T.iso_life) ::
      pt a0 (.cells #[.int .i64 b.base, .int .i64 b.pid, .int .i64 b.epoch, .int .i64 b.seq, .int .i64 b.kind, .int .i64 b.time, .slice b.x.a b.x.len b.x.cap] T.api_Batch) ::
      pt v (.cells #[.int .i64 (b.base + spanB b), .map (some m1), .map (some m2)] T.iso_View) :: mapP ekI evX m1 (opK A) :: mapP ekK evX m2 (faK A) :: r)) ?_ ?_
    · refine wp_tk hs fun w' hs => ?_
      refine wp_nn ?_
      refine wp_hdO hs ?_
      refine wp_hdO hs ?_
      refine wp_lookH hs (opF A b.pid) ho lookD ?_
      refine wp_u5 _ _ _ _ _ ?_
      refine wp_newO hs (fun c w' hs => ?_) (fun c w' hs => ⟨⟨⟨trivial, fun _ => run_ldO hs⟩, fun _ => run_ldO hs⟩, fun _ => look_keep (ss := lkS) hs ho lookD⟩)
      refine wp_untick ?_
      refine wp_stG hs fun w' hs => ?_
      refine wp_lt ?_
      refine wp_untick ?_
      exact wp_lv ⟨c, rfl, hs.sub⟩
    clear hs
    rintro _ w ⟨c, rfl, hs⟩
    refine wp_on ?_
    refine wp_ldO hs ?_
    refine wp_lt ?_
    refine wp_mid (fun _ w' => Sat w' (vw v (takeV A b) :: r)) ?_ (by rintro _ w' hs; refine wp_on ?_; exact ⟨rfl, rfl, hs⟩)
    refine wp_if (fun h1 => ?_) fun h1 => ?_
    · have h1 : b.kind = 1 ∧ (opF A b.pid).isSome = false := ⟨h1.1, by simpa using h1.2⟩
      have htk : takeV A b = { A with next := b.base + spanB b, op := A.op ++ [⟨b.pid, b.epoch, b.base, -1⟩] } := by unfold takeV; rw [if_pos h1]
      rw [htk] at hok' ⊢
      refine wp_tk hs fun w' hs => ?_
      refine wp_nn ?_
      refine wp_ldO hs ?_
      refine wp_ldO hs ?_
      refine wp_ldO hs ?_
      refine wp_ldO hs ?_
      refine wp_ldO hs ?_
      have hno : ∀ u, (b.pid, u) ∉ opK A := by
        rcases ho with ⟨t, ht, -⟩ | ⟨-, hno⟩
        · rw [ht] at h1; cases h1.2
        · exact hno
      refine wp_mset hs (opK A) (.inr ⟨hno, rfl⟩) (⟨b.pid, b.epoch, b.base, -1⟩ : TxnA) fun w' hs => ?_
      refine wp_untick ?_
      refine wp_lv ?_
      exact vw_close m1 m2 (A := { A with next := b.base + spanB b, op := A.op ++ [⟨b.pid, b.epoch, b.base, -1⟩] }) hok' hs (by
        show List.Perm _ ((A.op ++ [_]).map _)
        rw [List.map_append]
        exact List.perm_append_comm (l₁ := [(b.pid, (⟨b.pid, b.epoch, b.base, -1⟩ : TxnA))]))
    have h1 : ¬ (b.kind = 1 ∧ (opF A b.pid).isSome = false) := fun h => h1 ⟨h.1, by simpa using h.2⟩
    refine wp_ldG hs ?_
    refine wp_call (imark_c b hs) fun _ _ hs => ?_
    obtain ⟨rfl, hs⟩ := hs
    refine ret_of ?_
    refine wp_lt ?_
    refine wp_mid (fun _ w' => Sat w' (vw v (takeV A b) :: r)) ?_ (by rintro _ w' hs; refine wp_on ?_; exact wp_lv hs)
    refine wp_if (fun h2 => ?_) fun h2 => ?_
    rotate_left
    · have htk : takeV A b = { A with next := b.base + spanB b } := by unfold takeV; rw [if_neg h1, if_neg (fun h => h2 h)]
      rw [htk] at hok' ⊢
      refine wp_lv ?_
      exact vw_close m1 m2 (A := { A with next := b.base + spanB b }) hok' hs
    have h2 : markB b = true ∧ (opF A b.pid).isSome = true := h2
    obtain ⟨t, hot⟩ : ∃ t, opF A b.pid = some t := Option.isSome_iff_exists.1 h2.2
    obtain ⟨htm, htp⟩ := opF_some hot
    have hdel : (opK A).Perm ((b.pid, t) :: (dropP b.pid A.op).map fun t => (t.pid, t)) := by
      have := (dropP_perm hok.pids htm).map fun t : TxnA => (t.pid, t)
      rw [List.map_cons, htp] at this
      exact this
    rw [hot] at hs
    have hs : Sat _ (pt c (.cells #[.int .i64 t.pid, .int .i64 t.epoch, .int .i64 t.first, .int .i64 t.last] T.iso_life) :: _) := hs
    refine wp_tk hs fun w' hs => ?_
    refine wp_nn ?_
    refine wp_ldO hs ?_
    refine wp_ldO hs ?_
    refine wp_mdel hs ((dropP b.pid A.op).map fun t => (t.pid, t)) (.inl ⟨t, hdel⟩) fun w' hs => ?_
    refine wp_untick ?_
    refine wp_ldO hs ?_
    refine wp_mid (fun _ w' => Sat w' (vw v (takeV A b) :: r)) ?_ (by rintro _ w' hs; refine wp_on ?_; exact wp_lv hs)
    refine wp_if (fun h3 => ?_) fun h3 => ?_
    · have htk : takeV A b = ⟨b.base + spanB b, dropP b.pid A.op, A.fa ++ [(⟨t.pid, t.epoch, t.first, b.base⟩ : TxnA)]⟩ := by unfold takeV; rw [if_neg h1, if_pos h2, if_pos h3, hot]; rfl
      rw [htk] at hok' ⊢
      obtain ⟨n1, n2, -, -⟩ := may_zero (hmay (by omega))
      have hte := n2 t hot
      refine wp_ldO hs ?_
      refine wp_stO hs fun w' hs => ?_
      refine wp_tk hs fun w' hs => ?_
      refine wp_nn ?_
      refine wp_ldO hs ?_
      refine wp_ldP hs (t.pid, t.epoch, ()) ?_
      refine wp_ldG hs ?_
      have hno : ∀ u, ((t.pid, t.epoch), u) ∉ faK A := fun u hu => by
        obtain ⟨y, hy, e⟩ := List.mem_map.1 hu
        simp only [Prod.mk.injEq] at e
        exact faF_none n1 y hy ⟨e.1.1.trans htp, e.1.2.trans hte⟩
      refine wp_mset hs (faK A) (.inr ⟨hno, rfl⟩) (⟨t.pid, t.epoch, t.first, b.base⟩ : TxnA) fun w' hs => ?_
      refine wp_untick ?_
      refine wp_lv ?_
      have hp2 : (((t.pid, t.epoch), (⟨t.pid, t.epoch, t.first, b.base⟩ : TxnA)) :: faK A).Perm (faK ⟨b.base + spanB b, dropP b.pid A.op, A.fa ++ [(⟨t.pid, t.epoch, t.first, b.base⟩ : TxnA)]⟩) := by
        show List.Perm _ ((A.fa ++ [_]).map _)
        rw [List.map_append]
        exact List.perm_append_comm (l₁ := [((t.pid, t.epoch), (⟨t.pid, t.epoch, t.first, b.base⟩ : TxnA))])
      have hs := hs.mapPerm hp2
      exact vw_close m1 m2 (A := ⟨b.base + spanB b, dropP b.pid A.op, A.fa ++ [(⟨t.pid, t.epoch, t.first, b.base⟩ : TxnA)]⟩) hok' hs
    · have htk : takeV A b = ⟨b.base + spanB b, dropP b.pid A.op, A.fa⟩ := by unfold takeV; rw [if_neg h1, if_pos h2, if_neg h3]
      rw [htk] at hok' ⊢
      refine wp_lv ?_
      exact vw_close m1 m2 (A := ⟨b.base + spanB b, dropP b.pid A.op, A.fa⟩) hok' hs

end
end Go.Dec
