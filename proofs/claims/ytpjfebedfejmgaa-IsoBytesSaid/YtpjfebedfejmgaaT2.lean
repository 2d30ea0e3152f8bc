/- Isolation: the law's taken. -/
import Derived.Test.YtpjfebedfejmgaaT1
import Derived.Test.YtpjfebedfejmgaaOpsZ
namespace Go.Dec
set_option linter.unusedVariables false
set_option linter.unusedSimpArgs false

def rsP (b : BatM) : HP := slc T.api_Record 4 b.x (b.rs.flatMap encR)
def batsP (bs : List BatM) : HP := HP.all (bs.map rsP)
/-- What was taken, one behind the other, and what the view is then. -/
inductive Hist : List BatM → ViewA → Prop where
  | nil : Hist [] ⟨0, [], []⟩
  | snoc {bs : List BatM} {A : ViewA} {b : BatM} : Hist bs A → codeA A b = 0 → Hist (bs ++ [b]) (takeV A b)
/-- A call of the input's. -/
structure OpJ (l : List HP) (o : OpI) : Prop where
  rd : ∀ w, Sat w l → Rd w 4 o.b.x (o.b.rs.flatMap encR)

section
variable {w : World} {l r : List HP} {v : Nat} {A : ViewA}

theorem bats_rd {bs : List BatM} {b : BatM} (hb : b ∈ bs) : FocR (batsP bs :: l) b.x 4 (b.rs.flatMap encR) := ⟨fun w hs => by
  obtain ⟨L, hs⟩ := hs.all_mem hb
  have hs : Sat w (slc T.api_Record 4 b.x (b.rs.flatMap encR) :: HP.all L :: l) := hs
  exact hs.rd⟩
theorem bats_put {bs : List BatM} {b : BatM} (hs : Sat w (slc T.api_Record 4 b.x (b.rs.flatMap encR) :: batsP bs :: l)) : Sat w (batsP (bs ++ [b]) :: l) := by
  have hs : Sat w (HP.all (rsP b :: bs.map rsP) :: l) := Sat.all_put' (a := rsP b) hs
  have := hs.all_perm' (L' := (bs ++ [b]).map rsP) (by rw [List.map_append]; exact (List.perm_append_comm (l₁ := [rsP b])))
  exact this

theorem taken_c (x : Sl) (ops : List OpI) [hx : FocR l x 10 (ops.flatMap encO)] (hlen : ops.length ≤ 9223372036854775807) (hops : ∀ o ∈ ops, OpJ l o) (hs : Sat w l) :
    Ret P F.towpathlaw08_taken #[x.v] w fun vs w' => ∃ (v : Nat) (z : Sl) (bs : List BatM) (A : ViewA), vs = [.pointer (some ⟨v, 0, none⟩), z.v] ∧ Hist bs A ∧ bs.length ≤ 50 ∧ (∀ b ∈ bs, b.rs.length ≤ 5) ∧
      Sat w' (vw v A :: slc T.api_Batch 7 z (bs.flatMap encB7) :: batsP bs :: l) :=
  towpathlaw08_taken_calls x <| by
    unfold towpathlaw08_taken
    have hl := hs.slen x (xs := ops) (enc := encO)
    refine wp_call (inew_c hs) fun _ _ hs => ?_
    obtain ⟨v, rfl, hs⟩ := hs
    refine ret_of ?_
    refine wp_mid (fun u w' => ∃ (z : Sl) (bs : List BatM) (A : ViewA), u = (z, ()) ∧ Hist bs A ∧ bs.length ≤ 50 ∧ (∀ b ∈ bs, b.rs.length ≤ 5) ∧ Sat w' (vw v A :: slc T.api_Batch 7 z (bs.flatMap encB7) :: batsP bs :: l)) ?_
      (by rintro _ w' ⟨z, bs, A, rfl, h1, h2, h3, hs⟩; refine wp_on ?_; exact ⟨rfl, v, z, bs, A, rfl, h1, h2, h3, hs⟩)
    have hs0 : Sat _ (vw v ⟨0, [], []⟩ :: slc T.api_Batch 7 ⟨none, 0, 0⟩ (([] : List BatM).flatMap encB7) :: batsP [] :: l) := ((hs.all_nil').slc_nil (T := T.api_Batch) (sz := 7)).pick [2, 0]
    refine wp_loop (fun k u w => ∃ (i : Nat) (z : Sl) (bs : List BatM) (A : ViewA), u = (z, (i : Int), ()) ∧ i ≤ ops.length ∧ ops.length - i = k ∧ Hist bs A ∧ bs.length ≤ i ∧ i ≤ 50 ∧ (∀ b ∈ bs, b.rs.length ≤ 5) ∧ Sat w (vw v A :: slc T.api_Batch 7 z (bs.flatMap encB7) :: batsP bs :: l)) ops.length
      ⟨0, ⟨none, 0, 0⟩, [], _, rfl, by omega, rfl, .nil, by simp, by omega, by simp, hs0⟩ ?_
    clear hs hs0
    rintro k _ w ⟨i, z, bs, A, rfl, hi, hk, hh, hbl, hi50, hb5, hs⟩
    refine wp_on ?_
    refine wp_if (fun hc => ?_) fun hc => ?_
    rotate_left
    · exact wp_pass (wp_lv ⟨z, bs, A, rfl, hh, by omega, hb5, hs⟩)
    have hil : i < ops.length := by omega
    have hin := hops _ (List.getElem_mem hil)
    have hR : FocR l ops[i].b.x 4 (ops[i].b.rs.flatMap encR) := ⟨hin.rd⟩
    refine wp_ixA hs i hil ?_
    refine wp_newO hs fun a15 w' hs => ?_
    refine wp_lt ?_
    refine wp_stG hs fun w' hs => ?_
    refine wp_if (fun h => ?_) fun h => ?_
    · exact wp_pass (wp_lv ⟨z, bs, A, rfl, hh, by omega, hb5, hs.tail⟩)
    have hi49 : i < 50 := by
      apply Nat.lt_of_not_le
      intro h2
      exact h (.inl (by omega))
    refine wp_mid (fun u w' => ∃ (c : Nat) (y : Sl), u = (⟨c, 0, none⟩, ()) ∧ Sat w' (pt c (.cells (encB7 (smallB ops[i] A.next y)).toArray T.api_Batch) :: slc T.api_Record 4 y (((ops[i].b.rs.take 5).map cutR).flatMap encR) :: vw v A :: slc T.api_Batch 7 z (bs.flatMap encB7) :: batsP bs :: l)) ?_ ?_
    · refine wp_tk hs fun w' hs => ?_
      refine wp_hdG hs ?_
      refine wp_both ?_ ?_
      · refine wp_call (inext_c (v := v) hs) fun _ w' hs => ?_
        obtain ⟨rfl, hs⟩ := hs
        refine ret_of ?_ ⟨trivial, fun _ => run_ldG hs⟩
        refine wp_both ?_ ?_
        · refine wp_untick ?_
          refine wp_call (small8_c ops[i] A.next hs) fun _ _ hs => ?_
          obtain ⟨y, rfl, hs⟩ := hs
          refine ret_of ?_
          refine wp_newO hs fun c w' hs => ?_
          refine wp_stG hs fun w' hs => ?_
          refine wp_untick ?_
          refine wp_lv ⟨c, y, rfl, ?_⟩
          have hs : Sat w' (pt c (.cells (encB7 (smallB ops[i] A.next y)).toArray T.api_Batch) :: _) := hs
          exact hs.sub
        · refine wp_newO hs (fun c w' hs => ?_) (fun c w' hs => ⟨trivial, fun _ => run_ldG hs⟩)
          refine wp_untick ?_
          refine wp_call (small8_c ops[i] A.next hs) fun _ _ hs => ?_
          obtain ⟨y, rfl, hs⟩ := hs
          refine ret_of ?_
          refine wp_stG hs fun w' hs => ?_
          refine wp_untick ?_
          refine wp_lv ⟨c, y, rfl, ?_⟩
          have hs : Sat w' (pt c (.cells (encB7 (smallB ops[i] A.next y)).toArray T.api_Batch) :: _) := hs
          exact hs.sub
      · refine wp_newO hs (fun c w' hs => ?_) (fun c w' hs => ⟨trivial, fun _ => run_ldG hs⟩)
        refine wp_call (inext_c (v := v) hs) fun _ w' hs => ?_
        obtain ⟨rfl, hs⟩ := hs
        refine ret_of ?_ ⟨trivial, fun _ => run_ldG hs⟩
        refine wp_untick ?_
        refine wp_call (small8_c ops[i] A.next hs) fun _ _ hs => ?_
        obtain ⟨y, rfl, hs⟩ := hs
        refine ret_of ?_
        refine wp_stG hs fun w' hs => ?_
        refine wp_untick ?_
        refine wp_lv ⟨c, y, rfl, ?_⟩
        have hs : Sat w' (pt c (.cells (encB7 (smallB ops[i] A.next y)).toArray T.api_Batch) :: _) := hs
        exact hs.sub
    clear hs
    rintro _ w ⟨c, y, rfl, hs⟩
    refine wp_on ?_
    have hy : (smallB ops[i] A.next y).x = y := rfl
    have hrs : (smallB ops[i] A.next y).rs = (ops[i].b.rs.take 5).map cutR := rfl
    have hr5 : (smallB ops[i] A.next y).rs.length ≤ 5 := by rw [hrs, List.length_map, List.length_take]; omega
    rw [← hrs] at hs
    generalize hbb : smallB ops[i] A.next y = b at *
    subst hy
    have hs : Sat w (pt c (.cells #[.int .i64 b.base, .int .i64 b.pid, .int .i64 b.epoch, .int .i64 b.seq, .int .i64 b.kind, .int .i64 b.time, .slice b.x.a b.x.len b.x.cap] T.api_Batch) :: slc T.api_Record 4 b.x (b.rs.flatMap encR) :: vw v A :: slc T.api_Batch 7 z (bs.flatMap encB7) :: batsP bs :: l) := hs
    refine wp_ldG hs ?_
    refine wp_call (itake_c (v := v) b hs) fun _ _ hs => ?_
    obtain ⟨rfl, hs⟩ := hs
    refine ret_of ?_
    refine wp_mid (fun u w' => ∃ (z : Sl) (bs' : List BatM) (A' : ViewA), u = (z, ()) ∧ Hist bs' A' ∧ bs'.length ≤ i + 1 ∧ (∀ b ∈ bs', b.rs.length ≤ 5) ∧ Sat w' (vw v A' :: slc T.api_Batch 7 z (bs'.flatMap encB7) :: batsP bs' :: l)) ?_ ?_
    rotate_left
    · rintro _ w' ⟨z, bs', A', rfl, h1, h2, h3, hs⟩
      refine wp_on ?_
      refine wp_dn (us' := [z.v, .int .i64 ((i + 1 : Nat) : Int)]) (by (try simp (disch := omega) only [w64]); first | rfl | (congr; omega)) ?_
      refine wp_lp (ops.length - (i + 1)) ?_
      exact ⟨i + 1, z, bs', A', rfl, by omega, rfl, h1, h2, by omega, h3, hs⟩
    by_cases h0 : codeA A b = 0
    · have e : takeA A b = (0, takeV A b) := by unfold takeA; rw [if_neg (by rw [h0]; simp)]
      rw [e] at hs ⊢
      refine wp_ifT ?_ rfl
      refine wp_ldG hs ?_
      refine wp_ap0 hs (xs := bs) (enc := encB7) b (fun z w' hs => ?_)
      refine wp_lv ⟨z, bs ++ [b], takeV A b, rfl, .snoc hh h0, by rw [List.length_append]; simp; omega, ?_, ?_⟩
      · intro u hu
        rcases List.mem_append.1 hu with hu | hu
        · exact hb5 u hu
        · rw [List.mem_singleton.1 hu]; exact hr5
      · have hs : Sat w' (slc T.api_Record 4 b.x (b.rs.flatMap encR) :: batsP bs :: slc T.api_Batch 7 z ((bs ++ [b]).flatMap encB7) :: vw v (takeV A b) :: l) := hs.sub
        exact (bats_put hs).pick [2, 1]
    · have e : takeA A b = (codeA A b, A) := by unfold takeA; rw [if_pos h0]
      rw [e] at hs ⊢
      refine wp_ifF ?_ h0
      exact wp_lv ⟨z, bs, A, rfl, hh, by omega, hb5, hs.sub⟩

end
end Go.Dec
