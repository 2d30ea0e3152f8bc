/- Isolation: IsoWhole. -/
import Derived.Test.YtpjfebedfejmgaaH2
import Derived.Test.YtpjfebedfejmgaaOpsW
namespace Go.Dec
set_option linter.unusedVariables false
set_option linter.unusedSimpArgs false

section
variable {w : World} {l r : List HP} {v : Nat} {A : ViewA}

theorem whole_law (x : Sl) (ops : List OpI) [hx : FocR l x 10 (ops.flatMap encO)] (hlen : ops.length ≤ 9223372036854775807) (hops : ∀ o ∈ ops, OpJ l o) (hs : Sat w l) :
    Ret P F.towpathlaw08_IsoWhole #[x.v] w fun vs w' => vs = [.bool true] ∧ Sat w' l :=
  towpathlaw08_IsoWhole_calls x <| by
    unfold towpathlaw08_IsoWhole
    refine wp_call (taken_c x ops hlen hops hs) fun _ _ hs => ?_
    obtain ⟨v, z, bs, A, rfl, hh, hbl, hb5, hs⟩ := hs
    refine ret_of ?_
    refine wp_ifF ?_ (by simp)
    have hzl := hs.slen z (xs := bs) (enc := encB7)
    have hcap := (hs.pick [1]).slc_cap
    refine wp_mid (fun _ w' => Sat w' l) ?_ ?_
    rotate_left
    · rintro _ w' hs
      refine wp_on ?_
      refine wp_call (awake8 hs) fun _ _ hs => ?_
      obtain ⟨rfl, hs⟩ := hs
      refine ret_of ?_
      refine wp_lt ?_
      exact ⟨rfl, rfl, hs⟩
    refine wp_loop (fun k p w => ∃ i : Nat, p = ((i : Int), ()) ∧ i ≤ bs.length ∧ bs.length - i = k ∧ Sat w (vw v A :: slc T.api_Batch 7 z (bs.flatMap encB7) :: batsP bs :: l)) bs.length ⟨0, rfl, by omega, rfl, hs⟩ ?_
    clear hs
    rintro k _ w ⟨i, rfl, hi, hk, hs⟩
    refine wp_on ?_
    refine wp_if (fun hc => ?_) fun hc => ?_
    rotate_left
    · exact wp_pass (wp_lv hs.tail.tail.tail)
    have hc : (i : Int) < ((z.len : Nat) : Int) := hc
    have hil : i < bs.length := by omega
    refine wp_mid (fun _ w' => Sat w' (vw v A :: slc T.api_Batch 7 z (bs.flatMap encB7) :: batsP bs :: l)) ?_ ?_
    rotate_left
    · rintro _ w' hs
      refine wp_on ?_
      refine wp_dn (us' := [.int .i64 ((i + 1 : Nat) : Int)]) (by (try simp (disch := omega) only [w64]); first | rfl | (congr; omega)) ?_
      refine wp_lp (bs.length - (i + 1)) ?_
      exact ⟨i + 1, rfl, by omega, rfl, hs⟩
    refine wp_ixA hs i hil ?_
    refine wp_newO hs fun a w' hs => ?_
    refine wp_lt ?_
    refine wp_stG hs fun w' hs => ?_
    have e1 : IntKind.wrap .i64 ((i : Int) + 1) = ((i + 1 : Nat) : Int) := by rw [w64 (by omega) (by omega)]; omega
    rw [e1, Int.toNat_natCast]
    refine wp_must ⟨by omega, show ((i + 1 : Nat) : Int) ≤ ((z.len : Nat) : Int) by omega⟩ ?_
    generalize hba : bs[i] = ba at hs
    refine wp_mid (fun _ w' => Sat w' (vw v A :: slc T.api_Batch 7 z (bs.flatMap encB7) :: batsP bs :: l)) ?_ (by rintro _ w' hs; refine wp_on ?_; exact wp_lv hs)
    refine wp_loop (fun k p w => ∃ j : Nat, p = ((j : Int), ()) ∧ j ≤ bs.length - (i + 1) ∧ bs.length - (i + 1) - j = k ∧ noMark bs i (i + 1 + j) ba ∧
      Sat w (pt a (.cells #[.int .i64 ba.base, .int .i64 ba.pid, .int .i64 ba.epoch, .int .i64 ba.seq, .int .i64 ba.kind, .int .i64 ba.time, .slice ba.x.a ba.x.len ba.x.cap] T.api_Batch) :: vw v A :: slc T.api_Batch 7 z (bs.flatMap encB7) :: batsP bs :: l)) (bs.length - (i + 1))
      ⟨0, rfl, by omega, rfl, fun k hk h1 h2 => by omega, hs⟩ ?_
    clear hs
    rintro k _ w ⟨j, rfl, hj, hk, hno, hs⟩
    refine wp_on ?_
    refine wp_if (fun hc2 => ?_) fun hc2 => ?_
    rotate_left
    · exact wp_pass (wp_lv hs.tail)
    have hc2 : (j : Int) < ((z.len - (i + 1) : Nat) : Int) := hc2
    have hjl : j < (bs.drop (i + 1)).length := by rw [List.length_drop]; omega
    have hjb : i + 1 + j < bs.length := by omega
    have hget : (bs.drop (i + 1))[j] = bs[i + 1 + j] := List.getElem_drop
    refine wp_mid (fun _ w' => noMark bs i (i + 1 + (j + 1)) ba ∧ Sat w' (pt a (.cells #[.int .i64 ba.base, .int .i64 ba.pid, .int .i64 ba.epoch, .int .i64 ba.seq, .int .i64 ba.kind, .int .i64 ba.time, .slice ba.x.a ba.x.len ba.x.cap] T.api_Batch) :: vw v A :: slc T.api_Batch 7 z (bs.flatMap encB7) :: batsP bs :: l)) ?_ ?_
    rotate_left
    · rintro _ w' ⟨hno, hs⟩
      refine wp_on ?_
      refine wp_dn (us' := [.int .i64 ((j + 1 : Nat) : Int)]) (by (try simp (disch := omega) only [w64]); first | rfl | (congr; omega)) ?_
      refine wp_lp (bs.length - (i + 1) - (j + 1)) ?_
      exact ⟨j + 1, rfl, by omega, rfl, hno, hs⟩
    have hF : FocR (pt a (.cells #[.int .i64 ba.base, .int .i64 ba.pid, .int .i64 ba.epoch, .int .i64 ba.seq, .int .i64 ba.kind, .int .i64 ba.time, .slice ba.x.a ba.x.len ba.x.cap] T.api_Batch) :: vw v A :: slc T.api_Batch 7 z (bs.flatMap encB7) :: batsP bs :: l) ⟨cutA z.a 7 (i + 1) z.cap, z.len - (i + 1), z.cap⟩ 7 ((bs.drop (i + 1)).flatMap encB7) := FocR.post hcap
    refine wp_ixA (x := ⟨cutA z.a 7 (i + 1) z.cap, z.len - (i + 1), z.cap⟩) hs (xs := bs.drop (i + 1)) (enc := encB7) j hjl ?_
    rw [hget]
    generalize hbb : bs[i + 1 + j] = bb
    refine wp_newO hs fun c w' hs => ?_
    refine wp_stG hs fun w' hs => ?_
    refine wp_ldO hs ?_
    refine wp_ldO hs ?_
    refine wp_ldO hs ?_
    refine wp_ldO hs ?_
    have hext : (keyEq bb ba → markB bb = false) → noMark bs i (i + 1 + (j + 1)) ba := fun h5 k hk h1 h2 hkey => by
      by_cases hkj : k < i + 1 + j
      · exact hno k hk h1 hkj hkey
      · have : k = i + 1 + j := by omega
        subst this
        rw [hbb] at hkey ⊢
        exact h5 hkey
    refine wp_if (fun h1 => ?_) fun h1 => ?_
    · exact wp_lv ⟨hext fun h5 => absurd h1 (fun h => h.elim (fun h => h h5.1) fun h => h h5.2), hs.sub⟩
    have hkey : keyEq bb ba := ⟨Decidable.not_not.1 fun h => h1 (.inl h), Decidable.not_not.1 fun h => h1 (.inr h)⟩
    refine wp_ldG hs ?_
    refine wp_call (dmark_c bb hs) fun _ _ hs => ?_
    obtain ⟨rfl, hs⟩ := hs
    refine ret_of ?_
    refine wp_if (fun h2 => ?_) fun h2 => ?_
    · exact wp_pass (wp_pass (wp_lv hs.tail.tail))
    have h2 : markB bb = false := by simpa using h2
    refine wp_mid (fun p w' => p = (false, ()) ∧ Sat w' (pt a (.cells #[.int .i64 ba.base, .int .i64 ba.pid, .int .i64 ba.epoch, .int .i64 ba.seq, .int .i64 ba.kind, .int .i64 ba.time, .slice ba.x.a ba.x.len ba.x.cap] T.api_Batch) :: vw v A :: slc T.api_Batch 7 z (bs.flatMap encB7) :: batsP bs :: l)) ?_ ?_
    rotate_left
    · rintro _ w' ⟨rfl, hs⟩
      refine wp_on ?_
      refine wp_ifF ?_ (by simp)
      exact wp_lv ⟨hext fun _ => h2, hs⟩
    refine wp_tk hs fun w' hs => ?_
    refine wp_ldO hs ?_
    refine wp_ldO hs ?_
    refine wp_hdO hs ?_
    refine wp_if (fun h3 => ?_) fun h3 => ?_
    rotate_left
    · refine wp_untick ?_
      refine wp_untick ?_
      exact wp_lv ⟨rfl, hs.sub⟩
    refine wp_call (istable_c (v := v) hs) fun _ w' hs => ?_
    obtain ⟨rfl, hs⟩ := hs
    refine ret_of ?_ ⟨trivial, fun _ => run_ldO hs⟩
    refine wp_ldG hs ?_
    refine wp_hdG hs ?_
    refine wp_if (fun h4 => ?_) fun h4 => ?_
    rotate_left
    · refine wp_untick ?_
      refine wp_untick ?_
      exact wp_lv ⟨rfl, hs.sub⟩
    refine wp_call (ifate_c (v := v) ba hs) fun _ w' hs => ?_
    obtain ⟨rfl, hs⟩ := hs
    refine ret_of ?_ ⟨⟨trivial, fun _ => run_ldO hs⟩, fun _ => run_ldG hs⟩
    refine wp_untick ?_
    refine wp_call (ifate_c (v := v) bb hs) fun _ _ hs => ?_
    obtain ⟨rfl, hs⟩ := hs
    refine ret_of ?_
    refine wp_untick ?_
    have hone : fateA A ba = fateA A bb := by
      subst hba hbb
      exact one_fate hh i (i + 1 + j) hil hjb (by omega) h3.1 h3.2 hkey hno h4
    refine wp_lv ⟨?_, hs.sub⟩
    rw [hone]; simp

end
end Go.Dec
