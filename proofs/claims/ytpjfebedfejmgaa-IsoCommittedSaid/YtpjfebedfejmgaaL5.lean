/- Isolation: IsoCommitted. -/
import Derived.Test.YtpjfebedfejmgaaH3
import Derived.Test.YtpjfebedfejmgaaL4
import Derived.Test.YtpjfebedfejmgaaR3
namespace Go.Dec
set_option linter.unusedVariables false
set_option linter.unusedSimpArgs false

instance : EncF encB7 1 (.int .i64) (fun b => b.pid) := ⟨fun _ => rfl⟩
instance : EncF encB7 2 (.int .i64) (fun b => b.epoch) := ⟨fun _ => rfl⟩

section
variable {w : World} {l r : List HP} {v : Nat} {A : ViewA}

theorem ended_c (x : Sl) (bs : List BatM) (i : Nat) (hi : i < bs.length) [hx : FocR l x 7 (bs.flatMap encB7)] (hcap : x.len ≤ x.cap) (hn : bs.length ≤ 1000) (hs : Sat w l) :
    Ret P F.towpathref08_Ended #[x.v, .int .i64 (i : Int)] w fun vs w' => vs = [.int .i64 (endL bs[i] (bs.drop (i + 1)))] ∧ Sat w' l :=
  towpathref08_Ended_calls x i <| by
    unfold towpathref08_Ended
    have hl := hs.slen x (xs := bs) (enc := encB7)
    have e1 : IntKind.wrap .i64 ((i : Int) + 1) = ((i + 1 : Nat) : Int) := by rw [w64 (by omega) (by omega)]; omega
    rw [e1, Int.toNat_natCast]
    refine wp_must ⟨by omega, show ((i + 1 : Nat) : Int) ≤ ((x.len : Nat) : Int) by omega⟩ ?_
    refine wp_mid (fun _ w' => endL bs[i] (bs.drop (i + 1)) = 0 ∧ Sat w' l) ?_ (by rintro _ w' ⟨h, hs⟩; refine wp_on ?_; exact ⟨rfl, by rw [h], hs⟩)
    refine wp_loop (fun k p w => ∃ j : Nat, p = ((j : Int), ()) ∧ j ≤ bs.length - (i + 1) ∧ bs.length - (i + 1) - j = k ∧ endL bs[i] (bs.drop (i + 1)) = endL bs[i] (bs.drop (i + 1 + j)) ∧ Sat w l) (bs.length - (i + 1))
      ⟨0, rfl, by omega, rfl, rfl, hs⟩ ?_
    clear hs
    rintro k _ w ⟨j, rfl, hj, hk, he, hs⟩
    refine wp_on ?_
    refine wp_if (fun hc2 => ?_) fun hc2 => ?_
    rotate_left
    · have hc2 : ¬ (j : Int) < ((x.len - (i + 1) : Nat) : Int) := hc2
      refine wp_pass (wp_lv ⟨?_, hs⟩)
      rw [he, List.drop_eq_nil_of_le (by omega)]; rfl
    have hc2 : (j : Int) < ((x.len - (i + 1) : Nat) : Int) := hc2
    have hjl : j < (bs.drop (i + 1)).length := by rw [List.length_drop]; omega
    have hjb : i + 1 + j < bs.length := by omega
    have hget : (bs.drop (i + 1))[j] = bs[i + 1 + j] := List.getElem_drop
    rw [List.drop_eq_getElem_cons hjb] at he
    have hF : FocR l ⟨cutA x.a 7 (i + 1) x.cap, x.len - (i + 1), x.cap⟩ 7 ((bs.drop (i + 1)).flatMap encB7) := FocR.post hcap
    refine wp_ixA (x := ⟨cutA x.a 7 (i + 1) x.cap, x.len - (i + 1), x.cap⟩) hs (xs := bs.drop (i + 1)) (enc := encB7) j hjl ?_
    rw [hget]
    generalize hbb : bs[i + 1 + j] = bb at *
    refine wp_newO hs fun c w' hs => ?_
    refine wp_stG hs fun w' hs => ?_
    refine wp_tk hs fun w' hs => ?_
    refine wp_ldG hs ?_
    refine wp_call (dmark_c bb hs) fun _ _ hs => ?_
    obtain ⟨rfl, hs⟩ := hs
    refine ret_of ?_
    refine wp_ldO hs ?_
    refine wp_ixFg hs (xs := bs) (enc := encB7) i hi ?_
    refine wp_ldO hs ?_
    refine wp_ixFg hs (xs := bs) (enc := encB7) i hi ?_
    refine wp_untick ?_
    refine wp_if (fun h => ?_) fun h => ?_
    · have e : endL bs[i] (bs.drop (i + 1)) = if bb.kind = 2 then 1 else 2 := by
        rw [he]
        show (if _ then _ else _) = _
        rw [if_pos ⟨h.1.1, h.1.2, h.2⟩]
      refine wp_ldO hs ?_
      refine wp_if (fun h2 => ?_) fun h2 => ?_
      · exact wp_pass (wp_pass ⟨rfl, by rw [e, if_pos h2], hs.tail⟩)
      · exact wp_pass (wp_pass ⟨rfl, by rw [e, if_neg h2], hs.tail⟩)
    · refine wp_dn (us' := [.int .i64 ((j + 1 : Nat) : Int)]) (by (try simp (disch := omega) only [w64]); first | rfl | (congr; omega)) ?_
      refine wp_lp (bs.length - (i + 1) - (j + 1)) ?_
      refine ⟨j + 1, rfl, by omega, rfl, ?_, hs.tail⟩
      rw [he]
      show (if _ then _ else _) = _
      rw [if_neg (fun h3 => h ⟨⟨h3.1, h3.2.1⟩, h3.2.2⟩)]
      rfl

theorem dstable_c (n : Int) (x : Sl) (bs : List BatM) [hx : FocR l x 7 (bs.flatMap encB7)] (hcap : x.len ≤ x.cap) (hn : bs.length ≤ 1000) (hs : Sat w l) :
    Ret P F.towpathref08_Stable #[x.v, .int .i64 n] w fun vs w' => vs = [.int .i64 (stableL n bs)] ∧ Sat w' l :=
  towpathref08_Stable_calls x n <| by
    unfold towpathref08_Stable
    have hl := hs.slen x (xs := bs) (enc := encB7)
    refine wp_mid (fun _ w' => stableL n bs = n ∧ Sat w' l) ?_ (by rintro _ w' ⟨h, hs⟩; refine wp_on ?_; refine wp_lt ?_; exact ⟨rfl, by rw [h], hs⟩)
    refine wp_loop (fun k p w => ∃ j : Nat, p = ((j : Int), ()) ∧ j ≤ bs.length ∧ bs.length - j = k ∧ stableL n bs = stableL n (bs.drop j) ∧ Sat w l) bs.length ⟨0, rfl, by omega, rfl, rfl, hs⟩ ?_
    clear hs
    rintro k _ w ⟨j, rfl, hj, hk, he, hs⟩
    refine wp_on ?_
    refine wp_if (fun hc => ?_) fun hc => ?_
    rotate_left
    · refine wp_pass (wp_lv ⟨?_, hs⟩)
      rw [he, List.drop_eq_nil_of_le (by omega)]; rfl
    have hjl : j < bs.length := by omega
    rw [List.drop_eq_getElem_cons hjl] at he
    refine wp_ixA hs j hjl ?_
    refine wp_newO hs fun c w' hs => ?_
    refine wp_lt ?_
    refine wp_stG hs fun w' hs => ?_
    refine wp_mid (fun p w' => p = (decide (bs[j].kind = 1 ∧ endL bs[j] (bs.drop (j + 1)) = 0), ()) ∧ Sat w' (pt c (.cells #[.int .i64 bs[j].base, .int .i64 bs[j].pid, .int .i64 bs[j].epoch, .int .i64 bs[j].seq, .int .i64 bs[j].kind, .int .i64 bs[j].time, .slice bs[j].x.a bs[j].x.len bs[j].x.cap] T.api_Batch) :: l)) ?_ ?_
    · refine wp_ldO hs ?_
      refine wp_if (fun h => ?_) fun h => ?_
      · refine wp_call (ended_c x bs j hjl hcap hn hs) fun _ _ hs => ?_
        obtain ⟨rfl, hs⟩ := hs
        refine ret_of ?_
        refine wp_lv ⟨?_, hs⟩
        congr 1; rw [Bool.eq_iff_iff]; simp [h]
      · refine wp_lv ⟨?_, hs⟩
        simp [h]
    clear hs
    rintro _ w ⟨rfl, hs⟩
    refine wp_on ?_
    refine wp_if (fun h => ?_) fun h => ?_
    · refine wp_ldO hs ?_
      refine wp_lt ?_
      refine wp_pass (wp_pass ⟨rfl, ?_, hs.tail⟩)
      rw [he]
      show _ = [Value.int .i64 (if _ then _ else _)]
      rw [if_pos h]
    · refine wp_dn (us' := [.int .i64 ((j + 1 : Nat) : Int)]) (by (try simp (disch := omega) only [w64]); first | rfl | (congr; omega)) ?_
      refine wp_lp (bs.length - (j + 1)) ?_
      refine ⟨j + 1, rfl, by omega, rfl, ?_, hs.tail⟩
      rw [he]
      show (if _ then _ else _) = _
      rw [if_neg h]

theorem comm_len (s : Int) {n : Nat} : ∀ (bs : List BatM), (∀ b ∈ bs, b.rs.length ≤ n) → (commL s bs).length ≤ bs.length * n
  | [], _ => by simp [commL]
  | b :: r, h => by
    have h1 := comm_len s r fun c hc => h c (List.mem_cons_of_mem _ hc)
    have h2 := h b (List.mem_cons_self ..)
    have h3 := flat1_len b
    unfold commL
    rw [List.length_append, List.length_cons, Nat.add_mul, Nat.one_mul]
    split
    · omega
    · rw [List.length_nil]; omega

theorem committed_c (n : Int) (x : Sl) (bs : List BatM) [hx : FocR l x 7 (bs.flatMap encB7)] (hbs : ∀ b ∈ bs, FocR l b.x 4 (b.rs.flatMap encR)) (hcap : x.len ≤ x.cap) (hn : bs.length ≤ 1000) (hr : ∀ b ∈ bs, b.rs.length ≤ 1000) (hs : Sat w l) :
    Ret P F.towpathref08_Committed #[x.v, .int .i64 n] w fun vs w' => ∃ z : Sl, vs = [z.v] ∧ Sat w' (slc T.towpathref03_At 5 z ((commL (stableL n bs) bs).flatMap encAt) :: l) :=
  towpathref08_Committed_calls x n <| by
    unfold towpathref08_Committed
    have hl := hs.slen x (xs := bs) (enc := encB7)
    refine wp_call (dstable_c n x bs hcap hn hs) fun _ _ hs => ?_
    obtain ⟨rfl, hs⟩ := hs
    refine ret_of ?_
    refine wp_lt ?_
    generalize stableL n bs = s
    refine wp_mid (fun u w' => ∃ z : Sl, u = (z, ()) ∧ Sat w' (slc T.towpathref03_At 5 z ((commL s bs).flatMap encAt) :: l)) ?_ (by rintro _ w' ⟨z, rfl, hs⟩; refine wp_on ?_; exact ⟨rfl, z, rfl, hs⟩)
    refine wp_loop (fun k u w => ∃ (i : Nat) (z : Sl) (qs : List AtM), u = (z, (i : Int), ()) ∧ i ≤ bs.length ∧ bs.length - i = k ∧ commL s bs = qs ++ commL s (bs.drop i) ∧ Sat w (slc T.towpathref03_At 5 z (qs.flatMap encAt) :: l)) bs.length ⟨0, ⟨none, 0, 0⟩, [], rfl, by omega, rfl, rfl, hs.slc_nil⟩ ?_
    clear hs
    rintro k _ w ⟨i, z, qs, rfl, hi, hk, he, hs⟩
    refine wp_on ?_
    have hql : qs.length ≤ 1000000 := by
      have h1 := comm_len s (n := 1000) bs hr
      have h2 := congrArg List.length he
      rw [List.length_append] at h2
      have := Nat.mul_le_mul_right 1000 hn
      omega
    refine wp_if (fun hc => ?_) fun hc => ?_
    rotate_left
    · refine wp_pass (wp_lv ⟨z, rfl, ?_⟩)
      rw [List.drop_eq_nil_of_le (by omega)] at he
      rw [he]
      show Sat w (slc _ _ _ ((qs ++ []).flatMap encAt) :: l)
      rw [List.append_nil]
      exact hs
    have hil : i < bs.length := by omega
    rw [List.drop_eq_getElem_cons hil] at he
    have hbx := hbs _ (List.getElem_mem hil)
    have hbr := hr _ (List.getElem_mem hil)
    have hfl := flat1_len bs[i]
    refine wp_ixA hs i hil ?_
    refine wp_newO hs fun c w' hs => ?_
    refine wp_lt ?_
    refine wp_stG hs fun w' hs => ?_
    refine wp_mid (fun p w' => p = (decide (bs[i].base < s ∧ markB bs[i] = false ∧ (bs[i].kind = 0 ∨ endL bs[i] (bs.drop (i + 1)) = 1)), ()) ∧ Sat w' (pt c (.cells #[.int .i64 bs[i].base, .int .i64 bs[i].pid, .int .i64 bs[i].epoch, .int .i64 bs[i].seq, .int .i64 bs[i].kind, .int .i64 bs[i].time, .slice bs[i].x.a bs[i].x.len bs[i].x.cap] T.api_Batch) ::
      slc T.towpathref03_At 5 z (qs.flatMap encAt) :: l)) ?_ ?_
    · refine wp_ldO hs ?_
      refine wp_ldG hs ?_
      refine wp_if (fun h => ?_) fun h => ?_
      · refine wp_call (dmark_c bs[i] hs) fun _ _ hs => ?_
        obtain ⟨rfl, hs⟩ := hs
        refine ret_of ?_
        refine wp_ldO hs ?_
        refine wp_if (fun h2 => ?_) fun h2 => ?_
        · have h2 : markB bs[i] = false := by simpa using h2
          refine wp_if (fun h3 => ?_) fun h3 => ?_
          · refine wp_lv ⟨?_, hs⟩
            simp [h, h2, h3]
          · refine wp_call (ended_c x bs i hil hcap hn hs) fun _ _ hs => ?_
            obtain ⟨rfl, hs⟩ := hs
            refine ret_of ?_
            refine wp_lv ⟨?_, hs⟩
            congr 1; rw [Bool.eq_iff_iff]; simp [h, h2, h3]
        · have h2 : markB bs[i] = true := by simpa using h2
          refine wp_lv ⟨?_, hs⟩
          simp [h2]
      · refine wp_lv ⟨?_, hs⟩
        simp [h]
    clear hs
    rintro _ w ⟨rfl, hs⟩
    refine wp_on ?_
    refine wp_mid (fun u w' => ∃ (z : Sl) (qs : List AtM), u = (z, ()) ∧ commL s bs = qs ++ commL s (bs.drop (i + 1)) ∧ Sat w' (slc T.towpathref03_At 5 z (qs.flatMap encAt) :: l)) ?_ ?_
    rotate_left
    · rintro _ w' ⟨z, qs, rfl, he, hs⟩
      refine wp_on ?_
      refine wp_dn (us' := [z.v, .int .i64 ((i + 1 : Nat) : Int)]) (by (try simp (disch := omega) only [w64]); first | rfl | (congr; omega)) ?_
      refine wp_lp (bs.length - (i + 1)) ?_
      exact ⟨i + 1, z, qs, rfl, by omega, rfl, he, hs⟩
    have he : commL s bs = qs ++ ((if bs[i].base < s ∧ markB bs[i] = false ∧ (bs[i].kind = 0 ∨ endL bs[i] (bs.drop (i + 1)) = 1) then flat1 bs[i] else []) ++ commL s (bs.drop (i + 1))) := he
    refine wp_if (fun h => ?_) fun h => ?_
    · rw [if_pos h] at he
      refine wp_ldG hs ?_
      refine wp_slit1 hs (enc := encB7) bs[i] fun y w' hs => ?_
      refine wp_call (dflat_c y [bs[i]] (by intro b hb; rw [List.mem_singleton.1 hb]; infer_instance) (by simp) (by intro b hb; rw [List.mem_singleton.1 hb]; exact hbr) hs) fun _ w' h => ?_
      obtain ⟨u, rfl, hs⟩ := h
      refine ret_of ?_
      have e : flatA [bs[i]] = flat1 bs[i] := by simp [flatA]
      rw [e] at hs
      refine wp_app' (xs := qs) (ys := flat1 bs[i]) (enc := encAt) hs (fun z w' hs => ?_) (by omega)
      exact wp_lv ⟨z, qs ++ flat1 bs[i], rfl, by rw [he, List.append_assoc], hs.sub⟩
    · rw [if_neg h, List.nil_append] at he
      exact wp_lv ⟨z, qs, rfl, he, hs.tail⟩

theorem committed_law (x : Sl) (ops : List OpI) [hx : FocR l x 10 (ops.flatMap encO)] (hlen : ops.length ≤ 9223372036854775807) (hops : ∀ o ∈ ops, OpJ l o) (hs : Sat w l) :
    Ret P F.towpathlaw08_IsoCommitted #[x.v] w fun vs w' => vs = [.bool true] ∧ Sat w' l :=
  towpathlaw08_IsoCommitted_calls x <| by
    unfold towpathlaw08_IsoCommitted
    refine wp_call (taken_c x ops hlen hops hs) fun _ _ hs => ?_
    obtain ⟨v, z, bs, A, rfl, hh, hbl, hb5, hs⟩ := hs
    refine ret_of ?_
    refine wp_ifF ?_ (by simp)
    have hcap := (hs.pick [1]).slc_cap
    have hr : ∀ b ∈ bs, b.rs.length ≤ 1000 := fun b hb => by have := hb5 b hb; omega
    refine wp_mid (fun p w' => p = (true, ()) ∧ Sat w' l) ?_ (by rintro _ w' ⟨rfl, hs⟩; refine wp_on ?_; exact ⟨rfl, rfl, hs⟩)
    refine wp_call (istable_c (v := v) hs) fun _ _ hs => ?_
    obtain ⟨rfl, hs⟩ := hs
    refine ret_of ?_
    refine wp_call (inext_c (v := v) hs) fun _ _ hs => ?_
    obtain ⟨rfl, hs⟩ := hs
    refine ret_of ?_
    refine wp_call (dstable_c A.next z bs hcap (by omega) hs) fun _ _ hs => ?_
    obtain ⟨rfl, hs⟩ := hs
    refine ret_of ?_
    refine wp_ifT ?_ (stable_doc hh)
    have hF1 : ∀ b ∈ bs, FocR (slc T.api_Batch 7 z (bs.flatMap encB7) :: batsP bs :: l) b.x 4 (b.rs.flatMap encR) := fun b hb => @FocR.tail _ _ _ _ _ (bats_rd hb)
    refine wp_call (ipick_c (v := v) z bs hF1 (by omega) hr hs) fun _ _ hs => ?_
    obtain ⟨u, rfl, hs⟩ := hs
    refine ret_of ?_
    refine wp_call (inext_c (v := v) hs) fun _ _ hs => ?_
    obtain ⟨rfl, hs⟩ := hs
    refine ret_of ?_
    refine wp_call (committed_c A.next z bs (fun b hb => @FocR.tail _ _ _ _ _ (@FocR.tail _ _ _ _ _ (hF1 b hb))) hcap (by omega) hr hs) fun _ _ hs => ?_
    obtain ⟨y, rfl, hs⟩ := hs
    refine ret_of ?_
    rw [comm_doc hh] at hs
    have hlq : (commL (stableL A.next bs) bs).length ≤ 1000000 := by
      have h1 := comm_len (stableL A.next bs) bs hr
      have := Nat.mul_le_mul_right 1000 hbl
      omega
    refine wp_call (records_c u y (commL (stableL A.next bs) bs) hlq hs) fun _ _ hs => ?_
    obtain ⟨rfl, hs⟩ := hs
    refine ret_of ?_
    refine wp_ifT ?_ trivial
    refine wp_call (awake8 hs) fun _ _ hs => ?_
    obtain ⟨rfl, hs⟩ := hs
    refine ret_of ?_
    refine wp_lt ?_
    exact wp_lv ⟨rfl, hs.sub⟩

end
end Go.Dec
