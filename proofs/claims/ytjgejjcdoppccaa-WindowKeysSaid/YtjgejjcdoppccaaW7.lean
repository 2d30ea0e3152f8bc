/- Windows: Session. -/
import Derived.Test.YtjgejjcdoppccaaW6
import Derived.Test.YtjgejjcdoppccaaOpsF
import Derived.Test.YtjgejjcdoppccaaSortInt
namespace Go.Dec
set_option linter.unusedVariables false
set_option linter.unusedSimpArgs false

def setEnd (xs : List (Int × Int)) (e : Int) : List (Int × Int) := xs.modify (xs.length - 1) fun p => (p.1, e)
def sessN (gap : Int) (ys : List Int) : Nat → List (Int × Int)
  | 0 => []
  | n + 1 => if 0 < n ∧ ys.getD n 0 - ys.getD (n - 1) 0 < gap then setEnd (sessN gap ys n) (ys.getD n 0 + gap) else sessN gap ys n ++ [(ys.getD n 0, ys.getD n 0 + gap)]
/-- The times that are times, in order. -/
def sortT (xs : List Int) : List Int := (xs.filter isT).mergeSort fun a b => decide (a ≤ b)
def sessF (gap : Int) (xs : List Int) : List (Int × Int) := if isSz gap then sessN gap (sortT xs) (sortT xs).length else []

theorem sortT_perm (xs : List Int) : (sortT xs).Perm (xs.filter isT) := List.mergeSort_perm _ _
theorem sortT_sorted (xs : List Int) : (sortT xs).Pairwise (· ≤ ·) := by
  have := List.pairwise_mergeSort (le := fun a b : Int => decide (a ≤ b)) (fun a b c h1 h2 => by simp at *; omega) (fun a b => by simp; omega) (xs.filter isT)
  exact this.imp fun h => by simpa using h
theorem sortT_eq {xs ys : List Int} (h1 : ys.Perm (xs.filter isT)) (h2 : ys.Pairwise (· ≤ ·)) : ys = sortT xs :=
  List.Perm.eq_of_pairwise (le := (· ≤ ·)) (fun a b _ _ h1 h2 => by omega) h2 (sortT_sorted xs) (h1.trans (sortT_perm xs).symm)
theorem sortT_isT {xs : List Int} {t : Int} (h : t ∈ sortT xs) : isT t = true := (List.mem_filter.1 ((sortT_perm xs).mem_iff.1 h)).2

theorem setEnd_length (xs : List (Int × Int)) (e : Int) : (setEnd xs e).length = xs.length := by simp [setEnd]
theorem sessN_length (gap : Int) (ys : List Int) : ∀ n, (sessN gap ys n).length ≤ n ∧ (0 < n → 0 < (sessN gap ys n).length)
  | 0 => by simp [sessN]
  | n + 1 => by
    have ih := sessN_length gap ys n
    unfold sessN
    split
    · rename_i h; rw [setEnd_length]; have := ih.2 h.1; omega
    · simp; omega

section
variable {w : World} {l r : List HP}

theorem int_len : ∀ n : Int, ([Value.int .i64 n] : List Value).length = 1 := fun _ => rfl
theorem int_one (n : Int) : ∀ u ∈ ([Value.int .i64 n] : List Value), u.oneCell' = true := by simp [Value.oneCell']

theorem session_c (gap : Int) (t : Sl) (xs : List Int) (hlen : xs.length < 1099511627776) (hr : ∀ w, Sat w l → Rd w 1 t (xs.flatMap fun n => [.int .i64 n])) (hs : Sat w l) : Ret P F.window_Session #[.int .i64 gap, t.v] w fun vs w' =>
    ∃ x : Sl, vs = [x.v] ∧ Sat w' (spans x (sessF gap xs) :: l) :=
  window_Session_calls gap t <| by
    unfold window_Session
    have htl : t.len = xs.length := (hr _ hs).len (enc := fun n : Int => [Value.int .i64 n]) int_len (by decide)
    refine wp_callS (_, ()) (sized_c gap hs) rfl fun w' hs => ⟨trivial, ?_⟩
    refine wp_ite (fun h => ?_) fun h => ?_
    · have h : (!isSz gap) = true := h
      simp only [Bool.not_eq_true'] at h
      exact ⟨rfl, ⟨none, 0, 0⟩, rfl, by rw [sessF, h]; exact hs.slc_nil⟩
    have h : (!isSz gap) = false := h
    simp only [Bool.not_eq_false'] at h
    have hg : 1 ≤ gap ∧ gap ≤ 1099511627776 := by simpa [isSz] using h
    rw [sessF, if_pos h]
    refine wp_mid (fun v w' => ∃ x : Sl, v = (x, ()) ∧ Sat w' (ints x (xs.filter isT) :: l)) ?_ ?_
    · refine wp_loop (fun n v w => ∃ (x : Sl) (i : Nat), v = (x, (i : Int), ()) ∧ i ≤ xs.length ∧ xs.length - i = n ∧ Sat w (ints x ((xs.take i).filter isT) :: l)) xs.length ⟨⟨none, 0, 0⟩, 0, rfl, by omega, by omega, by exact hs.slc_nil⟩ ?_
      clear hs
      rintro n _ w ⟨x, i, rfl, hi, hn, hs⟩
      refine wp_ite (fun hc => ?_) fun hc => ?_
      · have hc : (i : Int) < ((t.len : Nat) : Int) := of_decide_eq_true hc
        obtain ⟨a, ha, hel⟩ := (hr _ hs.tail).el (enc := fun n : Int => [Value.int .i64 n]) int_len (by omega)
        have hil : i < xs.length := by omega
        have he := hel i hil
        refine wp_ex (a, ()) ⟨by dsimp only; omega, by dsimp only; omega, ha⟩ ?_
        refine wp_rd (p := .int .i64) (x := xs[i]) (At.ld1 he rfl) ?_
        refine wp_lt ?_
        refine wp_callS (_, ()) (isTime_c xs[i] hs) rfl fun w' hs => ⟨trivial, ?_⟩
        have htk : (xs.take (i + 1)).filter isT = (xs.take i).filter isT ++ if isT xs[i] then [xs[i]] else [] := by
          rw [List.take_add_one, List.getElem?_eq_getElem hil, List.filter_append]
          simp only [Option.toList_some, List.filter_cons, List.filter_nil]
        have hfl : ((xs.take i).filter isT).length ≤ xs.length := Nat.le_trans (List.length_filter_le _ _) (by simp; omega)
        refine wp_mid (fun v w' => ∃ x : Sl, v = (x, ()) ∧ Sat w' (ints x ((xs.take (i + 1)).filter isT) :: l)) ?_ ?_
        · rw [htk]
          refine wp_ite (fun hc2 => ?_) fun hc2 => ?_
          · have hc2 : isT xs[i] = true := hc2
            rw [if_pos hc2]
            refine wp_apE (enc := fun n : Int => [Value.int .i64 n]) (y := xs[i]) int_len (by decide) hs (ps := #[(0, .int .i64 xs[i])]) (bs1 rfl (by decide) (by decide)) rfl (int_one _) (by omega) (by omega) (fun z w' hs => ⟨trivial, ?_⟩) fun _ _ => trivial
            exact wp_leave ⟨(z, ()), rfl, z, rfl, hs⟩
          · have hc2 : isT xs[i] = false := hc2
            rw [if_neg (by rw [hc2]; simp), List.append_nil]
            exact wp_leave ⟨(x, ()), rfl, x, rfl, hs⟩
        · rintro _ w' ⟨x, rfl, hs⟩
          refine wp_dn (us' := [x.v, .int .i64 ((i + 1 : Nat) : Int)]) (by dsimp only; rw [w64 (by omega) (by omega)]; rfl) ?_
          exact wp_leave ⟨(x, ((i + 1 : Nat) : Int), ()), xs.length - (i + 1), by omega, rfl, x, i + 1, rfl, by omega, rfl, hs⟩
      · have hc : ¬ (i : Int) < ((t.len : Nat) : Int) := of_decide_eq_false hc
        refine wp_pass ?_
        refine wp_leave ⟨(x, ()), rfl, x, rfl, ?_⟩
        rwa [List.take_of_length_le (by omega)] at hs
    clear hs
    rintro _ w ⟨x, rfl, hs⟩
    have hfl : (xs.filter isT).length ≤ xs.length := List.length_filter_le _ _
    refine wp_callS () (sort_int64_c x _ (by omega) hs) rfl fun w' h => ?_
    obtain ⟨ys, hp, hso, hs⟩ := h
    refine ⟨trivial, ?_⟩
    obtain rfl := sortT_eq hp hso
    have hyl : x.len = (sortT xs).length := hs.rd.len (enc := fun n : Int => [Value.int .i64 n]) int_len (by decide)
    have hyl2 : (sortT xs).length ≤ xs.length := by rw [(sortT_perm xs).length_eq]; exact hfl
    have hb : ∀ k (hk : k < (sortT xs).length), 0 ≤ (sortT xs)[k] ∧ (sortT xs)[k] ≤ 1099511627776 := fun k hk => by
      have := sortT_isT (List.getElem_mem hk)
      simpa [isT] using this
    generalize sortT xs = ys at *
    refine wp_mid (fun v w' => ∃ z : Sl, v = (z, ()) ∧ Sat w' (spans z (sessN gap ys ys.length) :: ints x ys :: l)) ?_ ?_
    · refine wp_loop (fun n v w => ∃ (z : Sl) (i : Nat), v = (z, (i : Int), ()) ∧ i ≤ ys.length ∧ ys.length - i = n ∧ Sat w (spans z (sessN gap ys i) :: ints x ys :: l)) ys.length ⟨⟨none, 0, 0⟩, 0, rfl, by omega, by omega, hs.slc_nil⟩ ?_
      clear hs
      rintro n _ w ⟨z, i, rfl, hi, hn, hs⟩
      have hsl := sessN_length gap ys i
      refine wp_ite (fun hc => ?_) fun hc => ?_
      · have hc : (i : Int) < ((x.len : Nat) : Int) := of_decide_eq_true hc
        have hil : i < ys.length := by omega
        obtain ⟨a, ha, hel⟩ := (hs.focS x).rd.el (enc := fun n : Int => [Value.int .i64 n]) int_len (by omega)
        have hbi := hb i hil
        refine wp_mid (fun v w' => ∃ z : Sl, v = (z, ()) ∧ Sat w' (spans z (sessN gap ys (i + 1)) :: ints x ys :: l)) ?_ ?_
        · refine wp_ex (a, ()) ⟨by dsimp only; omega, by dsimp only; omega, ha⟩ ?_
          refine wp_rd (p := .int .i64) (x := ys[i]) (At.ld1 (hel i hil) rfl) ?_
          refine wp_lt (wp_lt ?_)
          have hgd : ys.getD i 0 = ys[i] := by simp [hil]
          have hprev : ∃ p : Int, (0 < i → ys.getD (i - 1) 0 = p ∧ 0 ≤ p ∧ p ≤ 1099511627776 ∧ (ld T.int64 (Addr.add a (Int.toNat (IntKind.wrap .i64 ((i : Int) - 1)) * 1))).run P w = .ok (.int .i64 p) w) := by
            by_cases h0 : 0 < i
            · refine ⟨ys[i - 1], fun _ => ⟨by simp [show i - 1 < ys.length by omega], (hb (i - 1) (by omega)).1, (hb (i - 1) (by omega)).2, ?_⟩⟩
              rw [w64 (by omega) (by omega), show ((i : Int) - 1) = ((i - 1 : Nat) : Int) by omega]
              exact At.ld1 (hel (i - 1) (by omega)) rfl
            · exact ⟨0, fun h => absurd h h0⟩
          obtain ⟨p, hp⟩ := hprev
          refine wp_ex (a, ()) (fun h => ?_) ?_
          · have h : (i : Int) > 0 := of_decide_eq_true h
            dsimp only
            rw [w64 (by omega) (by omega)]
            exact ⟨by omega, by omega, ha⟩
          refine wp_read (p, ()) (fun h => (hp (by have h : (i : Int) > 0 := of_decide_eq_true h; omega)).2.2.2) ?_
          refine wp_ite (fun hc2 => ?_) fun hc2 => ?_
          · have hc2 : (decide ((i : Int) > 0) && decide (IntKind.wrap .i64 (ys[i] - p) < gap)) = true := hc2
            simp only [Bool.and_eq_true, decide_eq_true_eq] at hc2
            obtain ⟨hp1, hp2, hp3, _⟩ := hp (by omega)
            rw [w64 (by omega) (by omega)] at hc2
            have hz : z.len = (sessN gap ys i).length := slc_len encS_len (by decide) hs
            have hpos := hsl.2 (by omega)
            obtain ⟨b, hzb, hzel⟩ := hs.rd.el encS_len (by omega)
            have ew : IntKind.wrap .i64 (((z.len : Nat) : Int) - 1) = (((sessN gap ys i).length - 1 : Nat) : Int) := by rw [w64 (by omega) (by omega)]; omega
            refine wp_ex (b, ()) ⟨by dsimp only; rw [ew]; omega, by dsimp only; rw [ew]; omega, hzb⟩ ?_
            obtain ⟨⟨s0, s1⟩, hs0⟩ : ∃ q, q = (sessN gap ys i)[(sessN gap ys i).length - 1]'(by omega) := ⟨_, rfl⟩
            refine wp_stF (x := z) (i := (sessN gap ys i).length - 1) (j := 1) (y := (s0, ys[i] + gap)) encS_len hs hzb (by omega) (by decide) (fun b o h => ?_) rfl rfl ?_ fun w' hs => ⟨trivial, ?_⟩
            · subst h
              rw [ew, Int.toNat_natCast]
              show Addr.add (Addr.add ⟨b, o, none⟩ (((sessN gap ys i).length - 1) * 2)) 1 = _
              rw [add_mk, add_mk, Nat.add_assoc]
            · rw [← hs0]
              show _ = [Value.int .i64 s0, Value.int .i64 (IntKind.wrap .i64 (ys[i] + gap))]
              rw [w64 (by omega) (by omega)]; rfl
            · refine wp_leave ⟨(z, ()), rfl, z, rfl, ?_⟩
              have : sessN gap ys (i + 1) = (sessN gap ys i).set ((sessN gap ys i).length - 1) (s0, ys[i] + gap) := by
                rw [sessN, if_pos ⟨by omega, by rw [hgd, hp1]; exact hc2.2⟩, setEnd, hgd, List.modify_eq_set, List.getElem?_eq_getElem (by omega), ← hs0]
                rfl
              rw [this]
              exact hs
          · have hc2 : (decide ((i : Int) > 0) && decide (IntKind.wrap .i64 (ys[i] - p) < gap)) = false := hc2
            refine wp_apE (enc := encS) (y := (ys[i], ys[i] + gap)) encS_len (by decide) hs (ps := #[(0, .agg #[.int .i64 ys[i], .int .i64 (IntKind.wrap .i64 (ys[i] + gap))])]) (bs1 rfl (by decide) (by decide)) ?_ (encS_one _) (by omega) (by omega) (fun z w' hs => ⟨trivial, ?_⟩) fun _ _ => trivial
            · show [Value.int .i64 ys[i], Value.int .i64 (IntKind.wrap .i64 (ys[i] + gap))] = _
              rw [w64 (by omega) (by omega)]; rfl
            · refine wp_leave ⟨(z, ()), rfl, z, rfl, ?_⟩
              have : sessN gap ys (i + 1) = sessN gap ys i ++ [(ys[i], ys[i] + gap)] := by
                rw [sessN, if_neg ?_, hgd]
                rintro ⟨h0, h1⟩
                obtain ⟨hp1, hp2, hp3, _⟩ := hp h0
                rw [hgd, hp1] at h1
                rw [decide_eq_true (show (i : Int) > 0 by omega), w64 (by omega) (by omega), decide_eq_true h1] at hc2
                cases hc2
              rw [this]
              exact hs
        · rintro _ w' ⟨z, rfl, hs⟩
          refine wp_dn (us' := [z.v, .int .i64 ((i + 1 : Nat) : Int)]) (by dsimp only; rw [w64 (by omega) (by omega)]; rfl) ?_
          exact wp_leave ⟨(z, ((i + 1 : Nat) : Int), ()), ys.length - (i + 1), by omega, rfl, z, i + 1, rfl, by omega, rfl, hs⟩
      · have hc : ¬ (i : Int) < ((x.len : Nat) : Int) := of_decide_eq_false hc
        refine wp_pass ?_
        refine wp_leave ⟨(z, ()), rfl, z, rfl, ?_⟩
        rwa [show i = ys.length by omega] at hs
    · rintro _ w' ⟨z, rfl, hs⟩
      exact ⟨rfl, z, rfl, (hs.focS x).tail⟩

end
end Go.Dec
