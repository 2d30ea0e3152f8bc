/- Disks: DiskMany. -/
import Derived.Test.YtnfaklmndojeaaaE7
namespace Go.Dec
set_option linter.unusedVariables false
set_option linter.unusedSimpArgs false

def c0 (i : Nat) : UInt8 := UInt8.ofNat (97 + i / 26)
def c1_ (i : Nat) : UInt8 := UInt8.ofNat (97 + i % 26)
def nm (i : Nat) : ByteArray := ByteArray.mk #[102] ++ ⟨[c0 i, c1_ i].toArray⟩
theorem nm_list (i : Nat) : (nm i).data.toList = [102, c0 i, c1_ i] := by
  unfold nm
  rw [ByteArray.data_append]
  simp
theorem nm_size (i : Nat) : (nm i).size = 3 := by
  show (nm i).data.size = 3
  rw [← Array.length_toList, nm_list]; rfl
theorem toList_data (s : ByteArray) : ByteArray.toList s = s.data.toList := by rw [ByteArray.toList_eq]

theorem chk_lt : ((List.range 148).all fun i => (List.range i).all fun j => Op.bytesLess [102, c0 j, c1_ j] [102, c0 i, c1_ i]) = true := by kernel_rfl
theorem chk_ok : ((List.range 148).all fun i => [102, c0 i, c1_ i].all okC) = true := by kernel_rfl
theorem chk_b : ((List.range 128).map fun i => [102, c0 i, c1_ i]).filter (List.isPrefixOf [102, 98]) = (List.range 26).map fun i => [102, 98, c1_ (26 + i)] := by kernel_rfl

theorem nm_lt {j i : Nat} (hi : i < 148) (hj : j < i) : ltS (nm j) (nm i) = true := by
  unfold ltS
  rw [toList_data, toList_data, nm_list, nm_list]
  have h := List.all_eq_true.1 chk_lt i (List.mem_range.2 hi)
  exact List.all_eq_true.1 h j (List.mem_range.2 hj)
theorem nm_ok {i : Nat} (hi : i < 148) : nameF (nm i) = true := by
  unfold nameF
  rw [nm_list, nm_size]
  have h := List.all_eq_true.1 chk_ok i (List.mem_range.2 hi)
  rw [h]; rfl

def fileM_ (j : Nat) : FileA := ⟨nm j, [120], 0⟩
def manyA (i : Nat) : DiskA := ⟨1000, -1, false, (List.range (min i 128)).map fileM_⟩
theorem many_len (i : Nat) : (manyA i).fs.length = min i 128 := by simp [manyA]
theorem many_used (i : Nat) : used (manyA i).fs = min i 128 := by
  unfold used manyA
  dsimp only
  rw [List.map_map]
  have : ((List.range (min i 128)).map ((fun f => f.b.length) ∘ fileM_)) = List.replicate (min i 128) 1 := by
    apply List.eq_replicate_iff.2
    exact ⟨by simp, fun b hb => by obtain ⟨j, -, rfl⟩ := List.mem_map.1 hb; rfl⟩
  rw [this]; simp
theorem many_has {i k : Nat} (hk : k < 148) (hik : min i 128 ≤ k) : hasF (manyA i).fs (nm k) = false := by
  refine hasF_not.2 fun f hf e => ?_
  obtain ⟨j, hj, rfl⟩ := List.mem_map.1 hf
  have hj := List.mem_range.1 hj
  have h := nm_lt (j := j) hk (by omega)
  rw [show nm j = nm k from e, ltS_irrefl] at h
  cases h
theorem many_step {i : Nat} (hi : i < 148) : appendA (manyA i) (nm i) [120] = (if i < 128 then 0 else 5, manyA (i + 1)) := by
  have hfree : (manyA i).free = 1000 - min i 128 := by
    show 1000 - used (manyA i).fs = _
    rw [many_used]
  have hh := many_has (i := i) hi (Nat.min_le_left _ _)
  unfold appendA
  rw [if_neg (show ¬ (manyA i).gone = true by simp [manyA]), if_neg (by rw [nm_ok hi]; simp)]
  by_cases h : i < 128
  · rw [if_neg, if_pos h]
    · have : (if hasF (manyA i).fs (nm i) = true then (manyA i).fs.map (updF (nm i) fun f => { f with b := f.b ++ [120] }) else insF ⟨nm i, [120], 0⟩ (manyA i).fs) = (List.range (min (i + 1) 128)).map fileM_ := by
        rw [if_neg (by rw [hh]; simp), insF_in]
        · rw [Nat.min_eq_left (by omega), List.range_succ, List.map_append]
          show (List.range (min i 128)).map fileM_ ++ _ = _
          rw [Nat.min_eq_left (by omega)]; rfl
        · unfold inF
          rw [List.any_eq_false]
          intro f hf
          obtain ⟨j, hj, rfl⟩ := List.mem_map.1 hf
          have hj := List.mem_range.1 hj
          have h2 := ltS_asymm (nm_lt (j := j) hi (by omega))
          show ¬ ltS (nm i) (nm j) = true
          rw [h2]; simp
      rw [this]; rfl
    · rintro (h1 | ⟨-, h2⟩)
      · rw [hfree] at h1; simp at h1; omega
      · rw [many_len] at h2; omega
  · rw [if_pos (.inr ⟨hh, by rw [many_len]; omega⟩), if_neg h]
    unfold manyA
    rw [Nat.min_eq_right (by omega), Nat.min_eq_right (by omega)]

theorem names_all {i : Nat} (p : List UInt8) (hp : p = [] ∨ p = [102]) : (namesF ⟨p.toArray⟩ (manyA i).fs).length = min i 128 := by
  unfold namesF
  rw [List.filter_eq_self.2, List.length_map, many_len]
  intro s hs
  obtain ⟨f, hf, rfl⟩ := List.mem_map.1 hs
  obtain ⟨j, hj, rfl⟩ := List.mem_map.1 hf
  unfold Go.Proofs.Ytnfaklmndojeaaa.preF
  show (ByteArray.toList ⟨p.toArray⟩).isPrefixOf (ByteArray.toList (nm j)) = true
  rw [toList_data, toList_data, nm_list]
  rcases hp with rfl | rfl <;> rfl
theorem names_fb : (namesF (ByteArray.mk #[102, 98]) (manyA 128).fs).length = 26 := by
  have h1 : ∀ l : List Nat, (((l.map fileM_).map (·.name)).filter (Go.Proofs.Ytnfaklmndojeaaa.preF (ByteArray.mk #[102, 98]))).length = ((l.map fun i => [102, c0 i, c1_ i]).filter (List.isPrefixOf [102, 98])).length := fun l => by
    induction l with
    | nil => rfl
    | cons a r ih =>
      have e : Go.Proofs.Ytnfaklmndojeaaa.preF (ByteArray.mk #[102, 98]) (nm a) = List.isPrefixOf [102, 98] [102, c0 a, c1_ a] := by
        unfold Go.Proofs.Ytnfaklmndojeaaa.preF
        rw [toList_data, toList_data, nm_list]
      rw [List.map_cons, List.map_cons, List.map_cons, List.filter_cons, List.filter_cons, show (fileM_ a).name = nm a from rfl, e]
      split
      · rw [List.length_cons, List.length_cons, ih]
      · exact ih
  unfold namesF
  show (((List.range (min 128 128)).map fileM_).map (·.name) |>.filter _).length = 26
  rw [h1, Nat.min_self, chk_b]
  simp

def nfaa : ByteArray := ByteArray.mk #[102, 97, 97]
def nz : ByteArray := ByteArray.mk #[122]
theorem nfaa_eq : nm 0 = nfaa := bytes_ext (by rw [nm_list]; rfl)

/-- The four calls at the end. -/
theorem many_end : ∃ A1 A2, appendA (manyA 128) nfaa [121] = (0, A1) ∧ appendA A1 nz [] = (5, A1) ∧ remA A1 nfaa = (0, A2) ∧ ∃ A3, appendA A2 nz [] = (0, A3) := by
  have hzn : ∀ f ∈ (manyA 128).fs, f.name ≠ nz := fun f hf e => by
    obtain ⟨j, hj, rfl⟩ := List.mem_map.1 hf
    have := nm_size j
    rw [show nm j = nz from e] at this
    cases this
  have hfaa : hasF (manyA 128).fs nfaa = true := hasF_iff.2 ⟨fileM_ 0, List.mem_map.2 ⟨0, List.mem_range.2 (by decide), rfl⟩, nfaa_eq⟩
  have hgn : ∀ f : FileA, ({ f with b := f.b ++ [121] } : FileA).name = f.name := fun _ => rfl
  let g : FileA → FileA := fun f => { f with b := f.b ++ [121] }
  have hlen1 : ((manyA 128).fs.map (updF nfaa g)).length = 128 := by rw [List.length_map, many_len]; rfl
  have hh1 : ∀ n, hasF ((manyA 128).fs.map (updF nfaa g)) n = hasF (manyA 128).fs n := hasF_map (updF_name (fun _ => rfl))
  have e1 : appendA (manyA 128) nfaa [121] = (0, { manyA 128 with fs := (manyA 128).fs.map (updF nfaa g) }) := by
    have hfree : (manyA 128).free = 872 := by
      have h1 : (manyA 128).free = (manyA 128).room - used (manyA 128).fs := rfl
      rw [h1, many_used, Nat.min_self]; rfl
    unfold appendA
    rw [if_neg (show ¬ (manyA 128).gone = true by simp [manyA]), if_neg (by rw [show nameF nfaa = true from by kernel_rfl]; simp), if_neg, if_pos hfaa]
    · rfl
    · rintro (h | ⟨h, -⟩)
      · rw [hfree] at h; simp at h
      · rw [hfaa] at h; cases h
  refine ⟨_, { manyA 128 with fs := dropF nfaa ((manyA 128).fs.map (updF nfaa g)) }, e1, ?_, ?_, ?_⟩
  · unfold appendA
    rw [if_neg (show ¬ (manyA 128).gone = true by simp [manyA]), if_neg (by rw [show nameF nz = true from by kernel_rfl]; simp), if_pos]
    exact .inr ⟨by rw [hh1]; exact hasF_not.2 hzn, by show _ ≥ 128; rw [hlen1]; exact Nat.le_refl _⟩
  · unfold remA
    rw [if_neg (show ¬ (manyA 128).gone = true by simp [manyA]), if_neg (by show ¬ hasF ((manyA 128).fs.map (updF nfaa g)) nfaa = false; rw [hh1, hfaa]; simp)]
    rfl
  · unfold appendA
    rw [if_neg (show ¬ (manyA 128).gone = true by simp [manyA]), if_neg (by rw [show nameF nz = true from by kernel_rfl]; simp), if_neg]
    · exact ⟨_, rfl⟩
    · rintro (h | ⟨-, h⟩)
      · exact absurd h (Nat.not_lt_zero _)
      · have h3 : (dropF nfaa ((manyA 128).fs.map (updF nfaa g))).length < ((manyA 128).fs.map (updF nfaa g)).length := by
          unfold dropF
          apply List.length_filter_lt_length_iff_exists.2
          obtain ⟨f, hf, hn⟩ := hasF_iff.1 ((hh1 nfaa).trans hfaa)
          exact ⟨f, hf, by simp [hn]⟩
        rw [hlen1] at h3
        have h : (dropF nfaa ((manyA 128).fs.map (updF nfaa g))).length ≥ 128 := h
        omega

section
variable {w : World} {l r r1 : List HP} {d q : Nat} {A A' : DiskA} {e : Int}

theorem many_law (n : Int) (hs : Sat w l) : Ret P F.towpathlaw04_DiskMany #[.int .i64 n] w fun vs w' => vs = [.bool true] ∧ Sat w' l :=
  towpathlaw04_DiskMany_calls n <| by
    unfold towpathlaw04_DiskMany
    have ht : -20 < Int.tmod n 20 ∧ Int.tmod n 20 < 20 := by
      have h1 := Int.tmod_lt_of_pos n (b := 20) (by decide)
      have h2 := Int.lt_tmod_of_pos n (b := 20) (by decide)
      omega
    refine wp_lt ?_
    generalize Int.tmod n 20 = n0 at *
    refine wp_call (new_ok 1000 (by omega) hs) fun _ _ hs => ?_
    obtain ⟨d, rfl, hs⟩ := hs
    refine ret_of ?_
    refine wp_lt ?_
    refine wp_ifF ?_ (by simp)
    have e0 : IntKind.wrap .i64 (128 + n0) = (((128 + n0).toNat : Nat) : Int) := by rw [w64 (by omega) (by omega)]; omega
    rw [e0]
    obtain ⟨m, hm⟩ : ∃ m : Nat, (128 + n0).toNat = m := ⟨_, rfl⟩
    have hm2 : (m : Int) = 128 + n0 := by omega
    rw [hm]
    refine wp_mid (fun v w' => Sat w' (dk d (manyA m) :: l)) ?_ ?_
    · refine wp_loop (fun k v w => ∃ i : Nat, v = ((i : Int), ()) ∧ i ≤ m ∧ m - i = k ∧ Sat w (dk d (manyA i) :: l)) m ⟨0, rfl, by omega, rfl, hs⟩ ?_
      clear hs
      rintro k _ w ⟨i, rfl, hi, hk, hs⟩
      refine wp_on ?_
      refine wp_if (fun hc => ?_) fun hc => ?_
      rotate_left
      · have : i = m := by omega
        subst this
        exact wp_pass (wp_lv hs)
      have him : i < m := by omega
      have h148 : i < 148 := by omega
      have u0 : IntKind.wrap .u8 (IntKind.wrap .i64 (97 + IntKind.wrap .i64 (Int.tdiv (i : Int) 26))) = ((c0 i).toNat : Int) := by
        have h1 : Int.tdiv (i : Int) 26 = ((i / 26 : Nat) : Int) := by rw [Int.tdiv_eq_ediv_of_nonneg (by omega)]; omega
        have h2 : (c0 i).toNat = 97 + i / 26 := by
          unfold c0
          rw [UInt8.toNat_ofNat']
          omega
        rw [h1, w64 (x := ((i / 26 : Nat) : Int)) (by omega) (by omega), w64 (by omega) (by omega), wu8 (by omega) (by omega), h2]; omega
      have u1 : IntKind.wrap .u8 (IntKind.wrap .i64 (97 + Int.tmod (i : Int) 26)) = ((c1_ i).toNat : Int) := by
        have h1 : Int.tmod (i : Int) 26 = ((i % 26 : Nat) : Int) := tmod_nat i 26
        have h2 : (c1_ i).toNat = 97 + i % 26 := by
          unfold c1_
          rw [UInt8.toNat_ofNat']
          omega
        rw [h1, w64 (by omega) (by omega), wu8 (by omega) (by omega), h2]; omega
      rw [u0, u1]
      refine wp_slx hs (enc := encU) (cs := #[.int .u8 (c0 i).toNat, .int .u8 (c1_ i).toNat]) [c0 i, c1_ i] (by kernel_rfl) fun x1 w' hs => ?_
      refine wp_ofB hs (bs := [c0 i, c1_ i]) ?_
      refine wp_must (show ((1 + 2 : Nat) : Int) ≤ 9223372036854775807 by decide) ?_
      refine wp_lt ?_
      have hst := many_step h148
      refine wp_mid (fun v w' => v = (if i < 128 then 0 else 5, ()) ∧ Sat w' (dk d (manyA i) :: l)) ?_ ?_
      · refine wp_if (fun h => ?_) fun h => ?_
        · exact wp_lv ⟨by rw [if_neg (by omega)], hs.sub⟩
        · exact wp_lv ⟨by rw [if_pos (by omega)], hs.sub⟩
      clear hs
      rintro _ w ⟨rfl, hs⟩
      refine wp_on ?_
      refine wp_bl hs [120] (fun x1 w' hs => ?_)
      refine wp_slit1 hs (enc := encL) x1 fun y1 w' hs => ?_
      refine wp_call (append_e (d := d) (e := if i < 128 then 0 else 5) (A' := manyA (i + 1)) (nm i) y1 [x1] [[120]] rd1 hst hs) fun _ _ hs => ?_
      obtain ⟨rfl, hs⟩ := hs
      refine ret_of ?_
      refine wp_ifF ?_ (by simp)
      refine wp_ltx (y := ((i + 1 : Nat) : Int)) ?_
      refine wp_lp (m - (i + 1)) ?_
      exact ⟨i + 1, rfl, by omega, rfl, hs.sub⟩
    clear hs
    rintro _ w hs
    refine wp_on ?_
    refine wp_if (fun h => ?_) fun h => ?_
    · refine wp_mid (fun v w' => v = (true, ()) ∧ Sat w' l) ?_ (by rintro _ w' ⟨rfl, hs⟩; refine wp_on ?_; exact ⟨rfl, rfl, hs⟩)
      refine wp_call (names_c (d := d) (ByteArray.mk #[102]) hs) fun _ _ hs => ?_
      obtain ⟨x, rfl, hs⟩ := hs
      refine ret_of ?_
      have hl := hs.slen x (xs := namesF (ByteArray.mk #[102]) (manyA m).fs) (enc := encT)
      have h2 : (namesF (ByteArray.mk #[102]) (manyA m).fs).length = min m 128 := names_all [102] (.inr rfl)
      refine wp_ifT ?_ (by omega)
      refine wp_call (awake_c hs) fun _ _ hs => ?_
      obtain ⟨rfl, hs⟩ := hs
      refine ret_of ?_
      refine wp_lt ?_
      exact wp_lv ⟨rfl, hs.tail.tail⟩
    · refine wp_mid (fun v w' => v = (true, ()) ∧ Sat w' l) ?_ (by rintro _ w' ⟨rfl, hs⟩; refine wp_on ?_; exact ⟨rfl, rfl, hs⟩)
      have hA : manyA m = manyA 128 := by unfold manyA; rw [Nat.min_eq_right (by omega), Nat.min_self]
      rw [hA] at hs
      refine wp_call (names_c (d := d) (ByteArray.mk #[]) hs) fun _ _ hs => ?_
      obtain ⟨x, rfl, hs⟩ := hs
      refine ret_of ?_
      have hl := hs.slen x (xs := namesF (ByteArray.mk #[]) (manyA 128).fs) (enc := encT)
      have h2 : (namesF (ByteArray.mk #[]) (manyA 128).fs).length = min 128 128 := names_all [] (.inl rfl)
      refine wp_ifT ?_ (by omega)
      refine wp_call (names_c (d := d) (ByteArray.mk #[102, 98]) hs) fun _ _ hs => ?_
      obtain ⟨y, rfl, hs⟩ := hs
      refine ret_of ?_
      have hl := hs.slen y (xs := namesF (ByteArray.mk #[102, 98]) (manyA 128).fs) (enc := encT)
      have h2 := names_fb
      refine wp_ifT ?_ (by omega)
      obtain ⟨A1, A2, e1, e2, e3, A3, e4⟩ := many_end
      refine wp_bl hs [121] (fun x1 w' hs => ?_)
      refine wp_slit1 hs (enc := encL) x1 fun y1 w' hs => ?_
      refine wp_call (append_e (d := d) (e := 0) (A' := A1) nfaa y1 [x1] [[121]] rd1 e1 hs) fun _ _ hs => ?_
      obtain ⟨rfl, hs⟩ := hs
      refine ret_of ?_
      refine wp_ifT ?_ rfl
      refine wp_call (append_e (d := d) (e := 5) (A' := A1) nz ⟨none, 0, 0⟩ [] [] trivial e2 hs) fun _ _ hs => ?_
      obtain ⟨rfl, hs⟩ := hs
      refine ret_of ?_
      refine wp_ifT ?_ rfl
      refine wp_call (remove_c (d := d) (A := A1) nfaa hs) fun _ _ hs => ?_
      obtain ⟨rfl, hs⟩ := hs
      refine ret_of ?_
      rw [e3] at hs ⊢
      refine wp_ifT ?_ rfl
      refine wp_call (append_e (d := d) (e := 0) (A' := A3) nz ⟨none, 0, 0⟩ [] [] trivial e4 hs) fun _ _ hs => ?_
      obtain ⟨rfl, hs⟩ := hs
      refine ret_of ?_
      refine wp_ifT ?_ rfl
      refine wp_call (awake_c hs) fun _ _ hs => ?_
      obtain ⟨rfl, hs⟩ := hs
      refine ret_of ?_
      refine wp_lt ?_
      exact wp_lv ⟨rfl, hs.sub⟩

end
end Go.Dec
