/- Disks: DiskSwaps. -/
import Derived.Test.YtnfaklmndojeaaaE10
namespace Go.Dec
set_option linter.unusedVariables false
set_option linter.unusedSimpArgs false

def nx_ : ByteArray := ByteArray.mk #[120]
def nn_ : ByteArray := ByteArray.mk #[120, 46, 110, 101, 119]

theorem sw_new (b : List UInt8) (hb : b.length ≤ 300) : appendA ⟨4000, -1, false, []⟩ nx_ b = (0, ⟨4000, -1, false, [⟨nx_, b, 0⟩]⟩) := by
  unfold appendA
  rw [if_neg (by simp), if_neg (by rw [show nameF nx_ = true from by kernel_rfl]; simp), if_neg]
  · rfl
  · rintro (h | ⟨-, h⟩)
    · have : DiskA.free ⟨4000, -1, false, []⟩ = 4000 := rfl
      omega
    · simp at h
theorem sw_sync (b : List UInt8) (room : Nat) : syncA ⟨room, -1, false, [⟨nx_, b, 0⟩]⟩ [nx_] = (0, ⟨room, -1, false, [⟨nx_, b, b.length⟩]⟩) := by
  have h1 : [nx_].all (hasF [⟨nx_, b, 0⟩]) = true := by simp [hasF]
  have h2 : syncF [nx_] ⟨nx_, b, 0⟩ = ⟨nx_, b, b.length⟩ := by
    unfold syncF
    rw [if_pos (by simp [asked])]
  unfold syncA
  rw [if_neg (by simp), if_neg (by rw [h1]; simp)]
  show (0, doneA ⟨room, -1, false, [syncF [nx_] ⟨nx_, b, 0⟩]⟩) = _
  rw [h2]; rfl
theorem sw_lt : ltS nn_ nx_ = false := by kernel_rfl
theorem sw_ne : ¬ nx_ = nn_ := by
  intro h
  have : nx_.data.toList = nn_.data.toList := by rw [h]
  cases this

/-- What the three calls leave, by the fuse. -/
structure SwapEnd (n : Int) (ob fb : List UInt8) (a b c : Int) (A : DiskA) : Prop where
  a : a = 0 ↔ n ≥ 1
  b : b = 0 ↔ n ≥ 2
  c : c = 0 ↔ n ≥ 3
  has : ∃ f ∈ A.fs, f.name = nx_ ∧ f.kept = f.b.length ∧ f.b = if n ≥ 3 then fb else ob

theorem sw_end (ob fb : List UInt8) (ho : ob.length ≤ 300) (hf : fb.length ≤ 300) (n : Int) (hn : 0 ≤ n ∧ n ≤ 4) :
    SwapEnd n ob fb (appendA (fuseA ⟨4000, -1, false, [⟨nx_, ob, ob.length⟩]⟩ n) nn_ fb).1 (syncA (appendA (fuseA ⟨4000, -1, false, [⟨nx_, ob, ob.length⟩]⟩ n) nn_ fb).2 [nn_]).1
      (renA (syncA (appendA (fuseA ⟨4000, -1, false, [⟨nx_, ob, ob.length⟩]⟩ n) nn_ fb).2 [nn_]).2 nn_ nx_).1 (renA (syncA (appendA (fuseA ⟨4000, -1, false, [⟨nx_, ob, ob.length⟩]⟩ n) nn_ fb).2 [nn_]).2 nn_ nx_).2 := by
  have hfu : fuseA ⟨4000, -1, false, [⟨nx_, ob, ob.length⟩]⟩ n = ⟨4000, n, decide (n = 0), [⟨nx_, ob, ob.length⟩]⟩ := by
    unfold fuseA
    rw [if_neg (by simp), if_neg (by omega)]
  rw [hfu]
  by_cases h0 : n = 0
  · subst h0
    have e1 : appendA ⟨4000, 0, decide ((0 : Int) = 0), [⟨nx_, ob, ob.length⟩]⟩ nn_ fb = (9, ⟨4000, 0, true, [⟨nx_, ob, ob.length⟩]⟩) := by unfold appendA; rfl
    rw [e1]
    exact ⟨by show (9 : Int) = 0 ↔ _; omega, by show (9 : Int) = 0 ↔ _; omega, by show (9 : Int) = 0 ↔ _; omega, ⟨nx_, ob, ob.length⟩, List.mem_singleton.2 rfl, rfl, rfl, rfl⟩
  have e1 : appendA ⟨4000, n, decide (n = 0), [⟨nx_, ob, ob.length⟩]⟩ nn_ fb = (0, ⟨4000, n - 1, decide (n - 1 = 0), [⟨nx_, ob, ob.length⟩, ⟨nn_, fb, 0⟩]⟩) := by
    have hh : hasF [⟨nx_, ob, ob.length⟩] nn_ = false := by simp [hasF, sw_ne]
    unfold appendA
    rw [if_neg (by simp [h0]), if_neg (by rw [show nameF nn_ = true from by kernel_rfl]; simp), if_neg, if_neg (by rw [hh]; simp)]
    · unfold doneA
      rw [if_pos (by show n > 0; omega)]
      simp [insF, sw_lt]
    · rintro (h | ⟨-, h⟩)
      · have : DiskA.free ⟨4000, n, decide (n = 0), [⟨nx_, ob, ob.length⟩]⟩ = 4000 - ob.length := by simp [DiskA.free, used]
        omega
      · simp at h
  rw [e1]
  by_cases h1 : n = 1
  · subst h1
    exact ⟨by show (0 : Int) = 0 ↔ _; omega, by show (9 : Int) = 0 ↔ _; omega, by show (9 : Int) = 0 ↔ _; omega, ⟨nx_, ob, ob.length⟩, List.mem_cons_self .., rfl, rfl, rfl⟩
  have e2 : syncA ⟨4000, n - 1, decide (n - 1 = 0), [⟨nx_, ob, ob.length⟩, ⟨nn_, fb, 0⟩]⟩ [nn_] = (0, ⟨4000, n - 2, decide (n - 2 = 0), [⟨nx_, ob, ob.length⟩, ⟨nn_, fb, fb.length⟩]⟩) := by
    have h3 : [nn_].all (hasF [⟨nx_, ob, ob.length⟩, ⟨nn_, fb, 0⟩]) = true := by simp [hasF]
    have h4 : [(⟨nx_, ob, ob.length⟩ : FileA), ⟨nn_, fb, 0⟩].map (syncF [nn_]) = [⟨nx_, ob, ob.length⟩, ⟨nn_, fb, fb.length⟩] := by
      have h5 : asked [nn_] nx_ = false := by simp [asked]; exact fun e => sw_ne e.symm
      have h6 : asked [nn_] nn_ = true := by simp [asked]
      simp [syncF, h5, h6]
    unfold syncA
    rw [if_neg (by show ¬ decide (n - 1 = 0) = true; rw [decide_eq_true_iff]; omega), if_neg (by rw [h3]; simp)]
    dsimp only
    rw [h4]
    unfold doneA
    rw [if_pos (by show n - 1 > 0; omega)]
    dsimp only
    rw [show n - 1 - 1 = n - 2 by omega]
  dsimp only
  rw [e2]
  by_cases h2 : n = 2
  · subst h2
    exact ⟨by show (0 : Int) = 0 ↔ _; omega, by show (0 : Int) = 0 ↔ _; omega, by show (9 : Int) = 0 ↔ _; omega, ⟨nx_, ob, ob.length⟩, List.mem_cons_self .., rfl, rfl, rfl⟩
  have e3 : ∃ l g, renA ⟨4000, n - 2, decide (n - 2 = 0), [⟨nx_, ob, ob.length⟩, ⟨nn_, fb, fb.length⟩]⟩ nn_ nx_ = (0, ⟨4000, l, g, [⟨nx_, fb, fb.length⟩]⟩) := by
    have h3 : [(⟨nx_, ob, ob.length⟩ : FileA), ⟨nn_, fb, fb.length⟩].find? (fun f => decide (f.name = nn_)) = some ⟨nn_, fb, fb.length⟩ := by simp [sw_ne]
    have h4 : dropF nx_ (dropF nn_ [⟨nx_, ob, ob.length⟩, ⟨nn_, fb, fb.length⟩]) = [] := by simp [dropF, sw_ne]
    unfold renA
    rw [if_neg (by show ¬ decide (n - 2 = 0) = true; rw [decide_eq_true_iff]; omega)]
    dsimp only
    rw [h3]
    dsimp only
    rw [if_neg (by rw [show nameF nx_ = true from by kernel_rfl]; simp), if_neg (fun e => sw_ne e.symm), h4]
    unfold doneA
    rw [if_pos (by show n - 2 > 0; omega)]
    exact ⟨_, _, rfl⟩
  obtain ⟨l, g, e3⟩ := e3
  dsimp only
  rw [e3]
  exact ⟨by show (0 : Int) = 0 ↔ _; omega, by show (0 : Int) = 0 ↔ _; omega, by show (0 : Int) = 0 ↔ _; omega, ⟨nx_, fb, fb.length⟩, List.mem_singleton.2 rfl, rfl, rfl, by rw [if_pos (by omega)]⟩

section
variable {w : World} {l r r1 : List HP} {d q : Nat} {A A' : DiskA} {e : Int}

theorem crash_whole {A : DiskA} (ps : List Int) {f : FileA} (hf : f ∈ A.fs) (hk : f.kept = f.b.length) : ∃ g ∈ (crashA A ps).fs, g.name = f.name ∧ g.b = f.b := by
  obtain ⟨i, hi, rfl⟩ := List.getElem_of_mem hf
  have hi2 : i < (crashA A ps).fs.length := by rw [crash_len]; exact hi
  refine ⟨(crashA A ps).fs[i], List.getElem_mem hi2, ?_, ?_⟩
  · rw [crash_get A ps hi hi2]; rfl
  · rw [crash_get A ps hi hi2]
    show A.fs[i].b.take _ = _
    apply List.take_of_length_le
    unfold lastN
    omega

theorem swaps_law (old fresh : ByteArray) (at_ : Int) (px : Sl) (zs : List Int) [hp : FocR l px 1 (zs.flatMap encI)] (hcap : px.len ≤ px.cap) (hs : Sat w l) :
    Ret P F.towpathlaw04_DiskSwaps #[.string old, .string fresh, .int .i64 at_, px.v] w fun vs w' => vs = [.bool true] ∧ Sat w' l :=
  towpathlaw04_DiskSwaps_calls old fresh at_ px <| by
    unfold towpathlaw04_DiskSwaps
    have hR := cut20_rd (x := px) (zs := zs) hs
    refine wp_call (short_c old 300 hs) fun _ _ hs => ?_
    obtain ⟨rfl, hs⟩ := hs
    refine ret_of ?_
    have ho := shortS_size old 300
    generalize shortS old 300 = ob at *
    refine wp_call (short_c fresh 300 hs) fun _ _ hs => ?_
    obtain ⟨rfl, hs⟩ := hs
    refine ret_of ?_
    have hf := shortS_size fresh 300
    generalize shortS fresh 300 = fb at *
    have hol : ob.data.toList.length = ob.size := Array.length_toList
    have hfl : fb.data.toList.length = fb.size := Array.length_toList
    refine wp_lt ?_
    refine wp_lt ?_
    refine wp_cut20 px hcap ?_
    have htl : (zs.take 20).length ≤ 1000000 := by rw [List.length_take]; omega
    generalize zs.take 20 = ps at *
    refine wp_call (new_ok 4000 (by omega) hs) fun _ _ hs => ?_
    obtain ⟨d, rfl, hs⟩ := hs
    refine ret_of ?_
    refine wp_lt ?_
    refine wp_mid (fun v w' => v = (false, ()) ∧ Sat w' (dk d ⟨4000, -1, false, [⟨nx_, ob.data.toList, ob.data.toList.length⟩]⟩ :: l)) ?_ ?_
    · refine wp_ifF ?_ (by simp)
      refine wp_toB hs fun x1 w' hs => ?_
      refine wp_slit1 hs (enc := encL) x1 fun y1 w' hs => ?_
      refine wp_call (append_e (d := d) (e := 0) (A' := ⟨4000, -1, false, [⟨nx_, ob.data.toList, 0⟩]⟩) nx_ y1 [x1] [ob.data.toList] rd1 (by rw [List.flatten_singleton]; exact sw_new _ (by omega)) hs (by simp) (by intro b hb; rw [List.mem_singleton.1 hb]; omega)) fun _ _ hs => ?_
      obtain ⟨rfl, hs⟩ := hs
      refine ret_of ?_
      refine wp_ifF ?_ (by simp)
      refine wp_slit1 hs (enc := encT) nx_ fun y2 w' hs => ?_
      refine wp_call (sync_e (d := d) y2 [nx_] (sw_sync _ _) hs) fun _ _ hs => ?_
      obtain ⟨rfl, hs⟩ := hs
      refine ret_of ?_
      exact wp_lv ⟨rfl, hs.sub⟩
    clear hs
    rintro _ w ⟨rfl, hs⟩
    refine wp_on ?_
    refine wp_ifF ?_ (by simp)
    have ht : -5 < Int.tmod at_ 5 ∧ Int.tmod at_ 5 < 5 := by
      have h1 := Int.tmod_lt_of_pos at_ (b := 5) (by decide)
      have h2 := Int.lt_tmod_of_pos at_ (b := 5) (by decide)
      omega
    refine wp_lt ?_
    refine wp_mid (fun v w' => v = ((((Int.tmod at_ 5).natAbs : Nat) : Int), ()) ∧ Sat w' (dk d ⟨4000, -1, false, [⟨nx_, ob.data.toList, ob.data.toList.length⟩]⟩ :: l)) ?_ ?_
    · refine wp_if (fun h => ?_) fun h => ?_
      · refine wp_ltx (y := (((Int.tmod at_ 5).natAbs : Nat) : Int)) ?_ (by rw [w64 (by omega) (by omega)]; omega)
        exact wp_lv ⟨rfl, hs⟩
      · exact wp_lv ⟨by have : (((Int.tmod at_ 5).natAbs : Nat) : Int) = Int.tmod at_ 5 := by omega
                        rw [this], hs⟩
    clear hs
    rintro _ w ⟨rfl, hs⟩
    refine wp_on ?_
    have hn0 : 0 ≤ (((Int.tmod at_ 5).natAbs : Nat) : Int) ∧ (((Int.tmod at_ 5).natAbs : Nat) : Int) ≤ 4 := by omega
    generalize (((Int.tmod at_ 5).natAbs : Nat) : Int) = n at hn0 ⊢
    have hend := sw_end ob.data.toList fb.data.toList (by omega) (by omega) n hn0
    refine wp_call (fuse_c (d := d) n (by omega) hs) fun _ _ hs => ?_
    obtain ⟨rfl, hs⟩ := hs
    refine ret_of ?_
    generalize fuseA ⟨4000, -1, false, [⟨nx_, ob.data.toList, ob.data.toList.length⟩]⟩ n = A0 at *
    refine wp_toB hs fun x1 w' hs => ?_
    refine wp_slit1 hs (enc := encL) x1 fun y1 w' hs => ?_
    refine wp_call (append_c (d := d) (A := A0) nn_ y1 [x1] [fb.data.toList] rd1 (by simp) (by intro b hb; rw [List.mem_singleton.1 hb]; omega) hs) fun _ _ hs => ?_
    obtain ⟨rfl, hs⟩ := hs
    refine ret_of ?_
    rw [List.flatten_singleton] at hs ⊢
    generalize (appendA A0 nn_ fb.data.toList).1 = ra at *
    generalize (appendA A0 nn_ fb.data.toList).2 = A1 at *
    refine wp_lt ?_
    refine wp_slit1 hs (enc := encT) nn_ fun y2 w' hs => ?_
    refine wp_call (sync_c (d := d) (A := A1) y2 [nn_] (by simp) hs) fun _ _ hs => ?_
    obtain ⟨rfl, hs⟩ := hs
    refine ret_of ?_
    generalize (syncA A1 [nn_]).1 = rb at *
    generalize (syncA A1 [nn_]).2 = A2 at *
    refine wp_lt ?_
    refine wp_call (rename_c (d := d) (A := A2) nn_ nx_ hs) fun _ _ hs => ?_
    obtain ⟨rfl, hs⟩ := hs
    refine ret_of ?_
    generalize (renA A2 nn_ nx_).1 = rc at *
    generalize (renA A2 nn_ nx_).2 = A3 at *
    refine wp_lt ?_
    obtain ⟨ha, hb, hc, f, hfm, hfn, hfk, hfb⟩ := hend
    have eqs : ∀ {x : Int} {p : Prop} [Decidable p], (x = 0 ↔ p) → (x == 0) = decide p := fun {x p} _ h => by rw [Bool.eq_iff_iff, beq_iff_eq, decide_eq_true_iff]; exact h
    refine wp_ifF ?_ (fun h => h.elim (fun h => h.elim (fun h => h (eqs ha)) fun h => h (eqs hb)) fun h => h (eqs hc))
    have hs : Sat _ (dk d A3 :: l) := hs.sub
    refine wp_call (crash_c (d := d) (A := A3) (cut20 px) ps htl hs) fun _ _ hs => ?_
    obtain ⟨c, rfl, hs⟩ := hs
    refine ret_of ?_
    obtain ⟨g, hg, hgn, hgb⟩ := crash_whole ps hfm hfk
    have hok3 := ok_of hs
    obtain ⟨i, hi, rfl⟩ := List.getElem_of_mem hg
    refine wp_call (read_at (d := c) (A := crashA A3 ps) hok3 hi nx_ (by rw [hgn, hfn]) hs) fun _ _ hs => ?_
    obtain ⟨z, rfl, hs⟩ := hs
    refine ret_of ?_
    rw [hgb, hfb] at hs
    refine wp_lt ?_
    refine wp_lt ?_
    refine wp_mid (fun v w' => v = ((if n ≥ 3 then fb else ob), ()) ∧ Sat w' (slc T.uint8 1 z ((if n ≥ 3 then fb.data.toList else ob.data.toList).flatMap encU) :: l)) ?_ ?_
    · refine wp_if (fun h => ?_) fun h => ?_
      · refine wp_lt ?_
        refine wp_lv ⟨by rw [if_pos h], hs.sub⟩
      · refine wp_lv ⟨by rw [if_neg h], hs.sub⟩
    clear hs
    rintro _ w ⟨rfl, hs⟩
    refine wp_on ?_
    have e2 : (if n ≥ 3 then fb.data.toList else ob.data.toList) = (if n ≥ 3 then fb else ob).data.toList := by split <;> rfl
    rw [e2] at hs
    generalize (if n ≥ 3 then fb else ob) = want at *
    refine wp_mid (fun v w' => v = (true, ()) ∧ Sat w' l) ?_ (by rintro _ w' ⟨rfl, hs⟩; refine wp_on ?_; exact ⟨rfl, rfl, hs⟩)
    refine wp_ofB hs (bs := want.data.toList) ?_
    have e3 : (⟨want.data.toList.toArray⟩ : ByteArray) = want := bytesOf_toList want
    rw [e3]
    refine wp_ifT ?_ ⟨rfl, rfl⟩
    refine wp_call (awake_c hs) fun _ _ hs => ?_
    obtain ⟨rfl, hs⟩ := hs
    refine ret_of ?_
    refine wp_lt ?_
    exact wp_lv ⟨rfl, hs.tail⟩

end
end Go.Dec
