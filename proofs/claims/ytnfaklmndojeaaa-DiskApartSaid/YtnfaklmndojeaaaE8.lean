/- Disks: DiskFull, DiskApart. -/
import Derived.Test.YtnfaklmndojeaaaE7
namespace Go.Dec
set_option linter.unusedVariables false
set_option linter.unusedSimpArgs false

section
variable {w : World} {l r r1 : List HP} {d q : Nat} {A A' : DiskA} {e : Int}

/-- What is refused for want of room changes nothing. -/
theorem step_full {A : DiskA} {o : OpM} (hk : o.kind = 0 ∨ o.kind = 1) (hf : o.s.size > A.free) : stepA A o = A := by
  unfold stepA
  rw [if_pos hk]
  unfold appendA
  split
  · rfl
  · split
    · rfl
    · rw [if_pos (.inl (by have : o.s.data.toList.length = o.s.size := Array.length_toList; omega))]

theorem room_step {A : DiskA} {o : OpM} (h7 : o.kind ≠ 7) (h9 : o.kind ≠ 9) : (stepA A o).room = A.room := by
  unfold stepA
  split
  · unfold appendA; split
    · rfl
    · split
      · rfl
      · split
        · rfl
        · exact doneA_room _
  split
  · unfold syncA; split
    · rfl
    · split
      · rfl
      · exact doneA_room _
  split
  · unfold syncA; split
    · rfl
    · split
      · rfl
      · exact doneA_room _
  split
  · unfold cutA'; split
    · rfl
    · split
      · rfl
      · split
        · rfl
        · exact doneA_room _
  split
  · unfold renA; split
    · rfl
    · split
      · rfl
      · split
        · rfl
        · rw [doneA_room]; split <;> rfl
  split
  · unfold remA; split
    · rfl
    · split
      · rfl
      · exact doneA_room _
  split
  · unfold fuseA; split <;> rfl
  · rfl

theorem doneA_used (A : DiskA) : used (doneA A).fs = used A.fs := by rw [doneA_fs]

theorem used_step {A : DiskA} (hok : okA A) {o : OpM} (h9 : o.kind ≠ 9) (hu : used A.fs ≤ A.room) (h7 : o.kind ≠ 7) : used (stepA A o).fs ≤ (stepA A o).room := by
  rw [room_step h7 h9]
  unfold stepA
  split
  · unfold appendA; split
    · exact hu
    · split
      · exact hu
      · split
        · exact hu
        · rename_i h
          rw [doneA_used]
          dsimp only
          have hfree : o.s.data.toList.length ≤ A.free := by
            apply Nat.le_of_not_lt
            intro h1; exact h (.inl h1)
          have hA : A.free = A.room - used A.fs := rfl
          split
          · rename_i hh
            obtain ⟨f, hf, hfn⟩ := hasF_iff.1 (by simpa using hh)
            rw [← hfn]
            obtain ⟨s, u, hsu⟩ := List.append_of_mem hf
            have hp : A.fs.Perm (f :: (s ++ u)) := by rw [hsu]; exact List.perm_middle
            have hne : ∀ g ∈ s ++ u, g.name ≠ f.name := by
              have h2 : ((f :: (s ++ u)).map (·.name)).Nodup := (hp.map _).nodup_iff.1 (names_nodup hok.sorted)
              rw [List.map_cons, List.nodup_cons] at h2
              exact fun g hg e => h2.1 (List.mem_map.2 ⟨g, hg, e⟩)
            have h3 := used_upd (g := fun f => { f with b := f.b ++ o.s.data.toList }) hp hne
            have h4 := used_perm hp
            rw [used_cons] at h4
            rw [h3]
            have : (f.b ++ o.s.data.toList).length = f.b.length + o.s.data.toList.length := List.length_append
            dsimp only at this ⊢
            omega
          · rw [used_perm (insF_perm _ _), used_cons]
            dsimp only
            omega
  split
  · unfold syncA; split
    · exact hu
    · split
      · exact hu
      · rw [doneA_used]
        show used (A.fs.map (syncF _)) ≤ _
        rw [used_map fun f => by unfold syncF; split <;> rfl]; exact hu
  split
  · unfold syncA; split
    · exact hu
    · split
      · exact hu
      · rw [doneA_used]
        show used (A.fs.map (syncF _)) ≤ _
        rw [used_map fun f => by unfold syncF; split <;> rfl]; exact hu
  split
  · unfold cutA'; split
    · exact hu
    · split
      · exact hu
      · split
        · exact hu
        · rw [doneA_used]
          refine Nat.le_trans ?_ hu
          show used (A.fs.map _) ≤ used A.fs
          generalize A.fs = fs
          induction fs with
          | nil => exact Nat.le_refl _
          | cons f r ih =>
            rw [List.map_cons, used_cons, used_cons]
            have : (updF o.a (fun f => { f with b := f.b.take o.n.toNat, kept := min f.kept o.n.toNat }) f).b.length ≤ f.b.length := by
              unfold updF; split
              · show (f.b.take _).length ≤ _; rw [List.length_take]; omega
              · exact Nat.le_refl _
            omega
  split
  · unfold renA; split
    · exact hu
    · split
      · exact hu
      · rename_i f hf
        split
        · exact hu
        · rw [doneA_used]
          split
          · exact hu
          · refine Nat.le_trans ?_ hu
            have hfm := List.mem_of_find?_eq_some hf
            have hfn : f.name = o.a := by simpa using List.find?_some hf
            show used (insF _ _) ≤ used A.fs
            rw [used_perm (insF_perm _ _), used_cons]
            obtain ⟨s, u, hsu⟩ := List.append_of_mem hfm
            have hp : A.fs.Perm (f :: (s ++ u)) := by rw [hsu]; exact List.perm_middle
            have hne : ∀ g ∈ s ++ u, g.name ≠ f.name := by
              have h2 : ((f :: (s ++ u)).map (·.name)).Nodup := (hp.map _).nodup_iff.1 (names_nodup hok.sorted)
              rw [List.map_cons, List.nodup_cons] at h2
              exact fun g hg e => h2.1 (List.mem_map.2 ⟨g, hg, e⟩)
            have h4 := used_perm hp
            rw [used_cons] at h4
            have h5 := used_perm (dropF_perm hp hne)
            rw [hfn] at h5
            have h6 : used (dropF o.b (dropF o.a A.fs)) ≤ used (dropF o.a A.fs) := used_sub (List.filter_sublist)
            dsimp only
            omega
  split
  · unfold remA; split
    · exact hu
    · split
      · exact hu
      · rw [doneA_used]
        exact Nat.le_trans (used_sub List.filter_sublist) hu
  split
  · unfold fuseA; split <;> exact hu
  · exact hu

theorem full_law (room : Int) (x : Sl) (ops : List OpM) [hx : FocR l x 6 (ops.flatMap encOp)] (hlen : ops.length ≤ 9223372036854775807) (hops : ∀ o ∈ ops, OpIn l o) (hs : Sat w l) :
    Ret P F.towpathlaw04_DiskFull #[.int .i64 room, x.v] w fun vs w' => vs = [.bool true] ∧ Sat w' l :=
  towpathlaw04_DiskFull_calls room x <| by
    unfold towpathlaw04_DiskFull
    have hl := hs.slen x (xs := ops) (enc := encOp)
    have ht : -800 < Int.tmod room 800 ∧ Int.tmod room 800 < 800 := by
      have h1 := Int.tmod_lt_of_pos room (b := 800) (by decide)
      have h2 := Int.lt_tmod_of_pos room (b := 800) (by decide)
      omega
    refine wp_lt ?_
    refine wp_mid (fun v w' => v = ((((Int.tmod room 800).natAbs : Nat) : Int), ()) ∧ Sat w' l) ?_ ?_
    · refine wp_if (fun h => ?_) fun h => ?_
      · refine wp_ltx (y := (((Int.tmod room 800).natAbs : Nat) : Int)) ?_ (by rw [w64 (by omega) (by omega)]; omega)
        exact wp_lv ⟨rfl, hs⟩
      · exact wp_lv ⟨by have : (((Int.tmod room 800).natAbs : Nat) : Int) = Int.tmod room 800 := by omega
                        rw [this], hs⟩
    clear hs
    rintro _ w ⟨rfl, hs⟩
    refine wp_on ?_
    have hn0 : (Int.tmod room 800).natAbs < 800 := by omega
    generalize (Int.tmod room 800).natAbs = n0 at hn0 ⊢
    refine wp_call (new_ok n0 (by omega) hs) fun _ _ hs => ?_
    obtain ⟨d, rfl, hs⟩ := hs
    refine ret_of ?_
    refine wp_lt ?_
    refine wp_call (rnew_c n0 hs) fun _ _ hs => ?_
    obtain ⟨q, rfl, hs⟩ := hs
    refine ret_of ?_
    refine wp_ifF ?_ (by simp)
    refine wp_mid (fun v w' => Sat w' l) ?_ ?_
    rotate_left
    · rintro _ w' hs
      refine wp_on ?_
      refine wp_call (awake_c hs) fun _ _ hs => ?_
      obtain ⟨rfl, hs⟩ := hs
      refine ret_of ?_
      refine wp_lt ?_
      exact ⟨rfl, rfl, hs⟩
    refine wp_loop (fun k v w => ∃ (i : Nat) (A : DiskA), v = ((i : Int), ()) ∧ i ≤ ops.length ∧ ops.length - i = k ∧ A.room = n0 ∧ used A.fs ≤ A.room ∧ Sat w (dk d A :: rdk q A :: l)) ops.length ⟨0, ⟨n0, -1, false, []⟩, rfl, by omega, rfl, rfl, by simp [used], hs.pick [1]⟩ ?_
    clear hs
    rintro k _ w ⟨i, A, rfl, hi, hk, hroom, huse, hs⟩
    refine wp_on ?_
    refine wp_if (fun hc => ?_) fun hc => ?_
    rotate_left
    · exact wp_pass (wp_lv hs.tail.tail)
    have hil : i < ops.length := by omega
    have hin := hops _ (List.getElem_mem hil)
    have hok := ok_of hs
    refine wp_mid (fun v w' => ∃ A : DiskA, A.room = n0 ∧ used A.fs ≤ A.room ∧ Sat w' (dk d A :: rdk q A :: l)) ?_ ?_
    rotate_left
    · rintro _ w' ⟨A, hroom, huse, hs⟩
      refine wp_on ?_
      refine wp_dn (us' := [.int .i64 ((i + 1 : Nat) : Int)]) (by (try simp (disch := omega) only [w64]); first | rfl | (congr; omega)) ?_
      refine wp_lp (ops.length - (i + 1)) ?_
      exact ⟨i + 1, A, rfl, by omega, rfl, hroom, huse, hs⟩
    refine wp_ixA hs i hil ?_
    refine wp_newO hs fun b w' hs => ?_
    refine wp_lt ?_
    refine wp_stG hs fun w' hs => ?_
    refine wp_if (fun h => ?_) fun h => ?_
    · exact wp_pass (wp_pass (wp_lv hs.tail.tail.tail))
    refine wp_ldO hs ?_
    refine wp_ldO hs ?_
    refine wp_if (fun h => ?_) fun h79 => ?_
    · exact wp_lv ⟨A, hroom, huse, hs.sub⟩
    have h7 : ops[i].kind ≠ 7 := fun h => h79 (.inl h)
    have h9 : ops[i].kind ≠ 9 := fun h => h79 (.inr h)
    refine wp_call (rcopy_c hok hs) fun _ _ hs => ?_
    obtain ⟨c, rfl, hs⟩ := hs
    refine ret_of ?_
    refine wp_ldG hs ?_
    refine wp_call (small_c ops[i] hin.cap hs) fun _ w' hs => ?_
    obtain ⟨rfl, hs⟩ := hs
    refine ret_of ?_
    have hR : FocR l (cutOp ops[i]).px 1 ((cutOp ops[i]).ps.flatMap encI) := cut_rd hin (hs.sub (l' := l))
    refine wp_call (step_c (d := d) (q := q) (cutOp ops[i]) (ok_cut _ hin.n) hs) fun _ w' hs => ?_
    obtain ⟨d', q', rfl, hs', hdq⟩ := hs
    obtain ⟨e1, e2⟩ := hdq h9
    rw [e1, e2] at hs' ⊢
    have hs := hs'
    refine ret_of ?_
    refine wp_lt ?_
    have hroom' := room_step (A := A) (o := cutOp ops[i]) h7 h9
    have huse' := used_step hok (o := cutOp ops[i]) h9 huse h7
    refine wp_mid (fun v w' => v = (false, ()) ∧ Sat w' (dk d (stepA A (cutOp ops[i])) :: rdk q (stepA A (cutOp ops[i])) :: rdk c A :: pt b (.cells #[.int .i64 ops[i].kind, .string ops[i].a, .string ops[i].b, .string ops[i].s, .int .i64 ops[i].n, .slice ops[i].px.a ops[i].px.len ops[i].px.cap] T.towpathlaw04_Op) :: l)) ?_ ?_
    · refine wp_ifF ?_ (by simp)
      refine wp_call (used_c (d := d) hs) fun _ _ hs => ?_
      obtain ⟨rfl, hs⟩ := hs
      refine ret_of ?_
      refine wp_ifF ?_ (by omega)
      refine wp_call (free_c (d := d) hs) fun _ _ hs => ?_
      obtain ⟨rfl, hs⟩ := hs
      refine ret_of ?_
      refine wp_call (used_c (d := d) hs) fun _ _ hs => ?_
      obtain ⟨rfl, hs⟩ := hs
      refine ret_of ?_
      refine wp_lv ⟨?_, hs.sub⟩
      have hA : (stepA A (cutOp ops[i])).free = (stepA A (cutOp ops[i])).room - used (stepA A (cutOp ops[i])).fs := rfl
      have : ((((stepA A (cutOp ops[i])).free : Nat) : Int) != IntKind.wrap .i64 ((n0 : Int) - ((used (stepA A (cutOp ops[i])).fs : Nat) : Int))) = false := by
        rw [w64 (by omega) (by omega), bne_eq_false_iff_eq]; omega
      rw [this]
    clear hs
    rintro _ w ⟨rfl, hs⟩
    refine wp_on ?_
    refine wp_ifF ?_ (by simp)
    have hs : Sat w (dk d (stepA A (cutOp ops[i])) :: rdk q (stepA A (cutOp ops[i])) :: rdk c A :: pt b (.cells #[.int .i64 ops[i].kind, .string ops[i].a, .string ops[i].b, .string ops[i].s, .int .i64 ops[i].n, .slice ops[i].px.a ops[i].px.len ops[i].px.cap] T.towpathlaw04_Op) :: l) := hs
    refine wp_ldO hs ?_
    refine wp_call (short_c ops[i].s 300 hs) fun _ _ hs => ?_
    obtain ⟨rfl, hs⟩ := hs
    refine ret_of ?_
    refine wp_lt ?_
    refine wp_mid (fun v w' => v = (false, ()) ∧ Sat w' (dk d (stepA A (cutOp ops[i])) :: rdk q (stepA A (cutOp ops[i])) :: l)) ?_ ?_
    rotate_left
    · rintro _ w' ⟨rfl, hs⟩
      refine wp_on ?_
      refine wp_ifF ?_ (by simp)
      exact wp_lv ⟨_, by rw [hroom']; exact hroom, huse', hs⟩
    refine wp_ldO hs ?_
    refine wp_ldO hs ?_
    refine wp_if (fun h01 => ?_) fun h01 => ?_
    · refine wp_call (rfree_c (q := c) hok hs) fun _ _ hs => ?_
      obtain ⟨rfl, hs⟩ := hs
      refine ret_of ?_
      refine wp_if (fun hf => ?_) fun hf => ?_
      · have hst : stepA A (cutOp ops[i]) = A := step_full (o := cutOp ops[i]) (by show ops[i].kind = 0 ∨ ops[i].kind = 1; omega) (by show (shortS ops[i].s 300).size > _; omega)
        rw [hst] at hs ⊢
        refine wp_call (same_c (d := d) (q := c) hs) fun _ _ hs => ?_
        obtain ⟨rfl, hs⟩ := hs
        refine ret_of ?_
        exact wp_lv ⟨rfl, hs.sub⟩
      · exact wp_lv ⟨rfl, hs.sub⟩
    · exact wp_lv ⟨rfl, hs.sub⟩

end
end Go.Dec
