/- Disks: DiskNews. -/
import Derived.Test.YtnfaklmndojeaaaE1
namespace Go.Dec
set_option linter.unusedVariables false
set_option linter.unusedSimpArgs false

section
variable {w : World} {l r r1 : List HP} {d : Nat} {A A' : DiskA} {e : Int}

theorem app_new (n : Nat) (s : ByteArray) : appendA ⟨n, -1, false, []⟩ s [] = if nameF s then (0, ⟨n, -1, false, [⟨s, [], 0⟩]⟩) else (2, ⟨n, -1, false, []⟩) := by
  unfold appendA
  rw [if_neg (by simp)]
  cases h : nameF s with
  | false => simp
  | true => rw [if_neg (by simp), if_neg (by simp)]; rfl

theorem wp_awake {Q : List Value → World → Prop} {e' : Nat} {k : HL (prims [.one .bool]) → Prog} (hs : Sat w l) (h : ∀ w', Sat w' l → (k (true, ())).wp P tt w' fun e vs w => e = 0 ∧ Q vs w) :
    (Prog.call F.towpathlaw04_awake [] sB k).wp P tt w fun e vs w => e = 0 ∧ Q vs w :=
  wp_callS (true, ()) (awake_c hs) rfl fun w' hs => ⟨trivial, h w' hs⟩

theorem news_law (room : Int) (name : ByteArray) (hs : Sat w l) : Ret P F.towpathlaw04_DiskNews #[.int .i64 room, .string name] w fun vs w' => vs = [.bool true] ∧ Sat w' l :=
  towpathlaw04_DiskNews_calls room name <| by
    unfold towpathlaw04_DiskNews
    refine wp_call (short_c name 60 hs) fun _ _ hs => ?_
    obtain ⟨rfl, hs⟩ := hs
    refine ret_of ?_
    have hsz := shortS_size name 60
    generalize shortS name 60 = s at *
    refine wp_lt ?_
    by_cases hr : room < 0 ∨ room > 4194304
    · refine wp_call (new_no room hr hs) fun _ _ hs => ?_
      obtain ⟨rfl, hs⟩ := hs
      refine ret_of ?_
      refine wp_lt ?_
      refine wp_ifT ?_ hr
      refine wp_mid (fun v w' => v = (true, ()) ∧ Sat w' l) ?_ (by rintro _ w' ⟨rfl, hs⟩; refine wp_on ?_; exact ⟨rfl, rfl, hs⟩)
      refine wp_ifT ?_ ⟨rfl, rfl⟩
      refine wp_call (awake_c hs) fun _ _ hs => ?_
      obtain ⟨rfl, hs⟩ := hs
      refine ret_of ?_
      refine wp_lt ?_
      exact wp_lv ⟨rfl, hs⟩
    · obtain ⟨n, rfl⟩ : ∃ n : Nat, room = n := ⟨room.toNat, by omega⟩
      refine wp_call (new_ok n (by omega) hs) fun _ _ hs => ?_
      obtain ⟨d, rfl, hs⟩ := hs
      refine ret_of ?_
      refine wp_lt ?_
      refine wp_ifF ?_ hr
      refine wp_mid (fun v w' => v = (false, ()) ∧ Sat w' (dk d ⟨n, -1, false, []⟩ :: l)) ?_ ?_
      · refine wp_ifF ?_ (by simp)
        refine wp_call (name_c s hs) fun _ _ hs => ?_
        obtain ⟨rfl, hs⟩ := hs
        refine ret_of ?_
        refine wp_call (rname_c s (by omega) hs) fun _ _ hs => ?_
        obtain ⟨rfl, hs⟩ := hs
        refine ret_of ?_
        refine wp_ifF ?_ (by simp)
        refine wp_call (free_c hs) fun _ _ hs => ?_
        obtain ⟨rfl, hs⟩ := hs
        refine ret_of ?_
        refine wp_lv ⟨?_, hs⟩
        have : (DiskA.free ⟨n, -1, false, []⟩ : Nat) = n := by show n - 0 = n; omega
        rw [this]; simp
      clear hs
      rintro _ w ⟨rfl, hs⟩
      refine wp_on ?_
      refine wp_ifF ?_ (by simp)
      obtain ⟨e0, A0, he, h0⟩ : ∃ e0 A0, appendA ⟨n, -1, false, []⟩ s [].flatten = (e0, A0) ∧ ((nameF s = true ∧ e0 = 0 ∧ A0 = ⟨n, -1, false, [⟨s, [], 0⟩]⟩) ∨ (nameF s = false ∧ e0 = 2 ∧ A0 = ⟨n, -1, false, []⟩)) := by
        rw [List.flatten_nil, app_new]
        cases hn : nameF s with
        | true => exact ⟨_, _, rfl, .inl ⟨rfl, rfl, rfl⟩⟩
        | false => exact ⟨_, _, rfl, .inr ⟨rfl, rfl, rfl⟩⟩
      refine wp_call (append_e (d := d) (A := ⟨n, -1, false, []⟩) s ⟨none, 0, 0⟩ [] [] trivial he hs) fun _ _ hs => ?_
      obtain ⟨rfl, hs⟩ := hs
      refine ret_of ?_
      refine wp_lt ?_
      refine wp_call (read_c s hs) fun vs w' h => ?_
      obtain ⟨x, k, hk, rfl, hs⟩ : ∃ (x : Sl) (k : Int), (k = 0 ↔ nameF s = true) ∧ vs = [x.v, .int .i64 k] ∧ Sat w' l := by
        rcases h0 with ⟨hn, rfl, rfl⟩ | ⟨hn, rfl, rfl⟩
        · rcases h with ⟨f, -, -, z, rfl, hs⟩ | ⟨h, -⟩
          · exact ⟨z, 0, by simp [hn], rfl, hs.sub⟩
          · exact absurd rfl (h ⟨s, [], 0⟩ (List.mem_singleton.2 rfl))
        · rcases h with ⟨f, hf, -⟩ | ⟨-, rfl, hs⟩
          · cases hf
          · exact ⟨⟨none, 0, 0⟩, 3, by simp [hn], rfl, hs.sub⟩
      have he0 : e0 = 0 ↔ nameF s = true := by
        rcases h0 with ⟨hn, rfl, -⟩ | ⟨hn, rfl, -⟩ <;> simp [hn]
      refine ret_of ?_
      refine wp_lt ?_
      refine wp_mid (fun v w' => v = (true, ()) ∧ Sat w' l) ?_ (by rintro _ w' ⟨rfl, hs⟩; refine wp_on ?_; exact ⟨rfl, rfl, hs⟩)
      refine wp_call (rname_c s (by omega) hs) fun _ _ hs => ?_
      obtain ⟨rfl, hs⟩ := hs
      refine ret_of ?_
      refine wp_ifT ?_ (by rw [Bool.eq_iff_iff, beq_iff_eq]; exact he0)
      refine wp_call (rname_c s (by omega) hs) fun _ _ hs => ?_
      obtain ⟨rfl, hs⟩ := hs
      refine ret_of ?_
      refine wp_ifT ?_ (by rw [Bool.eq_iff_iff, beq_iff_eq]; exact hk)
      refine wp_call (awake_c hs) fun _ _ hs => ?_
      obtain ⟨rfl, hs⟩ := hs
      refine ret_of ?_
      refine wp_lt ?_
      exact wp_lv ⟨rfl, hs⟩

end
end Go.Dec
