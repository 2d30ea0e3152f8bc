/- Disks: the law's functions: short, awake. -/
import Derived.Test.YtnfaklmndojeaaaD11
namespace Go.Dec
set_option linter.unusedVariables false
set_option linter.unusedSimpArgs false

def na : ByteArray := ByteArray.mk #[97]
def nb : ByteArray := ByteArray.mk #[98]
def b7 : List UInt8 := [49, 50, 51, 52, 53, 54, 55]
def b9 : List UInt8 := [49, 50, 51, 52, 53, 54, 55, 56, 57]
def shortS (s : ByteArray) (k : Nat) : ByteArray := if s.size > k then s.extract 0 k else s
theorem shortS_size (s : ByteArray) (k : Nat) : (shortS s k).size ≤ k := by
  unfold shortS; split
  · rw [ByteArray.size_extract]; omega
  · omega

section
variable {w : World} {l r r1 : List HP} {d : Nat} {A A' : DiskA} {e : Int}

theorem short_c (s : ByteArray) (k : Nat) (hs : Sat w l) : Ret P F.towpathlaw04_short #[.string s, .int .i64 k] w fun vs w' => vs = [.string (shortS s k)] ∧ Sat w' l :=
  towpathlaw04_short_calls s k <| by
    unfold towpathlaw04_short shortS
    refine wp_if (fun h => ?_) fun h => ?_
    · rw [if_pos (by omega)]
      refine wp_must (by omega) ?_
      rw [Int.toNat_natCast]
      exact ⟨rfl, rfl, hs⟩
    · rw [if_neg (by omega)]
      exact ⟨rfl, rfl, hs⟩

theorem rd1 {x : Sl} {b : List UInt8} [h : FocR l x 1 (b.flatMap encU)] : RdAll l [x] [b] := ⟨h.rd, trivial⟩
theorem rd2 {x y : Sl} {b c : List UInt8} [h : FocR l x 1 (b.flatMap encU)] [h2 : FocR l y 1 (c.flatMap encU)] : RdAll l [x, y] [b, c] := ⟨h.rd, h2.rd, trivial⟩

/-- Append, what it answers told. -/
theorem append_e (n : ByteArray) (ps : Sl) (xs : List Sl) (bs : List (List UInt8)) [hf : Fo l dk d A r] [hps : FocR r ps 1 (xs.flatMap encL)] (hbs : RdAll r xs bs) (hA : appendA A n bs.flatten = (e, A')) (hs : Sat w l) (hlen : bs.length ≤ 1000 := by decide) (hsum : ∀ b ∈ bs, b.length ≤ 100000000 := by simp [b7]) :
    Ret P F.disk_Disk_Append #[.pointer (some ⟨d, 0, none⟩), .string n, ps.v] w fun vs w' => vs = [.int .i64 e] ∧ Sat w' (dk d A' :: r) := by
  have h := append_c (hf := hf) (hps := hps) n ps xs bs hbs hlen hsum hs
  rw [hA] at h
  exact h
theorem sync_e (x : Sl) (ns : List ByteArray) [hf : Fo l dk d A r] [hns : FocR r x 1 (ns.flatMap encT)] (hA : syncA A ns = (e, A')) (hs : Sat w l) (hlen : ns.length ≤ 100000 := by decide) :
    Ret P F.disk_Disk_Sync #[.pointer (some ⟨d, 0, none⟩), x.v] w fun vs w' => vs = [.int .i64 e] ∧ Sat w' (dk d A' :: r) := by
  have h := sync_c (hf := hf) (hns := hns) x ns hlen hs
  rw [hA] at h
  exact h
theorem crash_e (x : Sl) (ps : List Int) [hf : Fo l dk d A r] [hps : FocR r x 1 (ps.flatMap encI)] (hA : crashA A ps = A') (hs : Sat w l) (hlen : ps.length ≤ 1000000 := by decide) :
    Ret P F.disk_Disk_Crash #[.pointer (some ⟨d, 0, none⟩), x.v] w fun vs w' => ∃ c : Nat, vs = [.pointer (some ⟨c, 0, none⟩)] ∧ Sat w' (dk c A' :: dk d A :: r) := by
  have h := crash_c (hf := hf) (hps := hps) x ps hlen hs
  rw [hA] at h
  exact h
theorem read_e (n : ByteArray) (f : FileA) [hf : Fo l dk d A r] (hA : A.fs = [f]) (hn : f.name = n) (hs : Sat w l) : Ret P F.disk_Disk_Read #[.pointer (some ⟨d, 0, none⟩), .string n] w fun vs w' =>
    ∃ z : Sl, vs = [z.v, .int .i64 0] ∧ Sat w' (slc T.uint8 1 z (f.b.flatMap encU) :: dk d A :: r) := by
  refine Calls.mono (read_c n hs) fun e w' ⟨vs, he, h⟩ => ⟨vs, he, ?_⟩
  rcases h with ⟨g, hg, -, h⟩ | ⟨h, -⟩
  · rw [hA, List.mem_singleton] at hg
    subst hg; exact h
  · exact absurd hn (h f (by rw [hA]; exact List.mem_singleton.2 rfl))

theorem FocR.nil (sz : Nat) : FocR l ⟨none, 0, 0⟩ sz ([] : List Value) := ⟨fun _ _ => ⟨(Nat.zero_mul sz).symm, .inl rfl⟩⟩
theorem wp_slx {P : Program} {S : World → Prop} {Q : Post} {t : TypeId} {sz : Nat} {α : Type} {enc : α → List Value} {n : Nat} {ps : Array (Nat × Value)} {el : TypeId} {bytes : Nat} {cs : Array Value} {k : Sl → Prog} (hs : Sat w l) [ht : SlT P t el sz bytes] [hE : EncN enc sz] (xs : List α) (hc : bsCells P t n ps = some (el, cs))
    (h : ∀ x w', Sat w' (slc el sz x (xs.flatMap enc) :: l) → (k x).wp P S w' Q) (hx : xs.flatMap enc = cs.toList := by rfl) (hn : xs.length = n := by rfl) (hS : ∀ w', S w' := by exact fun _ => trivial) :
    (Prog.act (Instr.buildSlice t n ps) sL (u1 k)).wp P S w Q := wp_slit hs xs hc (fun b w' hs => h _ w' hs) hx hn hS
instance : FocR l ⟨none, 0, 0⟩ 1 ([] : List Value) := .nil 1

theorem wp_bl {P : Program} {S : World → Prop} {Q : Post} {t e : TypeId} [ht : ByE P t e] {n : Nat} {ps : Array (Nat × Value)} {k : Sl → Prog} (hs : Sat w l) (bs : List UInt8)
    (h : ∀ x w', Sat w' (slc e 1 x (bs.flatMap encU) :: l) → (k x).wp P S w' Q) (hc : bsCells P t n ps = some (e, (bs.flatMap encU).toArray) := by kernel_rfl) (hn : bs.length = n := by rfl) (hS : ∀ w', S w' := by exact fun _ => trivial) :
    (Prog.act (Instr.buildSlice t n ps) sL (u1 fun y => .act (convert t t (.slice y.a y.len y.cap)) sL (u1 k))).wp P S w Q := wp_blit hs bs hc h (by simp) hn hS


theorem gone_last (A : DiskA) (fs : List FileA) (room : Nat) : ∃ A', appendA ⟨10, 1, false, [⟨na, b9, 7⟩]⟩ nb [] = (0, A') ∧ A'.gone = true := ⟨_, rfl, rfl⟩

theorem awake_c (hs : Sat w l) : Ret P F.towpathlaw04_awake #[] w fun vs w' => vs = [.bool true] ∧ Sat w' l :=
  towpathlaw04_awake_calls <| by
    unfold towpathlaw04_awake
    refine wp_call (new_ok 10 (by omega) hs) fun _ _ hs => ?_
    obtain ⟨d, rfl, hs⟩ := hs
    refine ret_of ?_
    refine wp_lt ?_
    refine wp_ifF ?_ (by simp)
    refine wp_bl hs b7 (fun x1 w' hs => ?_)
    refine wp_slit1 hs (enc := encL) x1 fun y1 w' hs => ?_
    refine wp_call (append_e (A' := ⟨10, -1, false, [⟨na, b7, 0⟩]⟩) (e := 0) na y1 [x1] [b7] rd1 (by kernel_rfl) hs) fun _ _ hs => ?_
    obtain ⟨rfl, hs⟩ := hs
    refine ret_of ?_
    refine wp_lt ?_
    refine wp_slit1 hs (enc := encT) na fun y2 w' hs => ?_
    refine wp_call (sync_e (A' := ⟨10, -1, false, [⟨na, b7, 7⟩]⟩) (e := 0) y2 [na] (by kernel_rfl) hs) fun _ _ hs => ?_
    obtain ⟨rfl, hs⟩ := hs
    refine ret_of ?_
    refine wp_lt ?_
    refine wp_bl hs [56] (fun x1 w' hs => ?_)
    refine wp_bl hs [57] (fun x2 w' hs => ?_)
    refine wp_slx hs (enc := encL) (cs := #[x1.v, x2.v]) [x1, x2] (by kernel_rfl) fun y1 w' hs => ?_
    refine wp_call (append_e (A' := ⟨10, -1, false, [⟨na, b9, 7⟩]⟩) (e := 0) na y1 [x1, x2] [[56], [57]] rd2 (by kernel_rfl) hs) fun _ _ hs => ?_
    obtain ⟨rfl, hs⟩ := hs
    refine ret_of ?_
    refine wp_lt ?_
    refine wp_bl hs [49, 50] (fun x1 w' hs => ?_)
    refine wp_slit1 hs (enc := encL) x1 fun y1 w' hs => ?_
    refine wp_call (append_e (A' := ⟨10, -1, false, [⟨na, b9, 7⟩]⟩) (e := 5) nb y1 [x1] [[49, 50]] rd1 (by kernel_rfl) hs) fun _ _ hs => ?_
    obtain ⟨rfl, hs⟩ := hs
    refine ret_of ?_
    refine wp_lt ?_
    refine wp_call (crash_e (A' := ⟨10, -1, false, [⟨na, b7, 7⟩]⟩) ⟨none, 0, 0⟩ [] (by kernel_rfl) hs) fun _ _ hs => ?_
    obtain ⟨c1, rfl, hs⟩ := hs
    refine ret_of ?_
    refine wp_call (read_e na ⟨na, b7, 7⟩ rfl rfl hs) fun _ _ hs => ?_
    obtain ⟨z1, rfl, hs⟩ := hs
    refine ret_of ?_
    refine wp_lt ?_
    refine wp_slit1 hs (enc := encI) 1 fun y3 w' hs => ?_
    refine wp_call (crash_e (d := d) (A' := ⟨10, -1, false, [⟨na, b7 ++ [56], 8⟩]⟩) y3 [1] (by kernel_rfl) hs) fun _ _ hs => ?_
    obtain ⟨c2, rfl, hs⟩ := hs
    refine ret_of ?_
    refine wp_call (read_e (d := c2) na ⟨na, b7 ++ [56], 8⟩ rfl rfl hs) fun _ _ hs => ?_
    obtain ⟨z2, rfl, hs⟩ := hs
    refine ret_of ?_
    refine wp_lt ?_
    refine wp_call (fuse_c (d := d) 1 (by omega) hs) fun _ _ hs => ?_
    obtain ⟨rfl, hs⟩ := hs
    refine ret_of ?_
    obtain ⟨A', hA, hg⟩ := gone_last ⟨10, 1, false, []⟩ [] 0
    refine wp_call (append_e (d := d) (A' := A') (e := 0) nb ⟨none, 0, 0⟩ [] [] trivial hA hs) fun _ _ hs => ?_
    obtain ⟨rfl, hs⟩ := hs
    refine ret_of ?_
    refine wp_lt ?_
    refine wp_mid (fun v w' => v = (true, ()) ∧ Sat w' l) ?_ (by rintro _ w' ⟨rfl, hs⟩; refine wp_on ?_; exact ⟨rfl, rfl, hs⟩)
    refine wp_ofB hs (bs := b7) ?_
    refine wp_ofB hs (bs := b7 ++ [56]) ?_
    refine wp_ifT ?_ ?_
    · refine wp_slit1 hs (enc := encT) na fun y2 w' hs => ?_
      refine wp_call (sync_e (d := d) (A' := A') (e := 9) y2 [na] (by unfold syncA; rw [if_pos hg]) hs) fun _ _ hs => ?_
      obtain ⟨rfl, hs⟩ := hs
      refine ret_of ?_
      refine wp_ifT ?_ rfl
      refine wp_call (gone_c (d := d) hs) fun _ _ hs => ?_
      obtain ⟨rfl, hs⟩ := hs
      refine ret_of ?_
      rw [hg]
      refine wp_lt ?_
      exact wp_lv ⟨rfl, hs.sub⟩
    · exact ⟨⟨⟨⟨⟨⟨rfl, rfl⟩, rfl⟩, rfl⟩, rfl⟩, rfl⟩, rfl⟩

end
end Go.Dec
