/- Disks: the law's functions: short, awake. Disks: the document's Sync, Crash, Copy. Disks: the law's same. Disks: the law's small, step. Disks: the law's step. Disks: the law's play; DiskPlays. -/
import Derived.Test.YtnfaklmndojeaaaD11
namespace Go.Dec
set_option linter.unusedVariables false
set_option linter.unusedSimpArgs false

def na : ByteArray := ByteArray.mk #[97]
def nb : ByteArray := ByteArray.mk #[98]
def b7 : List UInt8 := [49, 50, 51, 52, 53, 54, 55]
def b9 : List UInt8 := [49, 50, 51, 52, 53, 54, 55, 56, 57]
def shortS (s : ByteArray) (k : Nat) : ByteArray := if s.size > k then s.extract 0 k else s
theorem shortS_size (s : ByteArray) (k : Nat) : (shortS s k).size ≤ k := by
  unfold shortS; split
  · rw [ByteArray.size_extract]; omega
  · omega

section
variable {w : World} {l r r1 : List HP} {d : Nat} {A A' : DiskA} {e : Int}

theorem short_c (s : ByteArray) (k : Nat) (hs : Sat w l) : Ret P F.towpathlaw04_short #[.string s, .int .i64 k] w fun vs w' => vs = [.string (shortS s k)] ∧ Sat w' l :=
  towpathlaw04_short_calls s k <| by
    unfold towpathlaw04_short shortS
    refine wp_if (fun h => ?_) fun h => ?_
    · rw [if_pos (by omega)]
      refine wp_must (by omega) ?_
      rw [Int.toNat_natCast]
      exact ⟨rfl, rfl, hs⟩
    · rw [if_neg (by omega)]
      exact ⟨rfl, rfl, hs⟩

theorem rd1 {x : Sl} {b : List UInt8} [h : FocR l x 1 (b.flatMap encU)] : RdAll l [x] [b] := ⟨h.rd, trivial⟩
theorem rd2 {x y : Sl} {b c : List UInt8} [h : FocR l x 1 (b.flatMap encU)] [h2 : FocR l y 1 (c.flatMap encU)] : RdAll l [x, y] [b, c] := ⟨h.rd, h2.rd, trivial⟩

/-- Append, what it answers told. -/
theorem append_e (n : ByteArray) (ps : Sl) (xs : List Sl) (bs : List (List UInt8)) [hf : Fo l dk d A r] [hps : FocR r ps 1 (xs.flatMap encL)] (hbs : RdAll r xs bs) (hA : appendA A n bs.flatten = (e, A')) (hs : Sat w l) (hlen : bs.length ≤ 1000 := by decide) (hsum : ∀ b ∈ bs, b.length ≤ 100000000 := by simp [b7]) :
    Ret P F.disk_Disk_Append #[.pointer (some ⟨d, 0, none⟩), .string n, ps.v] w fun vs w' => vs = [.int .i64 e] ∧ Sat w' (dk d A' :: r) := by
  have h := append_c (hf := hf) (hps := hps) n ps xs bs hbs hlen hsum hs
  rw [hA] at h
  exact h
theorem sync_e (x : Sl) (ns : List ByteArray) [hf : Fo l dk d A r] [hns : FocR r x 1 (ns.flatMap encT)] (hA : syncA A ns = (e, A')) (hs : Sat w l) (hlen : ns.length ≤ 100000 := by decide) :
    Ret P F.disk_Disk_Sync #[.pointer (some ⟨d, 0, none⟩), x.v] w fun vs w' => vs = [.int .i64 e] ∧ Sat w' (dk d A' :: r) := by
  have h := sync_c (hf := hf) (hns := hns) x ns hlen hs
  rw [hA] at h
  exact h
theorem crash_e (x : Sl) (ps : List Int) [hf : Fo l dk d A r] [hps : FocR r x 1 (ps.flatMap encI)] (hA : crashA A ps = A') (hs : Sat w l) (hlen : ps.length ≤ 1000000 := by decide) :
    Ret P F.disk_Disk_Crash #[.pointer (some ⟨d, 0, none⟩), x.v] w fun vs w' => ∃ c : Nat, vs = [.pointer (some ⟨c, 0, none⟩)] ∧ Sat w' (dk c A' :: dk d A :: r) := by
  have h := crash_c (hf := hf) (hps := hps) x ps hlen hs
  rw [hA] at h
  exact h
theorem read_e (n : ByteArray) (f : FileA) [hf : Fo l dk d A r] (hA : A.fs = [f]) (hn : f.name = n) (hs : Sat w l) : Ret P F.disk_Disk_Read #[.pointer (some ⟨d, 0, none⟩), .string n] w fun vs w' =>
    ∃ z : Sl, vs = [z.v, .int .i64 0] ∧ Sat w' (slc T.uint8 1 z (f.b.flatMap encU) :: dk d A :: r) := by
  refine Calls.mono (read_c n hs) fun e w' ⟨vs, he, h⟩ => ⟨vs, he, ?_⟩
  rcases h with ⟨g, hg, -, h⟩ | ⟨h, -⟩
  · rw [hA, List.mem_singleton] at hg
    subst hg; exact h
  · exact absurd hn (h f (by rw [hA]; exact List.mem_singleton.2 rfl))

theorem FocR.nil (sz : Nat) : FocR l ⟨none, 0, 0⟩ sz ([] : List Value) := ⟨fun _ _ => ⟨(Nat.zero_mul sz).symm, .inl rfl⟩⟩
theorem wp_slx {P : Program} {S : World → Prop} {Q : Post} {t : TypeId} {sz : Nat} {α : Type} {enc : α → List Value} {n : Nat} {ps : Array (Nat × Value)} {el : TypeId} {bytes : Nat} {cs : Array Value} {k : Sl → Prog} (hs : Sat w l) [ht : SlT P t el sz bytes] [hE : EncN enc sz] (xs : List α) (hc : bsCells P t n ps = some (el, cs))
    (h : ∀ x w', Sat w' (slc el sz x (xs.flatMap enc) :: l) → (k x).wp P S w' Q) (hx : xs.flatMap enc = cs.toList := by rfl) (hn : xs.length = n := by rfl) (hS : ∀ w', S w' := by exact fun _ => trivial) :
    (Prog.act (Instr.buildSlice t n ps) sL (u1 k)).wp P S w Q := wp_slit hs xs hc (fun b w' hs => h _ w' hs) hx hn hS
instance : FocR l ⟨none, 0, 0⟩ 1 ([] : List Value) := .nil 1

theorem wp_bl {P : Program} {S : World → Prop} {Q : Post} {t e : TypeId} [ht : ByE P t e] {n : Nat} {ps : Array (Nat × Value)} {k : Sl → Prog} (hs : Sat w l) (bs : List UInt8)
    (h : ∀ x w', Sat w' (slc e 1 x (bs.flatMap encU) :: l) → (k x).wp P S w' Q) (hc : bsCells P t n ps = some (e, (bs.flatMap encU).toArray) := by kernel_rfl) (hn : bs.length = n := by rfl) (hS : ∀ w', S w' := by exact fun _ => trivial) :
    (Prog.act (Instr.buildSlice t n ps) sL (u1 fun y => .act (convert t t (.slice y.a y.len y.cap)) sL (u1 k))).wp P S w Q := wp_blit hs bs hc h (by simp) hn hS


theorem gone_last (A : DiskA) (fs : List FileA) (room : Nat) : ∃ A', appendA ⟨10, 1, false, [⟨na, b9, 7⟩]⟩ nb [] = (0, A') ∧ A'.gone = true := ⟨_, rfl, rfl⟩

theorem awake_c (hs : Sat w l) : Ret P F.towpathlaw04_awake #[] w fun vs w' => vs = [.bool true] ∧ Sat w' l :=
  towpathlaw04_awake_calls <| by
    unfold towpathlaw04_awake
    refine wp_call (new_ok 10 (by omega) hs) fun _ _ hs => ?_
    obtain ⟨d, rfl, hs⟩ := hs
    refine ret_of ?_
    refine wp_lt ?_
    refine wp_ifF ?_ (by simp)
    refine wp_bl hs b7 (fun x1 w' hs => ?_)
    refine wp_slit1 hs (enc := encL) x1 fun y1 w' hs => ?_
    refine wp_call (append_e (A' := ⟨10, -1, false, [⟨na, b7, 0⟩]⟩) (e := 0) na y1 [x1] [b7] rd1 (by kernel_rfl) hs) fun _ _ hs => ?_
    obtain ⟨rfl, hs⟩ := hs
    refine ret_of ?_
    refine wp_lt ?_
    refine wp_slit1 hs (enc := encT) na fun y2 w' hs => ?_
    refine wp_call (sync_e (A' := ⟨10, -1, false, [⟨na, b7, 7⟩]⟩) (e := 0) y2 [na] (by kernel_rfl) hs) fun _ _ hs => ?_
    obtain ⟨rfl, hs⟩ := hs
    refine ret_of ?_
    refine wp_lt ?_
    refine wp_bl hs [56] (fun x1 w' hs => ?_)
    refine wp_bl hs [57] (fun x2 w' hs => ?_)
    refine wp_slx hs (enc := encL) (cs := #[x1.v, x2.v]) [x1, x2] (by kernel_rfl) fun y1 w' hs => ?_
    refine wp_call (append_e (A' := ⟨10, -1, false, [⟨na, b9, 7⟩]⟩) (e := 0) na y1 [x1, x2] [[56], [57]] rd2 (by kernel_rfl) hs) fun _ _ hs => ?_
    obtain ⟨rfl, hs⟩ := hs
    refine ret_of ?_
    refine wp_lt ?_
    refine wp_bl hs [49, 50] (fun x1 w' hs => ?_)
    refine wp_slit1 hs (enc := encL) x1 fun y1 w' hs => ?_
    refine wp_call (append_e (A' := ⟨10, -1, false, [⟨na, b9, 7⟩]⟩) (e := 5) nb y1 [x1] [[49, 50]] rd1 (by kernel_rfl) hs) fun _ _ hs => ?_
    obtain ⟨rfl, hs⟩ := hs
    refine ret_of ?_
    refine wp_lt ?_
    refine wp_call (crash_e (A' := ⟨10, -1, false, [⟨na, b7, 7⟩]⟩) ⟨none, 0, 0⟩ [] (by kernel_rfl) hs) fun _ _ hs => ?_
    obtain ⟨c1, rfl, hs⟩ := hs
    refine ret_of ?_
    refine wp_call (read_e na ⟨na, b7, 7⟩ rfl rfl hs) fun _ _ hs => ?_
    obtain ⟨z1, rfl, hs⟩ := hs
    refine ret_of ?_
    refine wp_lt ?_
    refine wp_slit1 hs (enc := encI) 1 fun y3 w' hs => ?_
    refine wp_call (crash_e (d := d) (A' := ⟨10, -1, false, [⟨na, b7 ++ [56], 8⟩]⟩) y3 [1] (by kernel_rfl) hs) fun _ _ hs => ?_
    obtain ⟨c2, rfl, hs⟩ := hs
    refine ret_of ?_
    refine wp_call (read_e (d := c2) na ⟨na, b7 ++ [56], 8⟩ rfl rfl hs) fun _ _ hs => ?_
    obtain ⟨z2, rfl, hs⟩ := hs
    refine ret_of ?_
    refine wp_lt ?_
    refine wp_call (fuse_c (d := d) 1 (by omega) hs) fun _ _ hs => ?_
    obtain ⟨rfl, hs⟩ := hs
    refine ret_of ?_
    obtain ⟨A', hA, hg⟩ := gone_last ⟨10, 1, false, []⟩ [] 0
    refine wp_call (append_e (d := d) (A' := A') (e := 0) nb ⟨none, 0, 0⟩ [] [] trivial hA hs) fun _ _ hs => ?_
    obtain ⟨rfl, hs⟩ := hs
    refine ret_of ?_
    refine wp_lt ?_
    refine wp_mid (fun v w' => v = (true, ()) ∧ Sat w' l) ?_ (by rintro _ w' ⟨rfl, hs⟩; refine wp_on ?_; exact ⟨rfl, rfl, hs⟩)
    refine wp_ofB hs (bs := b7) ?_
    refine wp_ofB hs (bs := b7 ++ [56]) ?_
    refine wp_ifT ?_ ?_
    · refine wp_slit1 hs (enc := encT) na fun y2 w' hs => ?_
      refine wp_call (sync_e (d := d) (A' := A') (e := 9) y2 [na] (by unfold syncA; rw [if_pos hg]) hs) fun _ _ hs => ?_
      obtain ⟨rfl, hs⟩ := hs
      refine ret_of ?_
      refine wp_ifT ?_ rfl
      refine wp_call (gone_c (d := d) hs) fun _ _ hs => ?_
      obtain ⟨rfl, hs⟩ := hs
      refine ret_of ?_
      rw [hg]
      refine wp_lt ?_
      exact wp_lv ⟨rfl, hs.sub⟩
    · exact ⟨⟨⟨⟨⟨⟨rfl, rfl⟩, rfl⟩, rfl⟩, rfl⟩, rfl⟩, rfl⟩

end
end Go.Dec

namespace Go.Dec
set_option linter.unusedVariables false
set_option linter.unusedSimpArgs false

/-- The first ones, changed. -/
def mixF (g : FileA → FileA) (i : Nat) (fs : List FileA) : List FileA := (fs.take i).map g ++ fs.drop i
theorem mix_len (g : FileA → FileA) (i : Nat) (fs : List FileA) : (mixF g i fs).length = fs.length := by simp [mixF]; omega
theorem mix_zero (g : FileA → FileA) (fs : List FileA) : mixF g 0 fs = fs := by simp [mixF]
theorem mix_all (g : FileA → FileA) (fs : List FileA) {i : Nat} (h : fs.length ≤ i) : mixF g i fs = fs.map g := by
  unfold mixF
  rw [List.take_of_length_le h, List.drop_eq_nil_of_le h, List.append_nil]
theorem mix_get (g : FileA → FileA) {fs : List FileA} {i : Nat} (h : i < fs.length) (h2 : i < (mixF g i fs).length) : (mixF g i fs)[i] = fs[i] := by
  unfold mixF at h2 ⊢
  rw [List.getElem_append_right (by simp; omega)]
  simp [Nat.min_eq_left (Nat.le_of_lt h)]
theorem mix_step (g : FileA → FileA) {fs : List FileA} {i : Nat} (h : i < fs.length) : (mixF g i fs).set i (g fs[i]) = mixF g (i + 1) fs := by
  unfold mixF
  have hl : ((fs.take i).map g).length = i := by simp; omega
  rw [List.set_append_right _ _ (by omega), hl, Nat.sub_self, List.drop_eq_getElem_cons h, List.set_cons_zero, List.take_add_one, List.getElem?_eq_getElem h, Option.toList_some, List.map_append, List.append_assoc]
  rfl
theorem mix_same (g : FileA → FileA) {fs : List FileA} {i : Nat} (h : i < fs.length) (hg : g fs[i] = fs[i]) : mixF g (i + 1) fs = mixF g i fs := by
  rw [← mix_step g h, hg]
  have h2 : i < (mixF g i fs).length := by rw [mix_len]; exact h
  have e := mix_get g h h2
  rw [← e, List.set_getElem_self]

theorem okA_sync {A : DiskA} (hok : okA A) (ns : List ByteArray) : okA { A with fs := A.fs.map (syncF ns) } := by
  refine okA_map hok (fun f => ?_) (fun f => ?_) (fun f h => ?_)
  · unfold syncF; split <;> rfl
  · unfold syncF; split <;> rfl
  · unfold syncF; split
    · exact Nat.le_refl _
    · exact h

section
variable {P : Program} {w : World} {l r : List HP} {Q : Post} {S : World → Prop} {t T : TypeId} {sz : Nat}
/-- A slice literal of one element, what is held kept. -/
theorem wp_slit1S {α : Type} {enc : α → List Value} {v : Value} {el : TypeId} {bytes : Nat} {cs : List Value} {k : Sl → Prog} (hs : Sat w l) [ht : SlT P t el sz bytes] [hE : EncN enc sz] [hv : Cells v cs] (y : α)
    (h : ∀ x w', Sat w' (slc el sz x ([y].flatMap enc) :: l) → (k x).wp P S w' Q) (hS : ∀ x w', Sat w' (slc el sz x ([y].flatMap enc) :: l) → S w') (hy : cs = enc y := by rfl) (hz : (!Nat.beq sz 0 && Nat.ble sz 16777216) = true := by rfl) :
    (Prog.act (Instr.buildSlice t 1 #[(0, v)]) sL (u1 k)).wp P S w Q := by
  have h1 : v.cells = (enc y).toArray := by rw [hv.ok, hy]
  rw [Bool.and_eq_true, Bool.not_eq_true'] at hz
  have hlen := hE.len y
  have hp := hs.push (o := .cells (enc y).toArray el) (w' := { w with heap := w.heap.push (.cells (enc y).toArray el) }) rfl
  have h2 := hp.slc_of (n := 1) (sz := sz) (by simp [hlen])
  have e : (enc y).toArray.toList = [y].flatMap enc := by simp
  rw [e] at h2
  exact ⟨(⟨some ⟨w.heap.size, 0, none⟩, 1, 1⟩, ()), _, run_bs (bs1 h1 hz.1 hz.2 (by simp [hlen])), hS _ _ h2, h _ _ h2⟩
end

section
variable {w : World} {l r r1 : List HP} {q : Nat} {A A' : DiskA} {e : Int}

theorem rsync_c (nx : Sl) (ns : List ByteArray) [hf : Fo l rdk q A r] [hns : FocR r nx 1 (ns.flatMap encT)] (hlen : ns.length ≤ 100000) (hok : okA A) (hs : Sat w l) :
    Ret P F.towpathref04_Disk_Sync #[.pointer (some ⟨q, 0, none⟩), nx.v] w fun vs w' => vs = [.int .i64 (syncA A ns).1] ∧ Sat w' (rdk q (syncA A ns).2 :: r) :=
  towpathref04_Disk_Sync_calls _ nx <| by
    unfold towpathref04_Disk_Sync syncA
    obtain ⟨x, hs⟩ := rdk_open (hs.perm hf.perm)
    have hm := hok.many
    (repeat (first | with_reducible (first | refine wp_on ?_ | refine wp_nn ?_ | refine wp_nng ?_ | refine wp_ldO hs ?_ | refine wp_ldG hs ?_ | refine wp_untick ?_ | refine wp_tk hs fun _ hs => ?_ | refine wp_newO hs fun _ _ hs => ?_ | refine wp_boxO hs fun _ _ hs => ?_ | refine wp_stO hs fun _ hs => ?_ | refine wp_stG hs fun _ hs => ?_) | (apply wp_must; (focus first | trivial | omega | assumption)) | refine wp_ltw ?_ | refine wp_lt ?_))
    have hs : Sat w (rdk q A :: r) := rdk_close x hs
    refine wp_if (fun hg => ?_) fun hg => ?_
    · rw [if_pos hg]; exact ⟨rfl, rfl, hs⟩
    have hg : A.gone = false := by simpa using hg
    rw [if_neg (by rw [hg]; simp)]
    have hpl := hs.slen nx (xs := ns) (enc := encT)
    refine wp_mid (fun v w' => ns.all (hasF A.fs) = true ∧ Sat w' (rdk q A :: r)) ?_ ?_
    · refine wp_loop (fun k v w => ∃ i : Nat, v = ((i : Int), ()) ∧ i ≤ ns.length ∧ ns.length - i = k ∧ (ns.take i).all (hasF A.fs) = true ∧ Sat w (rdk q A :: r)) ns.length ⟨0, rfl, by omega, rfl, rfl, hs⟩ ?_
      clear hs
      rintro k _ w ⟨i, rfl, hi, hk, hall, hs⟩
      refine wp_on ?_
      refine wp_if (fun hc => ?_) fun hc => ?_
      · have hil : i < ns.length := by omega
        refine wp_ix1 hs i hil ?_
        have htk : (ns.take (i + 1)).all (hasF A.fs) = hasF A.fs ns[i] := by
          rw [List.take_add_one, List.getElem?_eq_getElem hil, List.all_append, hall]; simp
        refine wp_lt ?_
        refine wp_call (rat_c ns[i] hok hs) fun _ w' h => ?_
        obtain ⟨⟨j, hj, rfl, hjn⟩ | ⟨rfl, hno⟩, hs⟩ := h
        · refine ret_of ?_
          refine wp_ifF ?_
          refine wp_dn (us' := [.int .i64 ((i + 1 : Nat) : Int)]) (by (try simp (disch := omega) only [w64]); first | rfl | (congr; omega)) ?_
          refine wp_lp (ns.length - (i + 1)) ?_
          exact ⟨i + 1, rfl, by omega, rfl, by rw [htk]; exact has_of hj hjn, hs⟩
        · refine ret_of ?_
          refine wp_ifT ?_
          refine wp_pass (wp_pass ?_)
          have : ns.all (hasF A.fs) = false := by
            rw [← List.take_append_drop (i + 1) ns, List.all_append, htk, hasF_not.2 hno]; rfl
          rw [if_pos this]
          exact ⟨rfl, rfl, hs⟩
      · refine wp_pass (wp_lv ⟨?_, hs⟩)
        rwa [List.take_of_length_le (by omega)] at hall
    clear hs
    rintro _ w ⟨hall, hs⟩
    refine wp_on ?_
    rw [if_neg (by rw [hall]; simp)]
    obtain ⟨x, hs⟩ := rdk_open hs
    have hl := hs.slen x (xs := A.fs) (enc := encF)
    (repeat (first | with_reducible (first | refine wp_on ?_ | refine wp_nn ?_ | refine wp_nng ?_ | refine wp_ldO hs ?_ | refine wp_ldG hs ?_ | refine wp_untick ?_ | refine wp_tk hs fun _ hs => ?_ | refine wp_newO hs fun _ _ hs => ?_ | refine wp_boxO hs fun _ _ hs => ?_ | refine wp_stO hs fun _ hs => ?_ | refine wp_stG hs fun _ hs => ?_) | (apply wp_must; (focus first | trivial | omega | assumption)) | refine wp_ltw ?_ | refine wp_lt ?_))
    refine wp_mid (fun v w' => Sat w' (rdk q { A with fs := A.fs.map (syncF ns) } :: r)) ?_ ?_
    · refine wp_loop (fun k v w => ∃ i : Nat, v = ((i : Int), ()) ∧ i ≤ A.fs.length ∧ A.fs.length - i = k ∧ Sat w (pt q (.cells #[.int .i64 A.room, x.v, .int .i64 A.left, .bool A.gone] T.towpathref04_Disk) :: slc T.towpathref04_File 3 x ((mixF (syncF ns) i A.fs).flatMap encF) :: r)) A.fs.length ⟨0, rfl, by omega, rfl, by rw [mix_zero]; exact hs⟩ ?_
      clear hs
      rintro k _ w ⟨i, rfl, hi, hk, hs⟩
      refine wp_on ?_
      refine wp_if (fun hc => ?_) fun hc => ?_
      · have hil : i < A.fs.length := by omega
        have hi2 : i < (mixF (syncF ns) i A.fs).length := by rw [mix_len]; exact hil
        have hget := mix_get (syncF ns) hil hi2
        refine wp_mid (fun v w' => Sat w' (pt q (.cells #[.int .i64 A.room, x.v, .int .i64 A.left, .bool A.gone] T.towpathref04_Disk) :: slc T.towpathref04_File 3 x ((mixF (syncF ns) (i + 1) A.fs).flatMap encF) :: r)) ?_ ?_
        · refine wp_lt ?_
          refine wp_lt ?_
          refine wp_mid (fun v w' => v = (asked ns A.fs[i].name, ()) ∧ Sat w' (pt q (.cells #[.int .i64 A.room, x.v, .int .i64 A.left, .bool A.gone] T.towpathref04_Disk) :: slc T.towpathref04_File 3 x ((mixF (syncF ns) i A.fs).flatMap encF) :: r)) ?_ ?_
          · refine wp_loop (fun k v w => ∃ j : Nat, v = ((ns.isEmpty || (ns.take j).any fun m => decide (m = A.fs[i].name)), (j : Int), ()) ∧ j ≤ ns.length ∧ ns.length - j = k ∧ Sat w (pt q (.cells #[.int .i64 A.room, x.v, .int .i64 A.left, .bool A.gone] T.towpathref04_Disk) :: slc T.towpathref04_File 3 x ((mixF (syncF ns) i A.fs).flatMap encF) :: r)) ns.length ⟨0, ?_, by omega, rfl, hs⟩ ?_
            · have e : (((nx.len : Nat) : Int) == 0) = (ns.isEmpty || (ns.take 0).any fun m => decide (m = A.fs[i].name)) := by
                rw [hpl]
                cases ns with
                | nil => rfl
                | cons a b => rw [Bool.eq_iff_iff]; simp; omega
              rw [e]; rfl
            clear hs
            rintro k _ w ⟨j, rfl, hj, hk, hs⟩
            refine wp_on ?_
            refine wp_if (fun hc => ?_) fun hc => ?_
            · have hjl : j < ns.length := by omega
              refine wp_ix1 hs j hjl ?_
              (repeat (first | with_reducible (first | refine wp_on ?_ | refine wp_nn ?_ | refine wp_nng ?_ | refine wp_ldO hs ?_ | refine wp_ldG hs ?_ | refine wp_untick ?_ | refine wp_tk hs fun _ hs => ?_ | refine wp_newO hs fun _ _ hs => ?_ | refine wp_boxO hs fun _ _ hs => ?_ | refine wp_stO hs fun _ hs => ?_ | refine wp_stG hs fun _ hs => ?_) | (apply wp_must; (focus first | trivial | omega | assumption)) | refine wp_ltw ?_ | refine wp_lt ?_))
              refine wp_ixFg hs i hi2 ?_
              rw [hget]
              refine wp_lt ?_
              have hb : ((ns.isEmpty || (ns.take j).any fun m => decide (m = A.fs[i].name)) || ByteArray.toList ns[j] == ByteArray.toList A.fs[i].name) = (ns.isEmpty || (ns.take (j + 1)).any fun m => decide (m = A.fs[i].name)) := by
                rw [List.take_add_one, List.getElem?_eq_getElem hjl, List.any_append, Bool.or_assoc]
                congr 2
                rw [Bool.eq_iff_iff, beq_iff_eq, bytes_toList]; simp
              rw [hb]
              refine wp_dn (us' := [.bool (ns.isEmpty || (ns.take (j + 1)).any fun m => decide (m = A.fs[i].name)), .int .i64 ((j + 1 : Nat) : Int)]) (by (try simp (disch := omega) only [w64]); first | rfl | (congr; omega)) ?_
              refine wp_lp (ns.length - (j + 1)) ?_
              exact ⟨j + 1, rfl, by omega, rfl, hs⟩
            · refine wp_pass (wp_lv ⟨?_, hs⟩)
              rw [List.take_of_length_le (by omega)]; rfl
          clear hs
          rintro _ w ⟨rfl, hs⟩
          refine wp_on ?_
          refine wp_mid (fun v w' => Sat w' (pt q (.cells #[.int .i64 A.room, x.v, .int .i64 A.left, .bool A.gone] T.towpathref04_Disk) :: slc T.towpathref04_File 3 x ((mixF (syncF ns) (i + 1) A.fs).flatMap encF) :: r)) ?_ ?_
          · refine wp_if (fun ha => ?_) fun ha => ?_
            · (repeat (first | with_reducible (first | refine wp_on ?_ | refine wp_nn ?_ | refine wp_nng ?_ | refine wp_ldO hs ?_ | refine wp_ldG hs ?_ | refine wp_untick ?_ | refine wp_tk hs fun _ hs => ?_ | refine wp_newO hs fun _ _ hs => ?_ | refine wp_boxO hs fun _ _ hs => ?_ | refine wp_stO hs fun _ hs => ?_ | refine wp_stG hs fun _ hs => ?_) | (apply wp_must; (focus first | trivial | omega | assumption)) | refine wp_ltw ?_ | refine wp_lt ?_))
              refine wp_ixF hs i hi2 ?_
              rw [hget, bytesOf_size]
              refine wp_ixSF hs i hi2 (syncF ns A.fs[i]) (fun w' hs => ?_) rfl rfl (by rw [hget, syncF, if_pos ha]; rfl)
              (repeat (first | with_reducible (first | refine wp_on ?_ | refine wp_nn ?_ | refine wp_nng ?_ | refine wp_ldO hs ?_ | refine wp_ldG hs ?_ | refine wp_untick ?_ | refine wp_tk hs fun _ hs => ?_ | refine wp_newO hs fun _ _ hs => ?_ | refine wp_boxO hs fun _ _ hs => ?_ | refine wp_stO hs fun _ hs => ?_ | refine wp_stG hs fun _ hs => ?_) | (apply wp_must; (focus first | trivial | omega | assumption)) | refine wp_ltw ?_ | refine wp_lt ?_))
              rw [mix_step _ hil] at hs
              exact wp_lv hs.sub
            · refine wp_lv ?_
              rw [mix_same _ hil (by rw [syncF, if_neg ha])]
              exact hs
          clear hs
          rintro _ w hs
          refine wp_on ?_
          exact wp_lv hs
        clear hs
        rintro _ w hs
        refine wp_on ?_
        refine wp_dn (us' := [.int .i64 ((i + 1 : Nat) : Int)]) (by (try simp (disch := omega) only [w64]); first | rfl | (congr; omega)) ?_
        refine wp_lp (A.fs.length - (i + 1)) ?_
        exact ⟨i + 1, rfl, by omega, rfl, hs⟩
      · refine wp_pass (wp_lv ?_)
        rw [mix_all _ _ (by omega)] at hs
        exact rdk_close x (A := { A with fs := A.fs.map (syncF ns) }) hs
    clear hs
    rintro _ w hs
    refine wp_on ?_
    refine wp_call (rdone_c (okA_sync hok ns) hg hs) fun _ _ hs => ?_
    obtain ⟨rfl, hs⟩ := hs
    refine ret_of ?_
    (repeat (first | with_reducible (first | refine wp_on ?_ | refine wp_nn ?_ | refine wp_nng ?_ | refine wp_ldO hs ?_ | refine wp_ldG hs ?_ | refine wp_untick ?_ | refine wp_tk hs fun _ hs => ?_ | refine wp_newO hs fun _ _ hs => ?_ | refine wp_boxO hs fun _ _ hs => ?_ | refine wp_stO hs fun _ hs => ?_ | refine wp_stG hs fun _ hs => ?_) | (apply wp_must; (focus first | trivial | omega | assumption)) | refine wp_ltw ?_ | refine wp_lt ?_))
    exact ⟨rfl, rfl, hs⟩

theorem rcopy_c (hok : okA A) [hf : Fo l rdk q A r] (hs : Sat w l) : Ret P F.towpathref04_Disk_Copy #[.pointer (some ⟨q, 0, none⟩)] w fun vs w' => ∃ c : Nat, vs = [.pointer (some ⟨c, 0, none⟩)] ∧ Sat w' (rdk c A :: rdk q A :: r) :=
  towpathref04_Disk_Copy_calls _ <| by
    unfold towpathref04_Disk_Copy
    obtain ⟨x, hs⟩ := rdk_open (hs.perm hf.perm)
    have hm := hok.many
    refine wp_tk hs fun w' hs => ?_
    refine wp_nn ?_
    refine wp_ldO hs ?_
    refine wp_nn ?_
    refine wp_ldO hs ?_
    refine wp_nn ?_
    refine wp_ldO hs ?_
    refine wp_boxO hs fun c w' hs => ?_
    refine wp_untick ?_
    refine wp_mid (fun _ w' => Sat w' (rdk c A :: rdk q A :: r)) ?_ ?_
    · (repeat (first | with_reducible (first | refine wp_on ?_ | refine wp_nn ?_ | refine wp_nng ?_ | refine wp_ldO hs ?_ | refine wp_ldG hs ?_ | refine wp_untick ?_ | refine wp_tk hs fun _ hs => ?_ | refine wp_newO hs fun _ _ hs => ?_ | refine wp_boxO hs fun _ _ hs => ?_ | refine wp_stO hs fun _ hs => ?_ | refine wp_stG hs fun _ hs => ?_) | (apply wp_must; (focus first | trivial | omega | assumption)) | refine wp_ltw ?_ | refine wp_lt ?_))
      have hs := hs.slc_nil (T := T.towpathref04_File) (sz := 3)
      refine wp_app' (xs := []) (ys := A.fs) (enc := encF) (x := ⟨none, 0, 0⟩) hs (fun z w' hs => ?_) (by rw [List.length_nil]; omega)
      (repeat (first | with_reducible (first | refine wp_on ?_ | refine wp_nn ?_ | refine wp_nng ?_ | refine wp_ldO hs ?_ | refine wp_ldG hs ?_ | refine wp_untick ?_ | refine wp_tk hs fun _ hs => ?_ | refine wp_newO hs fun _ _ hs => ?_ | refine wp_boxO hs fun _ _ hs => ?_ | refine wp_stO hs fun _ hs => ?_ | refine wp_stG hs fun _ hs => ?_) | (apply wp_must; (focus first | trivial | omega | assumption)) | refine wp_ltw ?_ | refine wp_lt ?_))
      refine wp_lv ?_
      have hs : Sat _ (rdk c A :: _) := rdk_close z (l' := pt q (.cells #[.int .i64 A.room, x.v, .int .i64 A.left, .bool A.gone] T.towpathref04_Disk) :: slc T.towpathref04_File 3 x (A.fs.flatMap encF) :: r) hs
      have hs : Sat _ (rdk q A :: rdk c A :: r) := rdk_close x hs
      exact hs.pick [1]
    · rintro _ w' hs
      refine wp_on ?_
      exact ⟨rfl, c, rfl, hs⟩

theorem rcrash_c (px : Sl) (ps : List Int) [hf : Fo l rdk q A r] [hps : FocR r px 1 (ps.flatMap encI)] (hlen : ps.length ≤ 1000000) (hok : okA A) (hs : Sat w l) :
    Ret P F.towpathref04_Disk_Crash #[.pointer (some ⟨q, 0, none⟩), px.v] w fun vs w' => ∃ c : Nat, vs = [.pointer (some ⟨c, 0, none⟩)] ∧ Sat w' (rdk c (crashA A ps) :: rdk q A :: r) :=
  towpathref04_Disk_Crash_calls _ px <| by
    unfold towpathref04_Disk_Crash
    have hpl := (hs.perm hf.perm).slen px (xs := ps) (enc := encI)
    obtain ⟨x, hs⟩ := rdk_open (hs.perm hf.perm)
    have hl := hs.slen x (xs := A.fs) (enc := encF)
    have hm := hok.many
    have hu := hok.used
    (repeat (first | with_reducible (first | refine wp_on ?_ | refine wp_nn ?_ | refine wp_nng ?_ | refine wp_ldO hs ?_ | refine wp_ldG hs ?_ | refine wp_untick ?_ | refine wp_tk hs fun _ hs => ?_ | refine wp_newO hs fun _ _ hs => ?_ | refine wp_boxO hs fun _ _ hs => ?_ | refine wp_stO hs fun _ hs => ?_ | refine wp_stG hs fun _ hs => ?_) | (apply wp_must; (focus first | trivial | omega | assumption)) | refine wp_ltw ?_ | refine wp_lt ?_))
    refine wp_call (rnew_c A.room hs) fun _ _ hs => ?_
    obtain ⟨c, rfl, hs⟩ := hs
    refine ret_of ?_
    obtain ⟨x0, hs⟩ := rdk_open hs
    (repeat (first | with_reducible (first | refine wp_on ?_ | refine wp_nn ?_ | refine wp_nng ?_ | refine wp_ldO hs ?_ | refine wp_ldG hs ?_ | refine wp_untick ?_ | refine wp_tk hs fun _ hs => ?_ | refine wp_newO hs fun _ _ hs => ?_ | refine wp_boxO hs fun _ _ hs => ?_ | refine wp_stO hs fun _ hs => ?_ | refine wp_stG hs fun _ hs => ?_) | (apply wp_must; (focus first | trivial | omega | assumption)) | refine wp_ltw ?_ | refine wp_lt ?_))
    refine wp_mid (fun _ w' => Sat w' (rdk c (crashA A ps) :: rdk q A :: r)) ?_ ?_
    · refine wp_loop (fun k v w => ∃ (i : Nat) (z : Sl), v = ((i : Int), ()) ∧ i ≤ A.fs.length ∧ A.fs.length - i = k ∧ Sat w (slc T.towpathref04_File 3 z (((A.fs.take i).mapIdx fun i f => crashF ps f i).flatMap encF) :: pt c (.cells #[.int .i64 A.room, z.v, .int .i64 (-1), .bool false] T.towpathref04_Disk) :: pt q (.cells #[.int .i64 A.room, x.v, .int .i64 A.left, .bool A.gone] T.towpathref04_Disk) :: slc T.towpathref04_File 3 x (A.fs.flatMap encF) :: r)) A.fs.length ⟨0, x0, rfl, by omega, rfl, hs.pick [1, 0]⟩ ?_
      clear hs
      rintro k _ w ⟨i, z, rfl, hi, hk, hs⟩
      refine wp_on ?_
      refine wp_if (fun hc => ?_) fun hc => ?_
      · have hil : i < A.fs.length := by omega
        have hbi := used_mem (List.getElem_mem hil)
        have hki := hok.kept _ (List.getElem_mem hil)
        refine wp_ixA hs i hil ?_
        refine wp_newO hs fun b w' hs => ?_
        refine wp_lt ?_
        refine wp_stG hs fun w' hs => ?_
        refine wp_ldO hs ?_
        refine wp_lt ?_
        refine wp_mid (fun v w' => v = (pickN ps i, ()) ∧ Sat w' (pt b (.cells #[.string A.fs[i].name, .string (bytesOf A.fs[i].b), .int .i64 A.fs[i].kept] T.towpathref04_File) :: slc T.towpathref04_File 3 z (((A.fs.take i).mapIdx fun i f => crashF ps f i).flatMap encF) :: pt c (.cells #[.int .i64 A.room, z.v, .int .i64 (-1), .bool false] T.towpathref04_Disk) :: pt q (.cells #[.int .i64 A.room, x.v, .int .i64 A.left, .bool A.gone] T.towpathref04_Disk) :: slc T.towpathref04_File 3 x (A.fs.flatMap encF) :: r)) ?_ ?_
        · refine wp_if (fun h => ?_) fun h => ?_
          · have hpos : 0 < ps.length := by omega
            have hmod := Nat.mod_lt i hpos
            refine wp_must (by omega) ?_
            refine wp_ix1 hs (i % ps.length) hmod ?_ (by rw [hpl, tmod_nat])
            refine wp_lt ?_
            have e1 : pickN ps i = ps[i % ps.length] := by
              unfold pickN
              rw [if_neg (fun e => by rw [e] at hpos; simp at hpos), List.getD_eq_getElem?_getD, List.getElem?_eq_getElem hmod]; rfl
            exact wp_lv ⟨by rw [e1], hs⟩
          · have hnil : ps = [] := List.length_eq_zero_iff.1 (by omega)
            exact wp_lv ⟨by rw [hnil]; rfl, hs⟩
        clear hs
        rintro _ w ⟨rfl, hs⟩
        refine wp_on ?_
        refine wp_ldO hs ?_
        rw [bytesOf_size, w64 (x := ((A.fs[i].b.length : Nat) : Int) - ((A.fs[i].kept : Nat) : Int)) (by omega) (by omega)]
        refine wp_mid (fun v w' => v = ((if pickN ps i > ((A.fs[i].b.length : Nat) : Int) - ((A.fs[i].kept : Nat) : Int) then ((A.fs[i].b.length : Nat) : Int) - ((A.fs[i].kept : Nat) : Int) else pickN ps i), ()) ∧ Sat w' (pt b (.cells #[.string A.fs[i].name, .string (bytesOf A.fs[i].b), .int .i64 A.fs[i].kept] T.towpathref04_File) :: slc T.towpathref04_File 3 z (((A.fs.take i).mapIdx fun i f => crashF ps f i).flatMap encF) :: pt c (.cells #[.int .i64 A.room, z.v, .int .i64 (-1), .bool false] T.towpathref04_Disk) :: pt q (.cells #[.int .i64 A.room, x.v, .int .i64 A.left, .bool A.gone] T.towpathref04_Disk) :: slc T.towpathref04_File 3 x (A.fs.flatMap encF) :: r)) ?_ ?_
        · refine wp_if (fun h => ?_) fun h => ?_
          · refine wp_ldO hs ?_
            rw [bytesOf_size, w64 (x := ((A.fs[i].b.length : Nat) : Int) - ((A.fs[i].kept : Nat) : Int)) (by omega) (by omega)]
            refine wp_lt ?_
            exact wp_lv ⟨by rw [if_pos h], hs⟩
          · exact wp_lv ⟨by rw [if_neg h], hs⟩
        clear hs
        rintro _ w ⟨rfl, hs⟩
        refine wp_on ?_
        generalize hmo : (if pickN ps i > ((A.fs[i].b.length : Nat) : Int) - ((A.fs[i].kept : Nat) : Int) then ((A.fs[i].b.length : Nat) : Int) - ((A.fs[i].kept : Nat) : Int) else pickN ps i) = mo
        have hlast := lastN_le hki (pickN ps i)
        have hle : ((lastN A.fs[i] (pickN ps i) : Nat) : Int) = if mo > 0 then ((A.fs[i].kept : Nat) : Int) + mo else ((A.fs[i].kept : Nat) : Int) := by
          unfold lastN
          subst hmo
          split <;> split <;> omega
        refine wp_mid (fun v w' => v = (((lastN A.fs[i] (pickN ps i) : Nat) : Int), ()) ∧ Sat w' (pt b (.cells #[.string A.fs[i].name, .string (bytesOf A.fs[i].b), .int .i64 A.fs[i].kept] T.towpathref04_File) :: slc T.towpathref04_File 3 z (((A.fs.take i).mapIdx fun i f => crashF ps f i).flatMap encF) :: pt c (.cells #[.int .i64 A.room, z.v, .int .i64 (-1), .bool false] T.towpathref04_Disk) :: pt q (.cells #[.int .i64 A.room, x.v, .int .i64 A.left, .bool A.gone] T.towpathref04_Disk) :: slc T.towpathref04_File 3 x (A.fs.flatMap encF) :: r)) ?_ ?_
        · refine wp_if (fun h => ?_) fun h => ?_
          · rw [if_pos h] at hle
            rw [w64 (x := ((A.fs[i].kept : Nat) : Int) + mo) (by omega) (by omega), ← hle]
            refine wp_lt ?_
            exact wp_lv ⟨rfl, hs⟩
          · rw [if_neg h] at hle
            exact wp_lv ⟨by rw [hle], hs⟩
        clear hs
        rintro _ w ⟨rfl, hs⟩
        refine wp_on ?_
        generalize hla : lastN A.fs[i] (pickN ps i) = la at *
        have hcr : crashF ps A.fs[i] i = ⟨A.fs[i].name, A.fs[i].b.take la, la⟩ := by unfold crashF; rw [hla]
        have hcut : ByteArray.extract (bytesOf A.fs[i].b) 0 la = bytesOf (A.fs[i].b.take la) := bytes_ext (by simp [bytesOf, ByteArray.data_extract])
        refine wp_mid (fun v w' => ∃ z : Sl, Sat w' (slc T.towpathref04_File 3 z (((A.fs.take (i + 1)).mapIdx fun i f => crashF ps f i).flatMap encF) :: pt c (.cells #[.int .i64 A.room, z.v, .int .i64 (-1), .bool false] T.towpathref04_Disk) :: pt q (.cells #[.int .i64 A.room, x.v, .int .i64 A.left, .bool A.gone] T.towpathref04_Disk) :: slc T.towpathref04_File 3 x (A.fs.flatMap encF) :: r)) ?_ ?_
        · refine wp_tk hs fun w' hs => ?_
          refine wp_nn ?_
          refine wp_hdO hs ?_
          refine wp_ldO hs ?_
          refine wp_ldO hs ?_
          refine wp_must (by rw [bytesOf_size]; omega) ?_
          rw [Int.toNat_natCast, hcut]
          refine wp_slit1S hs (enc := encF) ⟨A.fs[i].name, A.fs[i].b.take la, la⟩ (fun y w' hs => ?_) (fun y w' hs => ⟨trivial, fun _ => run_ldO hs⟩)
          refine wp_untick ?_
          have hzl := hs.slen z (xs := (A.fs.take i).mapIdx fun i f => crashF ps f i) (enc := encF)
          refine wp_app' (xs := (A.fs.take i).mapIdx fun i f => crashF ps f i) (ys := [⟨A.fs[i].name, A.fs[i].b.take la, la⟩]) (enc := encF) hs (fun z w' hs => ?_) (by rw [List.length_mapIdx, List.length_take]; simp; omega)
          (repeat (first | with_reducible (first | refine wp_on ?_ | refine wp_nn ?_ | refine wp_nng ?_ | refine wp_ldO hs ?_ | refine wp_ldG hs ?_ | refine wp_untick ?_ | refine wp_tk hs fun _ hs => ?_ | refine wp_newO hs fun _ _ hs => ?_ | refine wp_boxO hs fun _ _ hs => ?_ | refine wp_stO hs fun _ hs => ?_ | refine wp_stG hs fun _ hs => ?_) | (apply wp_must; (focus first | trivial | omega | assumption)) | refine wp_ltw ?_ | refine wp_lt ?_))
          refine wp_lv ⟨z, ?_⟩
          rw [crash_take ps hil, hcr]
          exact hs.sub
        clear hs
        rintro _ w ⟨z, hs⟩
        refine wp_on ?_
        refine wp_dn (us' := [.int .i64 ((i + 1 : Nat) : Int)]) (by (try simp (disch := omega) only [w64]); first | rfl | (congr; omega)) ?_
        refine wp_lp (A.fs.length - (i + 1)) ?_
        exact ⟨i + 1, z, rfl, by omega, rfl, hs⟩
      · refine wp_pass (wp_lv ?_)
        rw [List.take_of_length_le (by omega)] at hs
        have hs : Sat _ (rdk c (crashA A ps) :: _) := rdk_close z (A := crashA A ps) (l' := pt q (.cells #[.int .i64 A.room, x.v, .int .i64 A.left, .bool A.gone] T.towpathref04_Disk) :: slc T.towpathref04_File 3 x (A.fs.flatMap encF) :: r) hs
        have hs : Sat _ (rdk q A :: rdk c (crashA A ps) :: r) := rdk_close x hs
        exact hs.pick [1]
    · rintro _ w' hs
      refine wp_on ?_
      exact ⟨rfl, c, rfl, hs⟩

end
end Go.Dec

namespace Go.Dec
set_option linter.unusedVariables false
set_option linter.unusedSimpArgs false

section
variable {w : World} {l r r1 : List HP} {d q : Nat} {A A' : DiskA} {e : Int}

theorem ok_of (hs : Sat w (dk d A :: l)) : okA A := by obtain ⟨m, FS, hp, hok, hs⟩ := dk_open hs; exact hok

theorem same_c [hf : Fo l dk d A r] [hq : Fo r rdk q A r1] (hs : Sat w l) : Ret P F.towpathlaw04_same #[.pointer (some ⟨d, 0, none⟩), .pointer (some ⟨q, 0, none⟩)] w fun vs w' => vs = [.bool true] ∧ Sat w' (dk d A :: rdk q A :: r1) :=
  towpathlaw04_same_calls _ _ <| by
    unfold towpathlaw04_same
    have hs : Sat w (dk d A :: rdk q A :: r1) := hs.perm (hf.perm.trans (.cons _ hq.perm))
    have hok := ok_of hs
    refine wp_mid (fun v w' => v = (false, ()) ∧ Sat w' (dk d A :: rdk q A :: r1)) ?_ ?_
    · refine wp_tk hs fun w' hs => ?_
      refine wp_ifF ?_ (by simp)
      refine wp_call (used_c hs) fun _ _ hs => ?_
      obtain ⟨rfl, hs⟩ := hs
      refine ret_of ?_
      refine wp_call (rused_c hok hs) fun _ _ hs => ?_
      obtain ⟨rfl, hs⟩ := hs
      refine ret_of ?_
      refine wp_ifF ?_ (by simp)
      refine wp_call (free_c (d := d) (hs.pick [1])) fun _ _ hs => ?_
      obtain ⟨rfl, hs⟩ := hs
      refine ret_of ?_
      refine wp_call (rfree_c hok hs) fun _ _ hs => ?_
      obtain ⟨rfl, hs⟩ := hs
      refine ret_of ?_
      refine wp_nng ?_
      obtain ⟨x, hs⟩ := rdk_open hs
      refine wp_hdO hs ?_
      have hs : Sat _ (rdk q A :: dk d A :: r1) := rdk_close x hs
      refine wp_ifF ?_ (by simp)
      refine wp_call (gone_c (d := d) hs) fun _ w' hs => ?_
      obtain ⟨rfl, hs⟩ := hs
      refine ret_of ?_ ⟨trivial, fun _ => ?_⟩
      rotate_left
      · obtain ⟨x, hs⟩ := rdk_open (hs.pick [1])
        exact run_ldO hs
      refine wp_untick ?_
      refine wp_lv ⟨?_, hs⟩
      simp
    clear hs
    rintro _ w ⟨rfl, hs⟩
    refine wp_on ?_
    refine wp_ifF ?_ (by simp)
    refine wp_call (names_c (d := d) (ByteArray.mk #[]) hs) fun _ _ hs => ?_
    obtain ⟨nx, rfl, hs⟩ := hs
    refine ret_of ?_
    rw [namesF_all] at hs
    have hnl := hs.slen nx (xs := A.fs.map fun f : FileA => f.name) (enc := encT)
    rw [List.length_map] at hnl
    obtain ⟨x, hs⟩ := rdk_open (hs.pick [2])
    have hl := hs.slen x (xs := A.fs) (enc := encF)
    have hm := hok.many
    (repeat (first | with_reducible (first | refine wp_on ?_ | refine wp_nn ?_ | refine wp_nng ?_ | refine wp_ldO hs ?_ | refine wp_ldG hs ?_ | refine wp_untick ?_ | refine wp_tk hs fun _ hs => ?_ | refine wp_newO hs fun _ _ hs => ?_ | refine wp_boxO hs fun _ _ hs => ?_ | refine wp_stO hs fun _ hs => ?_ | refine wp_stG hs fun _ hs => ?_) | (apply wp_must; (focus first | trivial | omega | assumption)) | refine wp_ltw ?_ | refine wp_lt ?_))
    refine wp_ifF ?_ (by omega)
    (repeat (first | with_reducible (first | refine wp_on ?_ | refine wp_nn ?_ | refine wp_nng ?_ | refine wp_ldO hs ?_ | refine wp_ldG hs ?_ | refine wp_untick ?_ | refine wp_tk hs fun _ hs => ?_ | refine wp_newO hs fun _ _ hs => ?_ | refine wp_boxO hs fun _ _ hs => ?_ | refine wp_stO hs fun _ hs => ?_ | refine wp_stG hs fun _ hs => ?_) | (apply wp_must; (focus first | trivial | omega | assumption)) | refine wp_ltw ?_ | refine wp_lt ?_))
    refine wp_mid (fun v w' => Sat w' (dk d A :: rdk q A :: r1)) ?_ (by rintro _ w' hs; refine wp_on ?_; exact ⟨rfl, rfl, hs⟩)
    refine wp_loop (fun k v w => ∃ i : Nat, v = ((i : Int), ()) ∧ i ≤ A.fs.length ∧ A.fs.length - i = k ∧ Sat w (dk d A :: slc T.string 1 nx ((A.fs.map (·.name)).flatMap encT) :: pt q (.cells #[.int .i64 A.room, x.v, .int .i64 A.left, .bool A.gone] T.towpathref04_Disk) :: slc T.towpathref04_File 3 x (A.fs.flatMap encF) :: r1)) A.fs.length ⟨0, rfl, by omega, rfl, hs.pick [3, 2]⟩ ?_
    clear hs
    rintro k _ w ⟨i, rfl, hi, hk, hs⟩
    refine wp_on ?_
    refine wp_if (fun hc => ?_) fun hc => ?_
    rotate_left
    · refine wp_pass (wp_lv ?_)
      have hs : Sat _ (rdk q A :: dk d A :: r1) := rdk_close x hs
      exact hs.pick [1]
    have hil : i < A.fs.length := by omega
    refine wp_mid (fun v w' => Sat w' (dk d A :: slc T.string 1 nx ((A.fs.map (·.name)).flatMap encT) :: pt q (.cells #[.int .i64 A.room, x.v, .int .i64 A.left, .bool A.gone] T.towpathref04_Disk) :: slc T.towpathref04_File 3 x (A.fs.flatMap encF) :: r1)) ?_ ?_
    · refine wp_ixA hs i hil ?_
      refine wp_newO hs fun b w' hs => ?_
      refine wp_lt ?_
      refine wp_stG hs fun w' hs => ?_
      refine wp_ldO hs ?_
      refine wp_call (read_c (d := d) A.fs[i].name hs) fun vs w' h => ?_
      rcases h with ⟨f, hf1, hfn, z, rfl, hs⟩ | ⟨hno, -⟩
      rotate_left
      · exact absurd rfl (hno _ (List.getElem_mem hil))
      have hff : f = A.fs[i] := by
        have h1 := find_name (names_nodup hok.sorted) hf1 hfn
        have h2 := find_name (names_nodup hok.sorted) (List.getElem_mem hil) rfl
        rw [h1] at h2; exact Option.some.inj h2
      subst hff
      have hsz : sizeF A.fs A.fs[i].name = (A.fs[i].b.length, A.fs[i].kept) := by
        unfold sizeF
        rw [find_name (names_nodup hok.sorted) (List.getElem_mem hil) rfl]
      have hbi := used_mem (List.getElem_mem hil)
      have hu := hok.used
      have hzl := hs.slen z (xs := A.fs[i].b) (enc := encU)
      refine ret_of ?_
      refine wp_lt ?_
      refine wp_mid (fun v w' => v = (false, ()) ∧ Sat w' (slc T.uint8 1 z (A.fs[i].b.flatMap encU) :: dk d A :: slc T.string 1 nx ((A.fs.map (·.name)).flatMap encT) :: pt q (.cells #[.int .i64 A.room, x.v, .int .i64 A.left, .bool A.gone] T.towpathref04_Disk) :: slc T.towpathref04_File 3 x (A.fs.flatMap encF) :: r1)) ?_ ?_
      · refine wp_tk hs fun w' hs => ?_
        refine wp_ix1 hs i (by rw [List.length_map]; exact hil) ?_
        rw [List.getElem_map]
        refine wp_ldO hs ?_
        refine wp_ofB hs (bs := A.fs[i].b) ?_
        refine wp_ldO hs ?_
        refine wp_ldO hs ?_
        refine wp_hdO hs ?_
        refine wp_ifF ?_ (fun h => h.elim (fun h => h.elim (fun h => h rfl) fun h => h rfl) fun h => h rfl)
        refine wp_call (size_c (d := d) A.fs[i].name hs) fun _ w' hs => ?_
        obtain ⟨rfl, hs⟩ := hs
        rw [hsz]
        refine ret_of ?_ ⟨trivial, fun _ => run_ldO hs⟩
        refine wp_ldO hs ?_
        refine wp_hdO hs ?_
        refine wp_ifF ?_ (by rw [bytesOf_size]; simp)
        refine wp_call (kept_c (d := d) A.fs[i].name hs) fun _ w' hs => ?_
        obtain ⟨rfl, hs⟩ := hs
        rw [hsz]
        refine ret_of ?_ ⟨⟨trivial, fun _ => run_ldO hs⟩, fun _ => run_ldO hs⟩
        refine wp_untick ?_
        refine wp_lv ⟨by simp, hs.sub⟩
      clear hs
      rintro _ w ⟨rfl, hs⟩
      refine wp_on ?_
      refine wp_ifF ?_ (by simp)
      refine wp_mid (fun v w' => Sat w' (dk d A :: slc T.string 1 nx ((A.fs.map (·.name)).flatMap encT) :: pt q (.cells #[.int .i64 A.room, x.v, .int .i64 A.left, .bool A.gone] T.towpathref04_Disk) :: slc T.towpathref04_File 3 x (A.fs.flatMap encF) :: r1)) ?_ ?_
      · refine wp_loop (fun k v w => ∃ (j : Nat) (bs : List UInt8), v = ((j : Int), ()) ∧ j ≤ A.fs[i].b.length ∧ A.fs[i].b.length - j = k ∧ bs.length = A.fs[i].b.length ∧ Sat w (slc T.uint8 1 z (bs.flatMap encU) :: dk d A :: slc T.string 1 nx ((A.fs.map (·.name)).flatMap encT) :: pt q (.cells #[.int .i64 A.room, x.v, .int .i64 A.left, .bool A.gone] T.towpathref04_Disk) :: slc T.towpathref04_File 3 x (A.fs.flatMap encF) :: r1)) A.fs[i].b.length ⟨0, _, rfl, by omega, rfl, rfl, hs⟩ ?_
        clear hs
        rintro k _ w ⟨j, bs, rfl, hj, hk, hbl, hs⟩
        refine wp_on ?_
        refine wp_if (fun hc => ?_) fun hc => ?_
        · have hc : (j : Int) < ((z.len : Nat) : Int) := hc
          refine wp_lt ?_
          refine wp_ixS hs j (by omega) (7 : UInt8) fun w' hs => ?_
          refine wp_dn (us' := [.int .i64 ((j + 1 : Nat) : Int)]) (by (try simp (disch := omega) only [w64]); first | rfl | (congr; omega)) ?_
          refine wp_lp (A.fs[i].b.length - (j + 1)) ?_
          exact ⟨j + 1, _, rfl, by omega, rfl, by rw [List.length_set]; exact hbl, hs⟩
        · exact wp_pass (wp_lv hs.sub)
      clear hs
      rintro _ w hs
      refine wp_on ?_
      exact wp_lv hs
    clear hs
    rintro _ w hs
    refine wp_on ?_
    refine wp_dn (us' := [.int .i64 ((i + 1 : Nat) : Int)]) (by (try simp (disch := omega) only [w64]); first | rfl | (congr; omega)) ?_
    refine wp_lp (A.fs.length - (i + 1)) ?_
    exact ⟨i + 1, rfl, by omega, rfl, hs⟩

end
end Go.Dec

namespace Go.Dec
set_option linter.unusedVariables false
set_option linter.unusedSimpArgs false

/-- A call, as the law is handed it. -/
structure OpM where
  kind : Int
  a : ByteArray
  b : ByteArray
  s : ByteArray
  n : Int
  px : Sl
  ps : List Int
def encOp (o : OpM) : List Value := [.int .i64 o.kind, .string o.a, .string o.b, .string o.s, .int .i64 o.n, .slice o.px.a o.px.len o.px.cap]
instance : EncA encOp [.int .i64, .str, .str, .str, .int .i64, .slc] (fun o => (o.kind, o.a, o.b, o.s, o.n, o.px, ())) := ⟨fun _ => rfl⟩
instance : EncN encOp 6 := ⟨fun _ => rfl, by decide, by simp [encOp, Value.oneCell']⟩
def cutPx (x : Sl) : Sl := if x.len > 10 then ⟨x.a, 10, x.cap⟩ else x
def cutOp (o : OpM) : OpM := ⟨o.kind, shortS o.a 40, shortS o.b 40, shortS o.s 300, o.n, cutPx o.px, o.ps.take 10⟩
structure OpOk (o : OpM) : Prop where
  s : o.s.size ≤ 300
  a : o.a.size ≤ 40
  b : o.b.size ≤ 40
  ps : o.ps.length ≤ 10
  n : -9223372036854775808 ≤ o.n ∧ o.n ≤ 9223372036854775807
theorem ok_cut (o : OpM) (hn : -9223372036854775808 ≤ o.n ∧ o.n ≤ 9223372036854775807) : OpOk (cutOp o) :=
  ⟨shortS_size _ _, shortS_size _ _, shortS_size _ _, by show (o.ps.take 10).length ≤ 10; rw [List.length_take]; omega, hn⟩

/-- One call. -/
def stepA (A : DiskA) (o : OpM) : DiskA :=
  if o.kind = 0 ∨ o.kind = 1 then (appendA A o.a o.s.data.toList).2 else if o.kind = 2 then (syncA A [o.a]).2 else if o.kind = 3 then (syncA A []).2 else if o.kind = 4 then (cutA' A o.a o.n).2 else
  if o.kind = 5 then (renA A o.a o.b).2 else if o.kind = 6 then (remA A o.a).2 else if o.kind = 7 then (if o.n < 0 ∨ o.n > 4194304 then A else { A with room := o.n.toNat }) else if o.kind = 8 then fuseA A o.n else
  if o.kind = 9 then crashA A o.ps else A

theorem halves (s : ByteArray) (k : Nat) : [(ByteArray.extract s 0 k).data.toList, (ByteArray.extract s k s.size).data.toList].flatten = s.data.toList := by
  have : s.size = s.data.size := rfl
  simp only [List.flatten_cons, List.flatten_nil, List.append_nil, ByteArray.data_extract, Array.toList_extract, List.extract_eq_take_drop, List.drop_zero, Nat.sub_zero]
  rw [this, ← Array.length_toList, ← List.length_drop, List.take_length, List.take_append_drop]
theorem half_len (s : ByteArray) (a b : Nat) : (ByteArray.extract s a b).data.toList.length ≤ s.size := by
  have : (ByteArray.extract s a b).data.toList.length = (ByteArray.extract s a b).size := Array.length_toList
  rw [this, ByteArray.size_extract]; omega
theorem bytesOf_toList (s : ByteArray) : bytesOf s.data.toList = s := bytes_ext (by simp [bytesOf])

section
variable {P : Program} {w : World} {l r : List HP} {Q : Post} {S : World → Prop} {t ts e T : TypeId} {sz : Nat}
theorem wp_actS {m : Sem Value} {k : Sl → Prog} {R : Sl → World → Prop} (h0 : (Prog.act m sL (u1 fun x => .done 0 [x.v])).wp P tt w fun _ vs w' => ∃ x : Sl, vs = [x.v] ∧ R x w') (hS : ∀ x w', R x w' → S w') (h : ∀ x w', R x w' → (k x).wp P S w' Q) :
    (Prog.act m sL (u1 k)).wp P S w Q := by
  obtain ⟨⟨y, ⟨⟩⟩, w', h1, -, x, hx, hR⟩ := h0
  obtain rfl : y = x := by cases y; cases x; simpa [Sl.v] using hx
  exact ⟨(y, ()), w', h1, hS y w' hR, h y w' hR⟩
/-- '[]byte(s)', what is held kept. -/
theorem wp_toBS [ht : ByE P t e] [hst : StT P ts] {s : ByteArray} {k : Sl → Prog} (hs : Sat w l) (h : ∀ x w', Sat w' (slc e 1 x (s.data.toList.flatMap encU) :: l) → (k x).wp P S w' Q) (hS : ∀ x w', Sat w' (slc e 1 x (s.data.toList.flatMap encU) :: l) → S w') :
    (Prog.act (convert ts t (.string s)) sL (u1 k)).wp P S w Q :=
  wp_actS (R := fun x w' => Sat w' (slc e 1 x (s.data.toList.flatMap encU) :: l)) (wp_toB hs fun x w' hs => ⟨x, rfl, hs⟩) hS h
/-- A slice literal, what is held kept. -/
theorem wp_slxS {α : Type} {enc : α → List Value} {n : Nat} {ps : Array (Nat × Value)} {el : TypeId} {bytes : Nat} {cs : Array Value} {k : Sl → Prog} (hs : Sat w l) [ht : SlT P t el sz bytes] [hE : EncN enc sz] (xs : List α) (hc : bsCells P t n ps = some (el, cs))
    (h : ∀ x w', Sat w' (slc el sz x (xs.flatMap enc) :: l) → (k x).wp P S w' Q) (hS : ∀ x w', Sat w' (slc el sz x (xs.flatMap enc) :: l) → S w') (hx : xs.flatMap enc = cs.toList := by rfl) (hn : xs.length = n := by rfl) :
    (Prog.act (Instr.buildSlice t n ps) sL (u1 k)).wp P S w Q :=
  wp_actS (R := fun x w' => Sat w' (slc el sz x (xs.flatMap enc) :: l)) (wp_slx hs xs hc (fun x w' hs => ⟨x, rfl, hs⟩) hx hn) hS h
end

section
variable {w : World} {l r r1 : List HP} {d q : Nat} {A A' : DiskA} {e : Int}

theorem small_c (o : OpM) (hcap : o.px.len ≤ o.px.cap) (hs : Sat w l) : Ret P F.towpathlaw04_small #[.agg (encOp o).toArray] w fun vs w' => vs = [.agg (encOp (cutOp o)).toArray] ∧ Sat w' l :=
  towpathlaw04_small_calls o.kind o.a o.b o.s o.n o.px <| by
    unfold towpathlaw04_small
    refine wp_boxO hs fun a0 w' hs => ?_
    refine wp_newO hs fun a1 w' hs => ?_
    refine wp_ldO hs ?_
    refine wp_call (short_c o.s 300 hs) fun _ _ hs => ?_
    obtain ⟨rfl, hs⟩ := hs
    refine ret_of ?_
    refine wp_stO hs fun w' hs => ?_
    refine wp_mid (fun _ w' => Sat w' (pt a0 (.cells #[.int .i64 o.kind, .string (shortS o.a 40), .string (shortS o.b 40), .string (shortS o.s 300), .int .i64 o.n, .slice o.px.a o.px.len o.px.cap] T.towpathlaw04_Op) :: pt a1 (.cells #[.int .i64 0, .string (ByteArray.mk #[]), .string (ByteArray.mk #[]), .string (ByteArray.mk #[]), .int .i64 0, .slice none 0 0] T.towpathlaw04_Op) :: l)) ?_ ?_
    · refine wp_tk hs fun w' hs => ?_
      refine wp_ldO hs ?_
      refine wp_hdO hs ?_
      refine wp_call (short_c o.a 40 hs) fun _ w' hs => ?_
      obtain ⟨rfl, hs⟩ := hs
      refine ret_of ?_ ⟨trivial, fun _ => run_ldO hs⟩
      refine wp_untick ?_
      refine wp_call (short_c o.b 40 hs) fun _ _ hs => ?_
      obtain ⟨rfl, hs⟩ := hs
      refine ret_of ?_
      refine wp_stO hs fun w' hs => ?_
      refine wp_stO hs fun w' hs => ?_
      refine wp_untick ?_
      exact wp_lv hs
    clear hs
    rintro _ w hs
    refine wp_on ?_
    refine wp_ldO hs ?_
    refine wp_mid (fun _ w' => Sat w' (pt a0 (.cells #[.int .i64 o.kind, .string (shortS o.a 40), .string (shortS o.b 40), .string (shortS o.s 300), .int .i64 o.n, .slice (cutPx o.px).a (cutPx o.px).len (cutPx o.px).cap] T.towpathlaw04_Op) :: pt a1 (.cells #[.int .i64 0, .string (ByteArray.mk #[]), .string (ByteArray.mk #[]), .string (ByteArray.mk #[]), .int .i64 0, .slice none 0 0] T.towpathlaw04_Op) :: l)) ?_ ?_
    · refine wp_if (fun h => ?_) fun h => ?_
      · have e : cutPx o.px = ⟨o.px.a, 10, o.px.cap⟩ := by unfold cutPx; rw [if_pos (by omega)]
        rw [e]
        refine wp_ldO hs ?_
        refine wp_must (by omega) ?_
        refine wp_stO hs fun w' hs => ?_
        exact wp_lv hs
      · have e : cutPx o.px = o.px := by unfold cutPx; rw [if_neg (by omega)]
        rw [e]
        exact wp_lv hs
    clear hs
    rintro _ w hs
    refine wp_on ?_
    refine wp_ldG hs ?_
    refine wp_stG hs fun w' hs => ?_
    refine wp_ldG hs ?_
    exact ⟨rfl, rfl, hs.sub⟩

end
end Go.Dec

namespace Go.Dec
set_option linter.unusedVariables false
set_option linter.unusedSimpArgs false

section
variable {w : World} {l r r1 : List HP} {d q : Nat} {A A' : DiskA} {e : Int}

theorem step_c (o : OpM) (ho : OpOk o) [hf : Fo l dk d A r] [hq : Fo r rdk q A r1] [hpx : FocR r1 o.px 1 (o.ps.flatMap encI)] (hs : Sat w l) :
    Ret P F.towpathlaw04_step #[.pointer (some ⟨d, 0, none⟩), .pointer (some ⟨q, 0, none⟩), .agg (encOp o).toArray] w fun vs w' =>
      ∃ d' q', vs = [.pointer (some ⟨d', 0, none⟩), .pointer (some ⟨q', 0, none⟩), .bool true] ∧ Sat w' (dk d' (stepA A o) :: rdk q' (stepA A o) :: r1) ∧ (o.kind ≠ 9 → d' = d ∧ q' = q) :=
  towpathlaw04_step_calls _ _ o.kind o.a o.b o.s o.n o.px <| by
    unfold towpathlaw04_step
    have hs : Sat w (dk d A :: rdk q A :: r1) := hs.perm (hf.perm.trans (.cons _ hq.perm))
    have hok := ok_of hs
    obtain ⟨hos, hoa, hob, hops, hon⟩ := ho
    refine wp_boxO hs fun a0 w' hs => ?_
    refine wp_ldO hs ?_
    refine wp_lt ?_
    refine wp_mid (fun v w' => v = (decide (o.kind = 0 ∨ o.kind = 1), ()) ∧ Sat w' (pt a0 (.cells #[.int .i64 o.kind, .string o.a, .string o.b, .string o.s, .int .i64 o.n, .slice o.px.a o.px.len o.px.cap] T.towpathlaw04_Op) :: dk d A :: rdk q A :: r1)) ?_ ?_
    · refine wp_if (fun h => ?_) fun h => ?_
      · exact wp_lv ⟨by simp [h], hs⟩
      · refine wp_lt ?_
        exact wp_lv ⟨by simp [h]; rfl, hs⟩
    clear hs
    rintro _ w ⟨rfl, hs⟩
    refine wp_on ?_
    refine wp_if (fun hk => ?_) fun hk => ?_
    · have hst : stepA A o = (appendA A o.a o.s.data.toList).2 := by unfold stepA; rw [if_pos hk]
      rw [hst]
      have hN : o.kind ≠ 9 := by omega
      refine wp_ldO hs ?_
      refine wp_ltx (y := ((o.s.size / 2 : Nat) : Int)) ?_ (by rw [Int.tdiv_eq_ediv_of_nonneg (by omega), w64 (by omega) (by omega)]; omega)
      refine wp_mid (fun v w' => v = (some ⟨d, 0, none⟩, some ⟨q, 0, none⟩, true, ()) ∧ Sat w' (dk d (appendA A o.a o.s.data.toList).2 :: rdk q (appendA A o.a o.s.data.toList).2 :: r1)) ?_ ?_
      · refine wp_tk hs fun w' hs => ?_
        refine wp_hdO hs ?_
        refine wp_hdO hs ?_
        refine wp_must (by omega) ?_
        refine wp_hdO hs ?_
        refine wp_must (by omega) ?_
        refine wp_hdO hs ?_
        refine wp_hdO hs ?_
        rw [Int.toNat_natCast]
        have hfl := halves o.s (o.s.size / 2)
        have hl1 := half_len o.s 0 (o.s.size / 2)
        have hl2 := half_len o.s (o.s.size / 2) o.s.size
        have hsum : ∀ b ∈ [(ByteArray.extract o.s 0 (o.s.size / 2)).data.toList, (ByteArray.extract o.s (o.s.size / 2) o.s.size).data.toList], b.length ≤ 100000000 := fun b hb => by
          rcases List.mem_cons.1 hb with rfl | hb
          · omega
          · rw [List.mem_singleton.1 hb]; omega
        have hRA : ∀ {w : World} {l r : List HP} [Fo l rdk q A r] (hs : Sat w l), Ret P F.towpathref04_Disk_Append #[.pointer (some ⟨q, 0, none⟩), .string o.a, .string o.s] w fun vs w' => vs = [.int .i64 (appendA A o.a o.s.data.toList).1] ∧ Sat w' (rdk q (appendA A o.a o.s.data.toList).2 :: r) := fun {w l r} _ hs => by
          have h := rappend_c (q := q) (A := A) o.a o.s.data.toList (by have : o.s.data.toList.length = o.s.size := Array.length_toList; omega) (by omega) hok hs
          rw [bytesOf_toList] at h
          exact h
        refine wp_both ?_ ?_
        · refine wp_toBS hs (fun x1 w' hs => ?_) (fun y w' hs => ⟨⟨⟨⟨⟨trivial, fun _ => run_ldO hs⟩, fun _ => run_ldO hs⟩, fun _ => run_ldO hs⟩, fun _ => run_ldO hs⟩, fun _ => run_ldO hs⟩)
          refine wp_toBS hs (fun x2 w' hs => ?_) (fun y w' hs => ⟨⟨⟨⟨⟨trivial, fun _ => run_ldO hs⟩, fun _ => run_ldO hs⟩, fun _ => run_ldO hs⟩, fun _ => run_ldO hs⟩, fun _ => run_ldO hs⟩)
          refine wp_slxS hs (enc := encL) (cs := #[x1.v, x2.v]) [x1, x2] (by kernel_rfl) (fun y1 w' hs => ?_) (fun y w' hs => ⟨⟨⟨⟨⟨trivial, fun _ => run_ldO hs⟩, fun _ => run_ldO hs⟩, fun _ => run_ldO hs⟩, fun _ => run_ldO hs⟩, fun _ => run_ldO hs⟩)
          refine wp_call (append_c (d := d) (A := A) o.a y1 [x1, x2] [(ByteArray.extract o.s 0 (o.s.size / 2)).data.toList, (ByteArray.extract o.s (o.s.size / 2) o.s.size).data.toList] rd2 (by simp) hsum hs) fun _ w' hs => ?_
          obtain ⟨rfl, hs⟩ := hs
          refine ret_of ?_ ⟨⟨⟨⟨⟨trivial, fun _ => run_ldO hs⟩, fun _ => run_ldO hs⟩, fun _ => run_ldO hs⟩, fun _ => run_ldO hs⟩, fun _ => run_ldO hs⟩
          rw [hfl] at hs ⊢
          refine wp_untick ?_
          refine wp_call (hRA hs) fun _ _ hs => ?_
          obtain ⟨rfl, hs⟩ := hs
          refine ret_of ?_
          refine wp_lt ?_
          refine wp_untick ?_
          exact wp_lv ⟨by simp, hs.sub⟩
        · refine wp_toBS hs (fun x2 w' hs => ?_) (fun y w' hs => ⟨⟨⟨⟨⟨trivial, fun _ => run_ldO hs⟩, fun _ => run_ldO hs⟩, fun _ => run_ldO hs⟩, fun _ => run_ldO hs⟩, fun _ => run_ldO hs⟩)
          refine wp_toBS hs (fun x1 w' hs => ?_) (fun y w' hs => ⟨⟨⟨⟨⟨trivial, fun _ => run_ldO hs⟩, fun _ => run_ldO hs⟩, fun _ => run_ldO hs⟩, fun _ => run_ldO hs⟩, fun _ => run_ldO hs⟩)
          refine wp_slxS hs (enc := encL) (cs := #[x1.v, x2.v]) [x1, x2] (by kernel_rfl) (fun y1 w' hs => ?_) (fun y w' hs => ⟨⟨⟨⟨⟨trivial, fun _ => run_ldO hs⟩, fun _ => run_ldO hs⟩, fun _ => run_ldO hs⟩, fun _ => run_ldO hs⟩, fun _ => run_ldO hs⟩)
          refine wp_call (append_c (d := d) (A := A) o.a y1 [x1, x2] [(ByteArray.extract o.s 0 (o.s.size / 2)).data.toList, (ByteArray.extract o.s (o.s.size / 2) o.s.size).data.toList] rd2 (by simp) hsum hs) fun _ w' hs => ?_
          obtain ⟨rfl, hs⟩ := hs
          refine ret_of ?_ ⟨⟨⟨⟨⟨trivial, fun _ => run_ldO hs⟩, fun _ => run_ldO hs⟩, fun _ => run_ldO hs⟩, fun _ => run_ldO hs⟩, fun _ => run_ldO hs⟩
          rw [hfl] at hs ⊢
          refine wp_untick ?_
          refine wp_call (hRA hs) fun _ _ hs => ?_
          obtain ⟨rfl, hs⟩ := hs
          refine ret_of ?_
          refine wp_lt ?_
          refine wp_untick ?_
          exact wp_lv ⟨by simp, hs.sub⟩
      · rintro _ w' ⟨rfl, hs⟩
        refine wp_on ?_
        exact ⟨rfl, d, q, rfl, hs, fun _ => ⟨rfl, rfl⟩⟩
    refine wp_lt ?_
    refine wp_if (fun h2 => ?_) fun h2 => ?_
    · have hst : stepA A o = (syncA A [o.a]).2 := by unfold stepA; rw [if_neg hk, if_pos h2]
      rw [hst]
      refine wp_mid (fun v w' => v = (some ⟨d, 0, none⟩, some ⟨q, 0, none⟩, true, ()) ∧ Sat w' (dk d (syncA A [o.a]).2 :: rdk q (syncA A [o.a]).2 :: r1)) ?_ ?_
      · refine wp_tk hs fun w' hs => ?_
        refine wp_hdO hs ?_
        refine wp_hdO hs ?_
        refine wp_both ?_ ?_
        · refine wp_slit1S hs (enc := encT) o.a (fun x1 w' hs => ?_) (fun x1 w' hs => ⟨⟨trivial, fun _ => run_ldO hs⟩, fun _ => run_ldO hs⟩)
          refine wp_both ?_ ?_
          · refine wp_call (sync_c (d := d) x1 [o.a] (by simp) hs) fun _ w' hs => ?_
            obtain ⟨rfl, hs⟩ := hs
            refine ret_of ?_ ⟨⟨trivial, fun _ => run_ldO hs⟩, fun _ => run_ldO hs⟩
            refine wp_slit1S hs (enc := encT) o.a (fun x2 w' hs => ?_) (fun x1 w' hs => ⟨⟨trivial, fun _ => run_ldO hs⟩, fun _ => run_ldO hs⟩)
            refine wp_untick ?_
            refine wp_call (rsync_c (q := q) x2 [o.a] (by simp) hok hs) fun _ _ hs => ?_
            obtain ⟨rfl, hs⟩ := hs
            refine ret_of ?_
            refine wp_lt ?_
            refine wp_untick ?_
            exact wp_lv ⟨by simp, hs.sub⟩
          · refine wp_slit1S hs (enc := encT) o.a (fun x2 w' hs => ?_) (fun x1 w' hs => ⟨⟨trivial, fun _ => run_ldO hs⟩, fun _ => run_ldO hs⟩)
            refine wp_call (sync_c (d := d) x1 [o.a] (by simp) hs) fun _ w' hs => ?_
            obtain ⟨rfl, hs⟩ := hs
            refine ret_of ?_ ⟨⟨trivial, fun _ => run_ldO hs⟩, fun _ => run_ldO hs⟩
            refine wp_untick ?_
            refine wp_call (rsync_c (q := q) x2 [o.a] (by simp) hok hs) fun _ _ hs => ?_
            obtain ⟨rfl, hs⟩ := hs
            refine ret_of ?_
            refine wp_lt ?_
            refine wp_untick ?_
            exact wp_lv ⟨by simp, hs.sub⟩
        · refine wp_slit1S hs (enc := encT) o.a (fun x2 w' hs => ?_) (fun x1 w' hs => ⟨⟨trivial, fun _ => run_ldO hs⟩, fun _ => run_ldO hs⟩)
          refine wp_slit1S hs (enc := encT) o.a (fun x1 w' hs => ?_) (fun x1 w' hs => ⟨⟨trivial, fun _ => run_ldO hs⟩, fun _ => run_ldO hs⟩)
          refine wp_call (sync_c (d := d) x1 [o.a] (by simp) hs) fun _ w' hs => ?_
          obtain ⟨rfl, hs⟩ := hs
          refine ret_of ?_ ⟨⟨trivial, fun _ => run_ldO hs⟩, fun _ => run_ldO hs⟩
          refine wp_untick ?_
          refine wp_call (rsync_c (q := q) x2 [o.a] (by simp) hok hs) fun _ _ hs => ?_
          obtain ⟨rfl, hs⟩ := hs
          refine ret_of ?_
          refine wp_lt ?_
          refine wp_untick ?_
          exact wp_lv ⟨by simp, hs.sub⟩
      · rintro _ w' ⟨rfl, hs⟩
        refine wp_on ?_
        exact ⟨rfl, d, q, rfl, hs, fun _ => ⟨rfl, rfl⟩⟩
    refine wp_lt ?_
    refine wp_if (fun h3 => ?_) fun h3 => ?_
    · have hst : stepA A o = (syncA A []).2 := by unfold stepA; rw [if_neg hk, if_neg h2, if_pos h3]
      rw [hst]
      refine wp_call (sync_c (d := d) ⟨none, 0, 0⟩ [] (by simp) hs) fun _ _ hs => ?_
      obtain ⟨rfl, hs⟩ := hs
      refine ret_of ?_
      refine wp_call (rsync_c (q := q) ⟨none, 0, 0⟩ [] (by simp) hok hs) fun _ _ hs => ?_
      obtain ⟨rfl, hs⟩ := hs
      refine ret_of ?_
      refine wp_lt ?_
      exact ⟨rfl, d, q, by simp, hs.sub, fun _ => ⟨rfl, rfl⟩⟩
    refine wp_lt ?_
    refine wp_if (fun h4 => ?_) fun h4 => ?_
    · have hst : stepA A o = (cutA' A o.a o.n).2 := by unfold stepA; rw [if_neg hk, if_neg h2, if_neg h3, if_pos h4]
      rw [hst]
      refine wp_mid (fun v w' => v = (some ⟨d, 0, none⟩, some ⟨q, 0, none⟩, true, ()) ∧ Sat w' (dk d (cutA' A o.a o.n).2 :: rdk q (cutA' A o.a o.n).2 :: r1)) ?_ ?_
      · refine wp_tk hs fun w' hs => ?_
        refine wp_ldO hs ?_
        refine wp_ldO hs ?_
        refine wp_hdO hs ?_
        refine wp_hdO hs ?_
        refine wp_call (cut_c (d := d) (A := A) o.a o.n hs) fun _ w' hs => ?_
        obtain ⟨rfl, hs⟩ := hs
        refine ret_of ?_ ⟨⟨trivial, fun _ => run_ldO hs⟩, fun _ => run_ldO hs⟩
        refine wp_untick ?_
        refine wp_call (rcut_c (q := q) (A := A) o.a o.n hok hs) fun _ _ hs => ?_
        obtain ⟨rfl, hs⟩ := hs
        refine ret_of ?_
        refine wp_lt ?_
        refine wp_untick ?_
        exact wp_lv ⟨by simp, hs.sub⟩
      · rintro _ w' ⟨rfl, hs⟩
        refine wp_on ?_
        exact ⟨rfl, d, q, rfl, hs, fun _ => ⟨rfl, rfl⟩⟩
    refine wp_lt ?_
    refine wp_if (fun h5 => ?_) fun h5 => ?_
    · have hst : stepA A o = (renA A o.a o.b).2 := by unfold stepA; rw [if_neg hk, if_neg h2, if_neg h3, if_neg h4, if_pos h5]
      rw [hst]
      refine wp_mid (fun v w' => v = (some ⟨d, 0, none⟩, some ⟨q, 0, none⟩, true, ()) ∧ Sat w' (dk d (renA A o.a o.b).2 :: rdk q (renA A o.a o.b).2 :: r1)) ?_ ?_
      · refine wp_tk hs fun w' hs => ?_
        refine wp_ldO hs ?_
        refine wp_ldO hs ?_
        refine wp_hdO hs ?_
        refine wp_hdO hs ?_
        refine wp_call (rename_c (d := d) (A := A) o.a o.b hs) fun _ w' hs => ?_
        obtain ⟨rfl, hs⟩ := hs
        refine ret_of ?_ ⟨⟨trivial, fun _ => run_ldO hs⟩, fun _ => run_ldO hs⟩
        refine wp_untick ?_
        refine wp_call (rrename_c (q := q) (A := A) o.a o.b (by omega) hok hs) fun _ _ hs => ?_
        obtain ⟨rfl, hs⟩ := hs
        refine ret_of ?_
        refine wp_lt ?_
        refine wp_untick ?_
        exact wp_lv ⟨by simp, hs.sub⟩
      · rintro _ w' ⟨rfl, hs⟩
        refine wp_on ?_
        exact ⟨rfl, d, q, rfl, hs, fun _ => ⟨rfl, rfl⟩⟩
    refine wp_lt ?_
    refine wp_if (fun h6 => ?_) fun h6 => ?_
    · have hst : stepA A o = (remA A o.a).2 := by unfold stepA; rw [if_neg hk, if_neg h2, if_neg h3, if_neg h4, if_neg h5, if_pos h6]
      rw [hst]
      refine wp_mid (fun v w' => v = (some ⟨d, 0, none⟩, some ⟨q, 0, none⟩, true, ()) ∧ Sat w' (dk d (remA A o.a).2 :: rdk q (remA A o.a).2 :: r1)) ?_ ?_
      · refine wp_tk hs fun w' hs => ?_
        refine wp_ldO hs ?_
        refine wp_hdO hs ?_
        refine wp_call (remove_c (d := d) (A := A) o.a hs) fun _ w' hs => ?_
        obtain ⟨rfl, hs⟩ := hs
        refine ret_of ?_ ⟨trivial, fun _ => run_ldO hs⟩
        refine wp_untick ?_
        refine wp_call (rremove_c (q := q) (A := A) o.a hok hs) fun _ _ hs => ?_
        obtain ⟨rfl, hs⟩ := hs
        refine ret_of ?_
        refine wp_lt ?_
        refine wp_untick ?_
        exact wp_lv ⟨by simp, hs.sub⟩
      · rintro _ w' ⟨rfl, hs⟩
        refine wp_on ?_
        exact ⟨rfl, d, q, rfl, hs, fun _ => ⟨rfl, rfl⟩⟩
    refine wp_lt ?_
    refine wp_if (fun h7 => ?_) fun h7 => ?_
    · have hst : stepA A o = if o.n < 0 ∨ o.n > 4194304 then A else { A with room := o.n.toNat } := by unfold stepA; rw [if_neg hk, if_neg h2, if_neg h3, if_neg h4, if_neg h5, if_neg h6, if_pos h7]
      rw [hst]
      refine wp_ldO hs ?_
      refine wp_ldO hs ?_
      by_cases hr : o.n < 0 ∨ o.n > 4194304
      · refine wp_mid (fun v w' => v = (2, ()) ∧ Sat w' (pt a0 (.cells #[.int .i64 o.kind, .string o.a, .string o.b, .string o.s, .int .i64 o.n, .slice o.px.a o.px.len o.px.cap] T.towpathlaw04_Op) :: dk d A :: rdk q A :: r1)) ?_ ?_
        · refine wp_ifT ?_ hr
          exact wp_lv ⟨rfl, hs⟩
        clear hs
        rintro _ w ⟨rfl, hs⟩
        refine wp_on ?_
        refine wp_ldO hs ?_
        refine wp_call (room_no (d := d) o.n hr hs) fun _ _ hs => ?_
        obtain ⟨rfl, hs⟩ := hs
        refine ret_of ?_
        refine wp_lt ?_
        rw [if_pos hr]
        exact ⟨rfl, d, q, rfl, hs.sub, fun _ => ⟨rfl, rfl⟩⟩
      · obtain ⟨n, hn⟩ : ∃ n : Nat, o.n = n := ⟨o.n.toNat, by omega⟩
        refine wp_mid (fun v w' => v = (0, ()) ∧ Sat w' (pt a0 (.cells #[.int .i64 o.kind, .string o.a, .string o.b, .string o.s, .int .i64 o.n, .slice o.px.a o.px.len o.px.cap] T.towpathlaw04_Op) :: dk d A :: rdk q { A with room := n } :: r1)) ?_ ?_
        · refine wp_ifF ?_ hr
          refine wp_ldO hs ?_
          refine wp_nn ?_
          obtain ⟨x, hs⟩ := rdk_open (hs.pick [2])
          refine wp_stO hs fun w' hs => ?_
          refine wp_lv ⟨rfl, ?_⟩
          rw [hn] at hs ⊢
          have hs : Sat _ (rdk q { A with room := n } :: _) := rdk_close x (A := { A with room := n }) (l' := pt a0 (.cells #[.int .i64 o.kind, .string o.a, .string o.b, .string o.s, .int .i64 n, .slice o.px.a o.px.len o.px.cap] T.towpathlaw04_Op) :: dk d A :: r1) hs
          exact hs.pick [1, 1]
        clear hs
        rintro _ w ⟨rfl, hs⟩
        refine wp_on ?_
        refine wp_ldO hs ?_
        rw [hn]
        refine wp_call (room_ok (d := d) n (by omega) hs) fun _ _ hs => ?_
        obtain ⟨rfl, hs⟩ := hs
        refine ret_of ?_
        refine wp_lt ?_
        rw [if_neg (by omega), Int.toNat_natCast]
        exact ⟨rfl, d, q, rfl, hs.sub, fun _ => ⟨rfl, rfl⟩⟩
    refine wp_lt ?_
    refine wp_bind ?_
    refine wp_if (fun h8 => ?_) fun h8 => ?_
    · have hst : stepA A o = fuseA A o.n := by unfold stepA; rw [if_neg hk, if_neg h2, if_neg h3, if_neg h4, if_neg h5, if_neg h6, if_neg h7, if_pos h8]
      rw [hst]
      refine wp_ldO hs ?_
      refine wp_call (fuse_c (d := d) o.n hon hs) fun _ _ hs => ?_
      obtain ⟨rfl, hs⟩ := hs
      refine ret_of ?_
      refine wp_ldO hs ?_
      refine wp_call (rfuse_c (q := q) o.n hs) fun _ _ hs => ?_
      obtain ⟨rfl, hs⟩ := hs
      refine ret_of ?_
      refine wp_go ?_
      exact ⟨rfl, d, q, rfl, hs.sub, fun _ => ⟨rfl, rfl⟩⟩
    refine wp_lt ?_
    refine wp_if (fun h9 => ?_) fun h9 => ?_
    · have hst : stepA A o = crashA A o.ps := by unfold stepA; rw [if_neg hk, if_neg h2, if_neg h3, if_neg h4, if_neg h5, if_neg h6, if_neg h7, if_neg h8, if_pos h9]
      rw [hst]
      refine wp_mid (fun v w' => ∃ c c', v = (some ⟨c, 0, none⟩, some ⟨c', 0, none⟩, ()) ∧ Sat w' (dk c (crashA A o.ps) :: rdk c' (crashA A o.ps) :: dk d A :: rdk q A :: r1)) ?_ ?_
      · refine wp_tk hs fun w' hs => ?_
        refine wp_ldO hs ?_
        refine wp_hdO hs ?_
        refine wp_call (crash_c (d := d) (A := A) o.px o.ps (by omega) hs) fun _ w' hs => ?_
        obtain ⟨c, rfl, hs⟩ := hs
        refine ret_of ?_ ⟨trivial, fun _ => run_ldO hs⟩
        refine wp_untick ?_
        refine wp_call (rcrash_c (q := q) (A := A) o.px o.ps (by omega) hok hs) fun _ _ hs => ?_
        obtain ⟨c', rfl, hs⟩ := hs
        refine ret_of ?_
        refine wp_untick ?_
        exact wp_lv ⟨c, c', rfl, hs.sub⟩
      clear hs
      rintro _ w ⟨c, c', rfl, hs⟩
      refine wp_on ?_
      refine wp_mid (fun v w' => v = (some ⟨c, 0, none⟩, some ⟨c', 0, none⟩, true, ()) ∧ Sat w' (dk c (crashA A o.ps) :: rdk c' (crashA A o.ps) :: r1)) ?_ ?_
      · refine wp_call (same_c (d := d) (q := q) hs) fun _ _ hs => ?_
        obtain ⟨rfl, hs⟩ := hs
        refine ret_of ?_
        refine wp_ifT ?_ trivial
        refine wp_call (same_c (d := c) (q := c') hs) fun _ _ hs => ?_
        obtain ⟨rfl, hs⟩ := hs
        refine ret_of ?_
        refine wp_lt ?_
        exact wp_lv ⟨rfl, hs.sub⟩
      · rintro _ w' ⟨rfl, hs⟩
        refine wp_on ?_
        refine wp_pass ?_
        exact ⟨rfl, c, c', rfl, hs, fun h => absurd h9 h⟩
    · have hst : stepA A o = A := by unfold stepA; rw [if_neg hk, if_neg h2, if_neg h3, if_neg h4, if_neg h5, if_neg h6, if_neg h7, if_neg h8, if_neg h9]
      rw [hst]
      refine wp_go ?_
      exact ⟨rfl, d, q, rfl, hs.sub, fun _ => ⟨rfl, rfl⟩⟩

end
end Go.Dec

namespace Go.Dec
set_option linter.unusedVariables false
set_option linter.unusedSimpArgs false

/-- A call of the input's. -/
structure OpIn (l : List HP) (o : OpM) : Prop where
  n : -9223372036854775808 ≤ o.n ∧ o.n ≤ 9223372036854775807
  cap : o.px.len ≤ o.px.cap
  rd : ∀ w, Sat w l → Rd w 1 o.px (o.ps.flatMap encI)
instance {o : OpM} : IsR (sG [.int .i64, .str, .str, .str, .int .i64, .slc]) [.agg (encOp o).toArray] (o.kind, o.a, o.b, o.s, o.n, o.px, ()) := ⟨rfl⟩

section
variable {w : World} {l r r1 : List HP} {d q : Nat} {A A' : DiskA} {e : Int}

theorem cut_rd {o : OpM} (h : OpIn l o) (hs : Sat w l) : FocR l (cutOp o).px 1 ((cutOp o).ps.flatMap encI) := by
  have hR : FocR l o.px 1 (o.ps.flatMap encI) := ⟨h.rd⟩
  have hl := hs.slen o.px (xs := o.ps) (enc := encI)
  show FocR l (cutPx o.px) 1 ((o.ps.take 10).flatMap encI)
  unfold cutPx
  by_cases h10 : o.px.len > 10
  · rw [if_pos h10]
    exact FocR.pre (by omega)
  · rw [if_neg h10, List.take_of_length_le (by omega)]
    exact hR

theorem play_c (room : Int) (x : Sl) (ops : List OpM) (most : Int) [hx : FocR l x 6 (ops.flatMap encOp)] (hlen : ops.length ≤ 9223372036854775807) (hops : ∀ o ∈ ops, OpIn l o) (hs : Sat w l) :
    Ret P F.towpathlaw04_play #[.int .i64 room, x.v, .int .i64 most] w fun vs w' => ∃ d q A, vs = [.pointer (some ⟨d, 0, none⟩), .pointer (some ⟨q, 0, none⟩), .bool true] ∧ Sat w' (dk d A :: rdk q A :: l) :=
  towpathlaw04_play_calls room x most <| by
    unfold towpathlaw04_play
    have hl := hs.slen x (xs := ops) (enc := encOp)
    have ht : -5000 < Int.tmod room 5000 ∧ Int.tmod room 5000 < 5000 := by
      have h1 := Int.tmod_lt_of_pos room (b := 5000) (by decide)
      have h2 := Int.lt_tmod_of_pos room (b := 5000) (by decide)
      omega
    refine wp_lt ?_
    refine wp_mid (fun v w' => v = ((((Int.tmod room 5000).natAbs : Nat) : Int), ()) ∧ Sat w' l) ?_ ?_
    · refine wp_if (fun h => ?_) fun h => ?_
      · refine wp_ltx (y := (((Int.tmod room 5000).natAbs : Nat) : Int)) ?_ (by rw [w64 (by omega) (by omega)]; omega)
        exact wp_lv ⟨rfl, hs⟩
      · exact wp_lv ⟨by have : (((Int.tmod room 5000).natAbs : Nat) : Int) = Int.tmod room 5000 := by omega
                        rw [this], hs⟩
    clear hs
    rintro _ w ⟨rfl, hs⟩
    refine wp_on ?_
    refine wp_call (new_ok (Int.tmod room 5000).natAbs (by omega) hs) fun _ _ hs => ?_
    obtain ⟨d, rfl, hs⟩ := hs
    refine ret_of ?_
    refine wp_lt ?_
    refine wp_call (rnew_c (Int.tmod room 5000).natAbs hs) fun _ _ hs => ?_
    obtain ⟨q, rfl, hs⟩ := hs
    refine ret_of ?_
    generalize (Int.tmod room 5000).natAbs = n0 at hs
    refine wp_mid (fun v w' => v = (true, ()) ∧ Sat w' (dk d ⟨n0, -1, false, []⟩ :: rdk q ⟨n0, -1, false, []⟩ :: l)) ?_ ?_
    · refine wp_ifT ?_ rfl
      refine wp_call (same_c (d := d) (q := q) hs) fun _ _ hs => ?_
      obtain ⟨rfl, hs⟩ := hs
      refine ret_of ?_
      refine wp_lt ?_
      exact wp_lv ⟨rfl, hs.sub⟩
    clear hs
    rintro _ w ⟨rfl, hs⟩
    refine wp_on ?_
    refine wp_mid (fun v w' => ∃ d q A, v = (some ⟨d, 0, none⟩, some ⟨q, 0, none⟩, true, ()) ∧ Sat w' (dk d A :: rdk q A :: l)) ?_ ?_
    · refine wp_loop (fun k v w => ∃ (i d q : Nat) (A : DiskA), v = (some ⟨d, 0, none⟩, some ⟨q, 0, none⟩, true, (i : Int), ()) ∧ i ≤ ops.length ∧ ops.length - i = k ∧ Sat w (dk d A :: rdk q A :: l)) ops.length ⟨0, d, q, _, rfl, by omega, rfl, hs⟩ ?_
      clear hs
      rintro k _ w ⟨i, d, q, A, rfl, hi, hk, hs⟩
      refine wp_on ?_
      refine wp_if (fun hc => ?_) fun hc => ?_
      rotate_left
      · exact wp_pass (wp_lv ⟨d, q, A, rfl, hs⟩)
      have hil : i < ops.length := by omega
      have hin := hops _ (List.getElem_mem hil)
      refine wp_ixA hs i hil ?_
      refine wp_newO hs fun b w' hs => ?_
      refine wp_lt ?_
      refine wp_stG hs fun w' hs => ?_
      refine wp_if (fun h => ?_) fun h => ?_
      · exact wp_pass (wp_lv ⟨d, q, A, rfl, hs.sub⟩)
      refine wp_ldG hs ?_
      refine wp_call (small_c ops[i] hin.cap hs) fun _ w' hs => ?_
      obtain ⟨rfl, hs⟩ := hs
      refine ret_of ?_
      have hR : FocR l (cutOp ops[i]).px 1 ((cutOp ops[i]).ps.flatMap encI) := cut_rd hin hs.tail.tail.tail
      refine wp_call (step_c (d := d) (q := q) (cutOp ops[i]) (ok_cut _ hin.n) hs) fun _ w' hs => ?_
      obtain ⟨d', q', rfl, hs, -⟩ := hs
      refine ret_of ?_
      refine wp_lt ?_
      refine wp_mid (fun v w' => v = (true, ()) ∧ Sat w' (dk d' (stepA A (cutOp ops[i])) :: rdk q' (stepA A (cutOp ops[i])) :: l)) ?_ ?_
      · refine wp_ifT ?_ trivial
        refine wp_call (same_c (d := d') (q := q') hs) fun _ _ hs => ?_
        obtain ⟨rfl, hs⟩ := hs
        refine ret_of ?_
        refine wp_lt ?_
        exact wp_lv ⟨rfl, hs.sub⟩
      clear hs
      rintro _ w ⟨rfl, hs⟩
      refine wp_on ?_
      refine wp_dn (us' := [.pointer (some ⟨d', 0, none⟩), .pointer (some ⟨q', 0, none⟩), .bool true, .int .i64 ((i + 1 : Nat) : Int)]) (by (try simp (disch := omega) only [w64]); first | rfl | (congr; omega)) ?_
      refine wp_lp (ops.length - (i + 1)) ?_
      exact ⟨i + 1, d', q', _, rfl, by omega, rfl, hs⟩
    · rintro _ w' ⟨d, q, A, rfl, hs⟩
      refine wp_on ?_
      refine wp_lt ?_
      exact ⟨rfl, d, q, A, rfl, hs⟩

theorem plays_law (room : Int) (x : Sl) (ops : List OpM) [hx : FocR l x 6 (ops.flatMap encOp)] (hlen : ops.length ≤ 9223372036854775807) (hops : ∀ o ∈ ops, OpIn l o) (hs : Sat w l) :
    Ret P F.towpathlaw04_DiskPlays #[.int .i64 room, x.v] w fun vs w' => vs = [.bool true] ∧ Sat w' l :=
  towpathlaw04_DiskPlays_calls room x <| by
    unfold towpathlaw04_DiskPlays
    refine wp_call (play_c room x ops 60 hlen hops hs) fun _ _ hs => ?_
    obtain ⟨d, q, A, rfl, hs⟩ := hs
    refine ret_of ?_
    refine wp_lt ?_
    refine wp_mid (fun v w' => v = (true, ()) ∧ Sat w' l) ?_ (by rintro _ w' ⟨rfl, hs⟩; refine wp_on ?_; exact ⟨rfl, rfl, hs⟩)
    refine wp_ifT ?_ trivial
    refine wp_call (awake_c hs) fun _ _ hs => ?_
    obtain ⟨rfl, hs⟩ := hs
    refine ret_of ?_
    refine wp_lt ?_
    exact wp_lv ⟨rfl, hs.tail.tail⟩

end
end Go.Dec
