/- Disks: Append, Sync, Crash. Disks: Sync, Crash. Disks: Crash. Disks: the document's: New, Used, Free, At, with, without, done. Disks: the document's: with, without, Remove, Append, Fuse, Copy. Disks: the document's Remove, Fuse, Append, Rename, Copy. -/
import Derived.Test.YtnfaklmndojeaaaN3
namespace Go.Dec
set_option linter.unusedVariables false
set_option linter.unusedSimpArgs false

/-- Elements that are slices of bytes: a slice of them, and what they hold, one behind the other. -/
def encL (x : Sl) : List Value := [x.v]
instance : Enc1 encL .slc (fun x => x) := ⟨fun _ => rfl⟩
instance : EncN encL 1 := ⟨fun _ => rfl, by decide, by simp [encL, Value.oneCell']⟩

/-- Each of these slices can be read: bytes. -/
def RdAll (l : List HP) : List Sl → List (List UInt8) → Prop
  | [], [] => True
  | x :: xs, b :: bs => (∀ w, Sat w l → Rd w 1 x (b.flatMap encU)) ∧ RdAll l xs bs
  | _, _ => False
theorem RdAll.length {l : List HP} : ∀ {xs : List Sl} {bs : List (List UInt8)}, RdAll l xs bs → xs.length = bs.length
  | [], [], _ => rfl
  | _ :: _, _ :: _, h => by rw [List.length_cons, List.length_cons, h.2.length]
theorem RdAll.get {l : List HP} : ∀ {xs : List Sl} {bs : List (List UInt8)} (h : RdAll l xs bs) (i : Nat) (h1 : i < xs.length) (h2 : i < bs.length), ∀ w, Sat w l → Rd w 1 xs[i] (bs[i].flatMap encU)
  | _ :: _, _ :: _, h, 0, _, _ => h.1
  | _ :: _, _ :: _, h, i + 1, h1, h2 => h.2.get i (by simpa using h1) (by simpa using h2)

theorem sum_append (a b : List Nat) : (a ++ b).sum = a.sum + b.sum := by simp
theorem flatten_take_succ {bs : List (List UInt8)} {i : Nat} (hi : i < bs.length) : (bs.take (i + 1)).flatten = (bs.take i).flatten ++ bs[i] := by
  rw [List.take_add_one, List.getElem?_eq_getElem hi, List.flatten_append]; simp

section
variable {w : World} {l r r0 : List HP} {d : Nat} {A : DiskA}

theorem okA_append (hok : okA A) {n : ByteArray} (hn : nameF n = true) {bs : List UInt8} (hb : bs.length ≤ A.free) (hm : ¬ (hasF A.fs n = false ∧ A.fs.length ≥ 128)) :
    okA { A with fs := if hasF A.fs n then A.fs.map (updF n fun f => { f with b := f.b ++ bs }) else insF ⟨n, bs, 0⟩ A.fs } := by
  have hr := hok.room
  have hu := hok.used
  unfold DiskA.free at hb
  by_cases h : hasF A.fs n = true
  · rw [if_pos h]
    obtain ⟨f, hf, rfl⟩ := hasF_iff.1 h
    obtain ⟨s, u, hsu⟩ := List.append_of_mem hf
    have hpm : A.fs.Perm (f :: (s ++ u)) := by rw [hsu]; exact List.perm_middle
    have hnd := (hpm.map (·.name)).nodup_iff.1 (names_nodup hok.sorted)
    rw [List.map_cons, List.nodup_cons] at hnd
    have hne : ∀ g ∈ s ++ u, g.name ≠ f.name := fun g hg e => hnd.1 (List.mem_map.2 ⟨g, hg, e⟩)
    have h1 := used_upd (g := fun f => { f with b := f.b ++ bs }) hpm hne
    have h2 : used A.fs = f.b.length + used (s ++ u) := by rw [used_perm hpm, used_cons]
    refine ⟨hok.room, ?_, by show (A.fs.map _).length ≤ _; rw [List.length_map]; exact hok.many, hok.left, sorted_map (updF_name fun _ => rfl) hok.sorted, fun g hg => ?_, fun g hg => ?_⟩
    · show used (A.fs.map _) ≤ _
      rw [h1]
      show (f.b ++ bs).length + _ ≤ _
      rw [List.length_append]; omega
    · obtain ⟨g, hg', rfl⟩ := List.mem_map.1 hg
      have := hok.kept g hg'
      unfold updF
      split
      · show g.kept ≤ (g.b ++ bs).length; rw [List.length_append]; omega
      · exact this
    · obtain ⟨g, hg', rfl⟩ := List.mem_map.1 hg
      rw [updF_name (by intro _; rfl)]; exact hok.names g hg'
  · have h : hasF A.fs n = false := by simpa using h
    rw [if_neg (by rw [h]; simp)]
    have hne := hasF_not.1 h
    have hp := insF_perm ⟨n, bs, 0⟩ A.fs
    refine ⟨hok.room, ?_, ?_, hok.left, sorted_insF _ hne hok.sorted, fun g hg => ?_, fun g hg => ?_⟩
    · show used (insF _ _) ≤ _
      rw [used_perm hp, used_cons]; show bs.length + _ ≤ _; omega
    · show (insF _ _).length ≤ _
      rw [hp.length_eq, List.length_cons]
      have := hok.many
      have : A.fs.length ≠ 128 := fun e => hm ⟨h, by omega⟩
      omega
    · rcases mem_insF.1 hg with rfl | hg
      · exact Nat.zero_le _
      · exact hok.kept g hg
    · rcases mem_insF.1 hg with rfl | hg
      · exact nameF_size hn
      · exact hok.names g hg

theorem insF_upd (x : FileA) (g : FileA → FileA) (hg : (g x).name = x.name) : ∀ {fs : List FileA}, (∀ f ∈ fs, f.name ≠ x.name) → (insF x fs).map (updF x.name g) = insF (g x) fs
  | [], _ => by simp [insF, updF]
  | f :: r, h => by
    have hf : updF x.name g f = f := by rw [updF, if_neg (h f (List.mem_cons_self ..))]
    have hr : r.map (updF x.name g) = r := by
      conv => rhs; rw [← List.map_id r]
      exact List.map_congr_left fun y hy => by rw [updF, if_neg (h y (List.mem_cons_of_mem _ hy))]; rfl
    rw [insF, insF, hg]
    split
    · rw [List.map_cons, List.map_cons, hf, hr, updF, if_pos rfl]
    · rw [List.map_cons, hf, insF_upd x g hg fun y hy => h y (List.mem_cons_of_mem _ hy)]

/-- Append: parts that can be read where the rest holds. -/
theorem append_c (n : ByteArray) (ps : Sl) (xs : List Sl) (bs : List (List UInt8)) [hps : FocR r ps 1 (xs.flatMap encL)] (hbs : RdAll r xs bs) (hlen : bs.length ≤ 1000) (hsum : ∀ b ∈ bs, b.length ≤ 100000000) [hf : Fo l dk d A r] (hs : Sat w l) :
    Ret P F.disk_Disk_Append #[.pointer (some ⟨d, 0, none⟩), .string n, ps.v] w fun vs w' => vs = [.int .i64 (appendA A n bs.flatten).1] ∧ Sat w' (dk d (appendA A n bs.flatten).2 :: r) :=
  disk_Disk_Append_calls _ n ps <| by
    unfold disk_Disk_Append appendA
    have hxl := hbs.length
    have hok0 : okA A := by obtain ⟨m, FS, hp, hok, hs⟩ := dk_open (hs.perm hf.perm); exact hok
    have hfr : A.free ≤ 4194304 := by have := hok0.room; unfold DiskA.free; omega
    refine may_if hs (fun hg w' hs => ?_) fun hg w' hs => ?_
    · rw [if_pos hg]; exact ⟨rfl, hs⟩
    rw [if_neg (by rw [hg]; simp)]
    have hpl := hs.slen ps (xs := xs) (enc := encL)
    refine wp_call (name_c n hs) fun _ _ hs => ?_
    obtain ⟨rfl, hs⟩ := hs
    refine ret_of ?_
    refine wp_if (fun h => ?_) fun h => ?_
    · have h : nameF n = false := by simpa using h
      rw [if_pos h]; exact ⟨rfl, rfl, hs⟩
    have hn : nameF n = true := by simpa using h
    rw [if_neg (by rw [hn]; simp)]
    -- how much there is to add
    refine wp_mid (fun v w' => bs.flatten.length ≤ A.free ∧ v = (((bs.flatten.length : Nat) : Int), ()) ∧ Sat w' (dk d A :: r)) ?_ ?_
    · refine wp_loop (fun k v w => ∃ i : Nat, v = ((((bs.take i).flatten.length : Nat) : Int), (i : Int), ()) ∧ i ≤ xs.length ∧ xs.length - i = k ∧ (bs.take i).flatten.length ≤ A.free ∧ Sat w (dk d A :: r)) xs.length ⟨0, rfl, by omega, rfl, by simp, hs⟩ ?_
      clear hs
      rintro k _ w ⟨i, rfl, hi, hk, hsm, hs⟩
      refine wp_on ?_
      refine wp_if (fun hc => ?_) fun hc => ?_
      · have hil : i < xs.length := by omega
        have hib : i < bs.length := by omega
        refine wp_ix1 hs i hil ?_
        have hrl : xs[i].len = bs[i].length := (hbs.get i hil hib _ hs.tail).len (enc := encU) (fun _ => rfl) (by decide)
        have hbi := hsum _ (List.getElem_mem hib)
        refine wp_call (free_c hs) fun _ _ hs => ?_
        obtain ⟨rfl, hs⟩ := hs
        refine ret_of ?_
        have ew : IntKind.wrap .i64 ((A.free : Int) - ((bs.take i).flatten.length : Nat)) = (A.free : Int) - ((bs.take i).flatten.length : Nat) := w64e
        rw [ew]
        refine wp_if (fun h3 => ?_) fun h3 => ?_
        · refine wp_pass (wp_pass ?_)
          rw [if_pos]
          · exact ⟨rfl, rfl, hs⟩
          · left
            have h4 : (bs.take (i + 1)).flatten.length ≤ bs.flatten.length := by
              have := congrArg (fun l : List (List UInt8) => l.flatten.length) (List.take_append_drop (i + 1) bs)
              simp only [List.flatten_append, List.length_append] at this
              omega
            rw [flatten_take_succ hib, List.length_append] at h4
            omega
        · refine wp_ltx (y := (((bs.take (i + 1)).flatten.length : Nat) : Int)) ?_ ?_
          · refine wp_dn (us' := [.int .i64 (((bs.take (i + 1)).flatten.length : Nat) : Int), .int .i64 ((i + 1 : Nat) : Int)]) (by (try simp (disch := omega) only [w64]); first | rfl | (congr; omega)) ?_
            refine wp_lp (xs.length - (i + 1)) ?_
            refine ⟨i + 1, rfl, by omega, rfl, ?_, hs⟩
            rw [flatten_take_succ hib, List.length_append]; omega
          · rw [flatten_take_succ hib, List.length_append, w64 (by omega) (by omega)]; omega
      · refine wp_pass (wp_lv ?_)
        rw [List.take_of_length_le (by omega)] at hsm ⊢
        exact ⟨hsm, rfl, hs⟩
    clear hs
    rintro _ w ⟨hfit, rfl, hs⟩
    refine wp_on ?_
    obtain ⟨m, FS, hp, hok, hs⟩ := dk_open hs
    have hou := hok.used
    have hor := hok.room
    have hfit' := hfit
    unfold DiskA.free at hfit'
    (repeat (first | with_reducible (first | refine wp_on ?_ | refine wp_nn ?_ | refine wp_nng ?_ | refine wp_ldO hs ?_ | refine wp_ldG hs ?_ | refine wp_untick ?_ | refine wp_tk hs fun _ hs => ?_ | refine wp_newO hs fun _ _ hs => ?_ | refine wp_boxO hs fun _ _ hs => ?_ | refine wp_stO hs fun _ hs => ?_ | refine wp_stG hs fun _ hs => ?_) | (apply wp_must; (focus first | trivial | omega | assumption)) | refine wp_ltw ?_ | refine wp_lt ?_))
    -- the file: there, or a new one
    have hnot : ∀ (g : Bool), hasF A.fs n = g → ¬ (g = false ∧ A.fs.length ≥ 128) → (if bs.flatten.length > A.free ∨ (hasF A.fs n = false ∧ A.fs.length ≥ 128) then ((5 : Int), A) else
        (0, doneA { A with fs := if hasF A.fs n then A.fs.map (updF n fun f => { f with b := f.b ++ bs.flatten }) else insF ⟨n, bs.flatten, 0⟩ A.fs })) =
        (0, doneA { A with fs := if hasF A.fs n then A.fs.map (updF n fun f => { f with b := f.b ++ bs.flatten }) else insF ⟨n, bs.flatten, 0⟩ A.fs }) := fun g hg h => by
      rw [if_neg]
      rintro (h1 | ⟨h1, h2⟩)
      · omega
      · exact h ⟨by rw [← hg, h1], h2⟩
    refine wp_lookOk hs (fun b hb => ?_) fun hb => ?_
    all_goals refine wp_lt ?_
    all_goals refine wp_mid (fun v w' => ∃ (t : FileM) (FS' : List FileM) (fs1 : List FileA), v = (some ⟨t.at_, 0, none⟩, ()) ∧ t.f.name = n ∧ fs1.Perm (t.f :: FS'.map FileM.f) ∧ (∀ g ∈ FS'.map FileM.f, g.name ≠ t.f.name) ∧ used fs1 = used A.fs ∧ ¬ (hasF A.fs n = false ∧ A.fs.length ≥ 128) ∧
        fs1.map (updF n fun f => { f with b := f.b ++ bs.flatten }) = (if hasF A.fs n then A.fs.map (updF n fun f => { f with b := f.b ++ bs.flatten }) else insF ⟨n, bs.flatten, 0⟩ A.fs) ∧
        Sat w' (pt t.at_ (.cells #[t.x.v, .int .i64 t.f.kept] T.disk_file) :: slc T.uint8 1 t.x (t.f.b.flatMap encU) :: HP.all (FS'.map fileP) :: pt d (.cells #[.int .i64 A.left, .bool A.gone, .int .i64 A.room, .int .i64 (used A.fs), .map (some m)] T.disk_Disk) :: mapP ekS evF m ((t :: FS').map fun t => (t.f.name, t.at_)) :: r)) ?_ ?_
    · obtain ⟨t, ht, rfl, rfl, hA⟩ := in_fs hp hb
      have hhas : hasF A.fs t.f.name = true := hasF_iff.2 ⟨_, hA, rfl⟩
      refine wp_ifF ?_ (by simp)
      obtain ⟨FS', hpm, hs⟩ := file_open hs ht
      obtain ⟨h1, h2, -⟩ := apart hp hok hpm
      refine wp_lv ?_
      refine ⟨t, FS', A.fs, rfl, rfl, h1, h2, rfl, by rw [hhas]; simp, by rw [if_pos hhas], ?_⟩
      have hs := (hs.pick [4]).mapPerm (hpm.map fun t => (t.f.name, t.at_))
      exact hs.sub
    rotate_left
    · have hno := not_fs hp hb
      have hhas := hasF_not.2 hno
      refine wp_ifT ?_ (by simp)
      (repeat (first | with_reducible (first | refine wp_on ?_ | refine wp_nn ?_ | refine wp_nng ?_ | refine wp_ldO hs ?_ | refine wp_ldG hs ?_ | refine wp_untick ?_ | refine wp_tk hs fun _ hs => ?_ | refine wp_newO hs fun _ _ hs => ?_ | refine wp_boxO hs fun _ _ hs => ?_ | refine wp_stO hs fun _ hs => ?_ | refine wp_stG hs fun _ hs => ?_) | (apply wp_must; (focus first | trivial | omega | assumption)) | refine wp_ltw ?_ | refine wp_lt ?_))
      refine wp_mlen hs ?_
      have hml : (FS.map fun t => (t.f.name, t.at_)).length = A.fs.length := by rw [List.length_map, ← hp.length_eq, List.length_map]
      rw [hml]
      refine wp_if (fun h3 => ?_) fun h3 => ?_
      · refine wp_pass ?_
        rw [if_pos (.inr ⟨hhas, by omega⟩)]
        exact ⟨rfl, rfl, dk_close m hp hok hs⟩
      refine wp_boxO hs fun a w' hs => ?_
      (repeat (first | with_reducible (first | refine wp_on ?_ | refine wp_nn ?_ | refine wp_nng ?_ | refine wp_ldO hs ?_ | refine wp_ldG hs ?_ | refine wp_untick ?_ | refine wp_tk hs fun _ hs => ?_ | refine wp_newO hs fun _ _ hs => ?_ | refine wp_boxO hs fun _ _ hs => ?_ | refine wp_stO hs fun _ hs => ?_ | refine wp_stG hs fun _ hs => ?_) | (apply wp_must; (focus first | trivial | omega | assumption)) | refine wp_ltw ?_ | refine wp_lt ?_))
      refine wp_mset hs (FS.map fun t => (t.f.name, t.at_)) (.inr ⟨hb, rfl⟩) a fun w' hs => ?_
      refine wp_lv ?_
      refine ⟨⟨a, ⟨none, 0, 0⟩, ⟨n, [], 0⟩⟩, FS, insF ⟨n, [], 0⟩ A.fs, rfl, rfl, (insF_perm _ _).trans (.cons _ hp.symm), fun g hg => hno g (hp.mem_iff.1 hg), ?_, by omega, ?_, ?_⟩
      · rw [used_perm (insF_perm _ _), used_cons]; exact Nat.zero_add _
      · rw [if_neg (by rw [hhas]; simp)]
        exact insF_upd ⟨n, [], 0⟩ (fun f => { f with b := f.b ++ bs.flatten }) rfl hno
      · exact (hs.slc_nil (T := T.uint8) (sz := 1)).pick [2, 0, 2, 1, 0]
    all_goals clear hs
    all_goals rintro _ w ⟨t, FS', fs1, rfl, htn, h1, h2, hus, hno, hfin, hs⟩
    all_goals refine wp_on ?_
    all_goals rw [hnot _ rfl hno, ← hfin]
    all_goals subst htn
    all_goals refine wp_mid (fun _ w' => ∃ x1 : Sl, Sat w' (pt t.at_ (.cells #[x1.v, .int .i64 t.f.kept] T.disk_file) :: slc T.uint8 1 x1 ((t.f.b ++ bs.flatten).flatMap encU) :: HP.all (FS'.map fileP) :: pt d (.cells #[.int .i64 A.left, .bool A.gone, .int .i64 A.room, .int .i64 (used A.fs), .map (some m)] T.disk_Disk) :: mapP ekS evF m ((t :: FS').map fun t => (t.f.name, t.at_)) :: r)) ?_ ?_
    · refine wp_loop (fun k v w => ∃ (i : Nat) (x1 : Sl), v = ((i : Int), ()) ∧ i ≤ xs.length ∧ xs.length - i = k ∧ Sat w (pt t.at_ (.cells #[x1.v, .int .i64 t.f.kept] T.disk_file) :: slc T.uint8 1 x1 ((t.f.b ++ (bs.take i).flatten).flatMap encU) :: HP.all (FS'.map fileP) :: pt d (.cells #[.int .i64 A.left, .bool A.gone, .int .i64 A.room, .int .i64 (used A.fs), .map (some m)] T.disk_Disk) :: mapP ekS evF m ((t :: FS').map fun t => (t.f.name, t.at_)) :: r)) xs.length ⟨0, t.x, rfl, by omega, rfl, by simpa using hs⟩ ?_
      clear hs
      rintro k _ w ⟨i, x1, rfl, hi, hk, hs⟩
      refine wp_on ?_
      refine wp_if (fun hc => ?_) fun hc => ?_
      · have hil : i < xs.length := by omega
        have hib : i < bs.length := by omega
        refine wp_ix1 hs i hil ?_
        have hrd : FocR r xs[i] 1 (bs[i].flatMap encU) := ⟨hbs.get i hil hib⟩
        have hbi := hsum _ (List.getElem_mem hib)
        have hsm : (bs.take i).flatten.length ≤ bs.flatten.length := by
          have := congrArg (fun l : List (List UInt8) => l.flatten.length) (List.take_append_drop i bs)
          simp only [List.flatten_append, List.length_append] at this
          omega
        have htb : t.f.b.length ≤ used fs1 := used_mem (h1.mem_iff.2 (List.mem_cons_self ..))
        (repeat (first | with_reducible (first | refine wp_on ?_ | refine wp_nn ?_ | refine wp_nng ?_ | refine wp_ldO hs ?_ | refine wp_ldG hs ?_ | refine wp_untick ?_ | refine wp_tk hs fun _ hs => ?_ | refine wp_newO hs fun _ _ hs => ?_ | refine wp_boxO hs fun _ _ hs => ?_ | refine wp_stO hs fun _ hs => ?_ | refine wp_stG hs fun _ hs => ?_) | (apply wp_must; (focus first | trivial | omega | assumption)) | refine wp_ltw ?_ | refine wp_lt ?_))
        refine wp_app' hs (xs := t.f.b ++ (bs.take i).flatten) (ys := bs[i]) (enc := encU) (fun z w' hs => ?_) (by rw [List.length_append]; omega)
        (repeat (first | with_reducible (first | refine wp_on ?_ | refine wp_nn ?_ | refine wp_nng ?_ | refine wp_ldO hs ?_ | refine wp_ldG hs ?_ | refine wp_untick ?_ | refine wp_tk hs fun _ hs => ?_ | refine wp_newO hs fun _ _ hs => ?_ | refine wp_boxO hs fun _ _ hs => ?_ | refine wp_stO hs fun _ hs => ?_ | refine wp_stG hs fun _ hs => ?_) | (apply wp_must; (focus first | trivial | omega | assumption)) | refine wp_ltw ?_ | refine wp_lt ?_))
        refine wp_dn (us' := [.int .i64 ((i + 1 : Nat) : Int)]) (by (try simp (disch := omega) only [w64]); first | rfl | (congr; omega)) ?_
        refine wp_lp (xs.length - (i + 1)) ?_
        refine ⟨i + 1, z, rfl, by omega, rfl, ?_⟩
        rw [flatten_take_succ hib, ← List.append_assoc]
        exact hs.sub
      · refine wp_pass (wp_lv ⟨x1, ?_⟩)
        rwa [List.take_of_length_le (l := bs) (by omega)] at hs
    rotate_left
    · refine wp_loop (fun k v w => ∃ (i : Nat) (x1 : Sl), v = ((i : Int), ()) ∧ i ≤ xs.length ∧ xs.length - i = k ∧ Sat w (pt t.at_ (.cells #[x1.v, .int .i64 t.f.kept] T.disk_file) :: slc T.uint8 1 x1 ((t.f.b ++ (bs.take i).flatten).flatMap encU) :: HP.all (FS'.map fileP) :: pt d (.cells #[.int .i64 A.left, .bool A.gone, .int .i64 A.room, .int .i64 (used A.fs), .map (some m)] T.disk_Disk) :: mapP ekS evF m ((t :: FS').map fun t => (t.f.name, t.at_)) :: r)) xs.length ⟨0, t.x, rfl, by omega, rfl, by simpa using hs⟩ ?_
      clear hs
      rintro k _ w ⟨i, x1, rfl, hi, hk, hs⟩
      refine wp_on ?_
      refine wp_if (fun hc => ?_) fun hc => ?_
      · have hil : i < xs.length := by omega
        have hib : i < bs.length := by omega
        refine wp_ix1 hs i hil ?_
        have hrd : FocR r xs[i] 1 (bs[i].flatMap encU) := ⟨hbs.get i hil hib⟩
        have hbi := hsum _ (List.getElem_mem hib)
        have hsm : (bs.take i).flatten.length ≤ bs.flatten.length := by
          have := congrArg (fun l : List (List UInt8) => l.flatten.length) (List.take_append_drop i bs)
          simp only [List.flatten_append, List.length_append] at this
          omega
        have htb : t.f.b.length ≤ used fs1 := used_mem (h1.mem_iff.2 (List.mem_cons_self ..))
        (repeat (first | with_reducible (first | refine wp_on ?_ | refine wp_nn ?_ | refine wp_nng ?_ | refine wp_ldO hs ?_ | refine wp_ldG hs ?_ | refine wp_untick ?_ | refine wp_tk hs fun _ hs => ?_ | refine wp_newO hs fun _ _ hs => ?_ | refine wp_boxO hs fun _ _ hs => ?_ | refine wp_stO hs fun _ hs => ?_ | refine wp_stG hs fun _ hs => ?_) | (apply wp_must; (focus first | trivial | omega | assumption)) | refine wp_ltw ?_ | refine wp_lt ?_))
        refine wp_app' hs (xs := t.f.b ++ (bs.take i).flatten) (ys := bs[i]) (enc := encU) (fun z w' hs => ?_) (by rw [List.length_append]; omega)
        (repeat (first | with_reducible (first | refine wp_on ?_ | refine wp_nn ?_ | refine wp_nng ?_ | refine wp_ldO hs ?_ | refine wp_ldG hs ?_ | refine wp_untick ?_ | refine wp_tk hs fun _ hs => ?_ | refine wp_newO hs fun _ _ hs => ?_ | refine wp_boxO hs fun _ _ hs => ?_ | refine wp_stO hs fun _ hs => ?_ | refine wp_stG hs fun _ hs => ?_) | (apply wp_must; (focus first | trivial | omega | assumption)) | refine wp_ltw ?_ | refine wp_lt ?_))
        refine wp_dn (us' := [.int .i64 ((i + 1 : Nat) : Int)]) (by (try simp (disch := omega) only [w64]); first | rfl | (congr; omega)) ?_
        refine wp_lp (xs.length - (i + 1)) ?_
        refine ⟨i + 1, z, rfl, by omega, rfl, ?_⟩
        rw [flatten_take_succ hib, ← List.append_assoc]
        exact hs.sub
      · refine wp_pass (wp_lv ⟨x1, ?_⟩)
        rwa [List.take_of_length_le (l := bs) (by omega)] at hs
    all_goals clear hs
    all_goals rintro _ w ⟨x1, hs⟩
    all_goals refine wp_on ?_
    all_goals have hu3 := used_upd (g := fun f => { f with b := f.b ++ bs.flatten }) h1 h2
    all_goals have hu4 : used fs1 = t.f.b.length + used (FS'.map FileM.f) := by rw [used_perm h1, used_cons]
    all_goals have hu5 : used (fs1.map (updF t.f.name fun f => { f with b := f.b ++ bs.flatten })) = used A.fs + bs.flatten.length := by (rw [hu3]; show (t.f.b ++ bs.flatten).length + _ = _; rw [List.length_append]; omega)
    all_goals have ew : IntKind.wrap .i64 (((used A.fs : Nat) : Int) + ((bs.flatten.length : Nat) : Int)) = ((used (fs1.map (updF t.f.name fun f => { f with b := f.b ++ bs.flatten })) : Nat) : Int) := by rw [hu5, w64 (by omega) (by omega)]; omega
    all_goals refine wp_nn ?_
    all_goals refine wp_ldO hs ?_
    all_goals rw [ew]
    all_goals (repeat (first | with_reducible (first | refine wp_on ?_ | refine wp_nn ?_ | refine wp_nng ?_ | refine wp_ldO hs ?_ | refine wp_ldG hs ?_ | refine wp_untick ?_ | refine wp_tk hs fun _ hs => ?_ | refine wp_newO hs fun _ _ hs => ?_ | refine wp_boxO hs fun _ _ hs => ?_ | refine wp_stO hs fun _ hs => ?_ | refine wp_stG hs fun _ hs => ?_) | (apply wp_must; (focus first | trivial | omega | assumption)) | refine wp_ltw ?_ | refine wp_lt ?_))
    all_goals have hs := file_close (FS := FS') ⟨t.at_, x1, { t.f with b := t.f.b ++ bs.flatten }⟩ hs
    all_goals have hp' : (((⟨t.at_, x1, { t.f with b := t.f.b ++ bs.flatten }⟩ : FileM) :: FS').map FileM.f).Perm (fs1.map (updF t.f.name fun f => { f with b := f.b ++ bs.flatten })) := (map_updF_perm (g := fun f => { f with b := f.b ++ bs.flatten }) h1 h2).symm
    all_goals have hok' := okA_append hok hn hfit hno
    all_goals rw [← hfin] at hok'
    all_goals have hs : Sat _ (mapP ekS evF m (((⟨t.at_, x1, { t.f with b := t.f.b ++ bs.flatten }⟩ : FileM) :: FS').map fun t => (t.f.name, t.at_)) :: _) := hs.pick [2]
    all_goals rw [hg] at hs
    all_goals refine wp_call (spend_dk (l' := r) hg hok' hp' hs) fun _ _ hs => ?_
    all_goals obtain ⟨rfl, hs⟩ := hs
    all_goals refine ret_of ?_
    all_goals exact ⟨rfl, rfl, hs⟩

end
end Go.Dec

namespace Go.Dec
set_option linter.unusedVariables false
set_option linter.unusedSimpArgs false

theorem used_map {fs : List FileA} {g : FileA → FileA} (hb : ∀ f, (g f).b = f.b) : used (fs.map g) = used fs := by
  unfold used
  rw [List.map_map]
  congr 1
  exact List.map_congr_left fun f _ => by show (g f).b.length = _; rw [hb]
theorem okA_map {A : DiskA} (hok : okA A) {g : FileA → FileA} (hn : ∀ f, (g f).name = f.name) (hb : ∀ f, (g f).b = f.b) (hk : ∀ f, f.kept ≤ f.b.length → (g f).kept ≤ f.b.length) : okA { A with fs := A.fs.map g } := by
  refine ⟨hok.room, by show used (A.fs.map g) ≤ _; rw [used_map hb]; exact hok.used, by show (A.fs.map g).length ≤ _; rw [List.length_map]; exact hok.many, hok.left, sorted_map hn hok.sorted, fun f hf => ?_, fun f hf => ?_⟩
  · obtain ⟨f, hf', rfl⟩ := List.mem_map.1 hf
    rw [hb]; exact hk f (hok.kept f hf')
  · obtain ⟨f, hf', rfl⟩ := List.mem_map.1 hf
    rw [hn]; exact hok.names f hf'

/-- All bytes are kept of the files of these names. -/
def wholeF (f : FileA) : FileA := { f with kept := f.b.length }
def markF (ns : List ByteArray) (f : FileA) : FileA := if ns.any (fun m => decide (m = f.name)) then wholeF f else f
theorem markF_name (ns : List ByteArray) (f : FileA) : (markF ns f).name = f.name := by unfold markF; split <;> rfl
theorem markF_b (ns : List ByteArray) (f : FileA) : (markF ns f).b = f.b := by unfold markF; split <;> rfl
theorem markF_kept (ns : List ByteArray) (f : FileA) (h : f.kept ≤ f.b.length) : (markF ns f).kept ≤ f.b.length := by
  unfold markF; split
  · exact Nat.le_refl _
  · exact h
theorem markF_nil : markF [] = id := by funext f; simp [markF]
theorem markF_step (ns : List ByteArray) (n : ByteArray) (f : FileA) : updF n wholeF (markF ns f) = markF (ns ++ [n]) f := by
  unfold updF
  rw [markF_name]
  unfold markF
  rw [List.any_append]
  by_cases h1 : f.name = n
  · rw [if_pos h1]
    have : (ns.any (fun m => decide (m = f.name)) || [n].any (fun m => decide (m = f.name))) = true := by simp [h1]
    rw [if_pos this]
    split <;> rfl
  · rw [if_neg h1]
    have : (ns.any (fun m => decide (m = f.name)) || [n].any (fun m => decide (m = f.name))) = ns.any (fun m => decide (m = f.name)) := by simp [Ne.symm h1]
    rw [this]
theorem preF_nil (s : ByteArray) : Go.Proofs.Ytnfaklmndojeaaa.preF (ByteArray.mk #[]) s = true := by
  unfold Go.Proofs.Ytnfaklmndojeaaa.preF
  rw [show (ByteArray.mk #[]).toList = [] from by rw [ByteArray.toList_eq]]
  rfl
theorem namesF_all (fs : List FileA) : namesF (ByteArray.mk #[]) fs = fs.map (·.name) := List.filter_eq_self.2 fun s _ => preF_nil s
theorem mark_all (fs : List FileA) : fs.map (markF (fs.map (·.name))) = fs.map (syncF []) := by
  refine List.map_congr_left fun f hf => ?_
  unfold markF syncF
  rw [if_pos (show ((fs.map (·.name)).any fun m => decide (m = f.name)) = true by simp; exact ⟨f, hf, rfl⟩), if_pos (show asked [] f.name = true from rfl)]
  rfl
theorem mark_some {ns : List ByteArray} (h : ns ≠ []) (fs : List FileA) : fs.map (markF ns) = fs.map (syncF ns) := by
  refine List.map_congr_left fun f hf => ?_
  have e : asked ns f.name = ns.any (fun m => decide (m = f.name)) := by
    unfold asked
    cases ns with
    | nil => exact absurd rfl h
    | cons _ _ => rfl
  unfold markF syncF
  rw [e]; rfl
theorem hasF_map {fs : List FileA} {g : FileA → FileA} (hn : ∀ f, (g f).name = f.name) (n : ByteArray) : hasF (fs.map g) n = hasF fs n := by
  unfold hasF
  rw [List.any_map]
  congr 1
  funext f
  show decide ((g f).name = n) = _
  rw [hn]

section
variable {w : World} {l r r0 : List HP} {d : Nat} {A : DiskA}

theorem sync_c (nx : Sl) (ns : List ByteArray) [hns : FocR r nx 1 (ns.flatMap encT)] (hlen : ns.length ≤ 100000) [hf : Fo l dk d A r] (hs : Sat w l) :
    Ret P F.disk_Disk_Sync #[.pointer (some ⟨d, 0, none⟩), nx.v] w fun vs w' => vs = [.int .i64 (syncA A ns).1] ∧ Sat w' (dk d (syncA A ns).2 :: r) :=
  disk_Disk_Sync_calls _ nx <| by
    unfold disk_Disk_Sync syncA
    refine may_if hs (fun hg w' hs => ?_) fun hg w' hs => ?_
    · rw [if_pos hg]; exact ⟨rfl, hs⟩
    rw [if_neg (by rw [hg]; simp)]
    have hpl := hs.slen nx (xs := ns) (enc := encT)
    have hok0 : okA A := by obtain ⟨m, FS, hp, hok, hs⟩ := dk_open hs; exact hok
    refine wp_mid (fun v w' => ns.all (hasF A.fs) = true ∧ Sat w' (dk d A :: r)) ?_ ?_
    · refine wp_loop (fun k v w => ∃ i : Nat, v = ((i : Int), ()) ∧ i ≤ ns.length ∧ ns.length - i = k ∧ (ns.take i).all (hasF A.fs) = true ∧ Sat w (dk d A :: r)) ns.length ⟨0, rfl, by omega, rfl, rfl, hs⟩ ?_
      clear hs
      rintro k _ w ⟨i, rfl, hi, hk, hall, hs⟩
      refine wp_on ?_
      refine wp_if (fun hc => ?_) fun hc => ?_
      · have hil : i < ns.length := by omega
        refine wp_ix1 hs i hil ?_
        have htk : (ns.take (i + 1)).all (hasF A.fs) = hasF A.fs ns[i] := by
          rw [List.take_add_one, List.getElem?_eq_getElem hil, List.all_append, hall]; simp
        obtain ⟨m, FS, hp, hok, hs⟩ := dk_open hs
        (repeat (first | with_reducible (first | refine wp_on ?_ | refine wp_nn ?_ | refine wp_nng ?_ | refine wp_ldO hs ?_ | refine wp_ldG hs ?_ | refine wp_untick ?_ | refine wp_tk hs fun _ hs => ?_ | refine wp_newO hs fun _ _ hs => ?_ | refine wp_boxO hs fun _ _ hs => ?_ | refine wp_stO hs fun _ hs => ?_ | refine wp_stG hs fun _ hs => ?_) | (apply wp_must; (focus first | trivial | omega | assumption)) | refine wp_ltw ?_ | refine wp_lt ?_))
        refine wp_look hs (fun b hb => ?_) fun hb => ?_
        · obtain ⟨t, ht, rfl, hnm, hA⟩ := in_fs hp hb
          refine wp_ifF ?_ (by simp)
          refine wp_dn (us' := [.int .i64 ((i + 1 : Nat) : Int)]) (by (try simp (disch := omega) only [w64]); first | rfl | (congr; omega)) ?_
          refine wp_lp (ns.length - (i + 1)) ?_
          exact ⟨i + 1, rfl, by omega, rfl, by rw [htk]; exact hasF_iff.2 ⟨_, hA, hnm⟩, dk_close m hp hok hs⟩
        · refine wp_ifT ?_ (by rfl)
          refine wp_pass (wp_pass ?_)
          have : ns.all (hasF A.fs) = false := by
            rw [← List.take_append_drop (i + 1) ns, List.all_append, htk, hasF_not.2 (not_fs hp hb)]; rfl
          rw [if_pos this]
          exact ⟨rfl, rfl, dk_close m hp hok hs⟩
      · refine wp_pass (wp_lv ⟨?_, hs⟩)
        rwa [List.take_of_length_le (by omega)] at hall
    clear hs
    rintro _ w ⟨hall, hs⟩
    refine wp_on ?_
    rw [if_neg (by rw [hall]; simp)]
    -- which names
    refine wp_mid (fun v w' => ∃ (nx1 : Sl) (ns1 : List ByteArray) (r1 : List HP), v = (nx1, ()) ∧ ns1.length ≤ 100000 ∧ ns1.all (hasF A.fs) = true ∧ A.fs.map (markF ns1) = A.fs.map (syncF ns) ∧ (∃ h : FocR (slc T.string 1 nx1 (ns1.flatMap encT) :: r) nx1 1 (ns1.flatMap encT), True) ∧
        (Sat w' (dk d A :: r1)) ∧ (r1 = r ∧ (∃ _h : FocR r nx1 1 (ns1.flatMap encT), True) ∨ r1 = slc T.string 1 nx1 (ns1.flatMap encT) :: r)) ?_ ?_
    · refine wp_if (fun h => ?_) fun h => ?_
      · have hnil : ns = [] := List.length_eq_zero_iff.1 (by omega)
        subst hnil
        refine wp_call (names_c (ByteArray.mk #[]) hs) fun _ _ hs => ?_
        obtain ⟨x, rfl, hs⟩ := hs
        refine ret_of ?_
        refine wp_lv ?_
        refine ⟨x, namesF (ByteArray.mk #[]) A.fs, _, rfl, ?_, ?_, ?_, ⟨inferInstance, trivial⟩, (hs.pick [1]), .inr rfl⟩
        · rw [namesF_all, List.length_map]; have := hok0.many; omega
        · rw [namesF_all, List.all_map, List.all_eq_true]
          exact fun f hf => hasF_iff.2 ⟨f, hf, rfl⟩
        · rw [namesF_all]; exact mark_all A.fs
      · refine wp_lv ?_
        refine ⟨nx, ns, r, rfl, hlen, hall, mark_some (fun e => by subst e; simp at hpl; omega) A.fs, ⟨inferInstance, trivial⟩, hs, .inl ⟨rfl, hns, trivial⟩⟩
    clear hs
    rintro _ w ⟨nx1, ns1, r1, rfl, hlen1, hall1, hmark, -, hs, hr1⟩
    refine wp_on ?_
    have hR1 : FocR r1 nx1 1 (ns1.flatMap encT) := by
      rcases hr1 with ⟨rfl, h, -⟩ | rfl
      · exact h
      · infer_instance
    have hsub : ∀ {H : HP} {w : World}, Sat w (H :: r1) → Sat w (H :: r) := fun {H w} h => by
      rcases hr1 with ⟨rfl, -⟩ | rfl
      · exact h
      · exact h.sub
    have hpl1 := hs.slen nx1 (xs := ns1) (enc := encT)
    refine wp_mid (fun v w' => Sat w' (dk d { A with fs := A.fs.map (markF ns1) } :: r1)) ?_ ?_
    · refine wp_loop (fun k v w => ∃ i : Nat, v = ((i : Int), ()) ∧ i ≤ ns1.length ∧ ns1.length - i = k ∧ Sat w (dk d { A with fs := A.fs.map (markF (ns1.take i)) } :: r1)) ns1.length ⟨0, rfl, by omega, rfl, by rw [List.take_zero, markF_nil, List.map_id]; exact hs⟩ ?_
      clear hs
      rintro k _ w ⟨i, rfl, hi, hk, hs⟩
      refine wp_on ?_
      refine wp_if (fun hc => ?_) fun hc => ?_
      · have hil : i < ns1.length := by omega
        refine wp_ix1 hs i hil ?_
        obtain ⟨m, FS, hp, hok, hs⟩ := dk_open hs
        (repeat (first | with_reducible (first | refine wp_on ?_ | refine wp_nn ?_ | refine wp_nng ?_ | refine wp_ldO hs ?_ | refine wp_ldG hs ?_ | refine wp_untick ?_ | refine wp_tk hs fun _ hs => ?_ | refine wp_newO hs fun _ _ hs => ?_ | refine wp_boxO hs fun _ _ hs => ?_ | refine wp_stO hs fun _ hs => ?_ | refine wp_stG hs fun _ hs => ?_) | (apply wp_must; (focus first | trivial | omega | assumption)) | refine wp_ltw ?_ | refine wp_lt ?_))
        refine wp_look hs (fun b hb => ?_) fun hb => ?_
        · obtain ⟨t, ht, rfl, hnm, hA⟩ := in_fs hp hb
          obtain ⟨FS', hpm, hs⟩ := file_open hs ht
          obtain ⟨h1, h2, -⟩ := apart hp hok hpm
          (repeat (first | with_reducible (first | refine wp_on ?_ | refine wp_nn ?_ | refine wp_nng ?_ | refine wp_ldO hs ?_ | refine wp_ldG hs ?_ | refine wp_untick ?_ | refine wp_tk hs fun _ hs => ?_ | refine wp_newO hs fun _ _ hs => ?_ | refine wp_boxO hs fun _ _ hs => ?_ | refine wp_stO hs fun _ hs => ?_ | refine wp_stG hs fun _ hs => ?_) | (apply wp_must; (focus first | trivial | omega | assumption)) | refine wp_ltw ?_ | refine wp_lt ?_))
          rw [hs.slen t.x (xs := t.f.b) (enc := encU)] at hs
          have hs := file_close (FS := FS') ⟨t.at_, t.x, wholeF t.f⟩ hs
          have hs : Sat _ (mapP ekS evF m (((⟨t.at_, t.x, wholeF t.f⟩ : FileM) :: FS').map fun t => (t.f.name, t.at_)) :: _) := (hs.pick [2]).mapPerm (hpm.map fun t => (t.f.name, t.at_))
          have hstep : (A.fs.map (markF (ns1.take i))).map (updF t.f.name wholeF) = A.fs.map (markF (ns1.take (i + 1))) := by
            rw [List.map_map, List.take_add_one, List.getElem?_eq_getElem hil]
            refine List.map_congr_left fun f _ => ?_
            show updF t.f.name wholeF (markF _ f) = _
            rw [markF_step, hnm]; rfl
          have hp' : (((⟨t.at_, t.x, wholeF t.f⟩ : FileM) :: FS').map FileM.f).Perm (A.fs.map (markF (ns1.take (i + 1)))) := by
            rw [← hstep]
            exact (map_updF_perm (g := wholeF) h1 h2).symm
          refine wp_dn (us' := [.int .i64 ((i + 1 : Nat) : Int)]) (by (try simp (disch := omega) only [w64]); first | rfl | (congr; omega)) ?_
          refine wp_lp (ns1.length - (i + 1)) ?_
          refine ⟨i + 1, rfl, by omega, rfl, ?_⟩
          exact dk_close m (A := { A with fs := A.fs.map (markF (ns1.take (i + 1))) }) hp' (okA_map hok0 (markF_name _) (markF_b _) (markF_kept _)) hs (by rw [used_map (markF_b _), used_map (markF_b _)])
        · exfalso
          have h3 := hasF_not.2 (not_fs hp hb)
          have h4 : hasF A.fs ns1[i] = true := List.all_eq_true.1 hall1 _ (List.getElem_mem hil)
          rw [hasF_map (markF_name _), h4] at h3
          cases h3
      · refine wp_pass (wp_lv ?_)
        rwa [List.take_of_length_le (by omega)] at hs
    clear hs
    rintro _ w hs
    refine wp_on ?_
    rw [hmark] at hs
    obtain ⟨m, FS, hp, hok, hs⟩ := dk_open (hsub hs)
    have hs : Sat w (pt d (.cells #[.int .i64 A.left, .bool A.gone, .int .i64 A.room, .int .i64 (used (A.fs.map (syncF ns))), .map (some m)] T.disk_Disk) :: _) := hs
    (repeat (first | with_reducible (first | refine wp_on ?_ | refine wp_nn ?_ | refine wp_nng ?_ | refine wp_ldO hs ?_ | refine wp_ldG hs ?_ | refine wp_untick ?_ | refine wp_tk hs fun _ hs => ?_ | refine wp_newO hs fun _ _ hs => ?_ | refine wp_boxO hs fun _ _ hs => ?_ | refine wp_stO hs fun _ hs => ?_ | refine wp_stG hs fun _ hs => ?_) | (apply wp_must; (focus first | trivial | omega | assumption)) | refine wp_ltw ?_ | refine wp_lt ?_))
    rw [hg] at hs
    refine wp_call (spend_dk (l' := r) (A := A) hg hok hp hs) fun _ _ hs => ?_
    obtain ⟨rfl, hs⟩ := hs
    refine ret_of ?_
    exact ⟨rfl, rfl, hs⟩

/-- A file's copy. -/
theorem copy_c (t : FileM) (hlen : t.f.b.length ≤ 4194304) [hb : FocB l t.at_ (.cells [.slice t.x.a t.x.len t.x.cap, .int .i64 t.f.kept].toArray T.disk_file) r] [hr : FocS r t.x T.uint8 1 (t.f.b.flatMap encU) r0] (hs : Sat w l) :
    Ret P F.disk_file_copy #[.pointer (some ⟨t.at_, 0, none⟩)] w fun vs w' => ∃ (b : Nat) (x : Sl), vs = [.pointer (some ⟨b, 0, none⟩)] ∧ Sat w' (pt b (.cells #[x.v, .int .i64 t.f.kept] T.disk_file) :: slc T.uint8 1 x (t.f.b.flatMap encU) :: l) :=
  disk_file_copy_calls _ <| by
    unfold disk_file_copy
    have hR : FocR l t.x 1 (t.f.b.flatMap encU) := ⟨fun w hs => ((hs.perm hb.perm).tail.focS t.x).rd⟩
    refine wp_bind ?_
    refine wp_tk hs fun w' hs => ?_
    refine wp_nn ?_
    refine wp_ldO hs ?_
    refine wp_nn ?_
    refine wp_hdO hs ?_
    refine wp_call (clone_c t.x t.f.b (by omega) hs) fun vs w' h => ?_
    obtain ⟨z, rfl, hs⟩ := h
    refine ret_of ?_ ⟨trivial, fun _ => run_ldO hs⟩
    refine wp_untick ?_
    refine wp_boxO hs fun b w' hs => ?_
    refine wp_untick ?_
    refine wp_go ?_
    exact ⟨rfl, b, z, rfl, hs.sub⟩

end
end Go.Dec

namespace Go.Dec
set_option linter.unusedVariables false
set_option linter.unusedSimpArgs false

theorem used_sub {a b : List FileA} (h : a.Sublist b) : used a ≤ used b := by
  induction h with
  | slnil => exact Nat.le_refl _
  | cons x _ ih => rw [used_cons]; omega
  | cons_cons x _ ih => rw [used_cons, used_cons]; omega
theorem okA_sub {A : DiskA} (hok : okA A) {fs : List FileA} (h : fs.Sublist A.fs) : okA { A with fs := fs } :=
  ⟨hok.room, Nat.le_trans (used_sub h) hok.used, Nat.le_trans h.length_le hok.many, hok.left, hok.sorted.sublist h, fun f hf => hok.kept f (h.mem hf), fun f hf => hok.names f (h.mem hf)⟩

theorem lastN_le {f : FileA} (h : f.kept ≤ f.b.length) (m : Int) : lastN f m ≤ f.b.length := by unfold lastN; omega
theorem crashF_name (ps : List Int) (f : FileA) (i : Nat) : (crashF ps f i).name = f.name := rfl

theorem used_mapIdx {g : Nat → FileA → FileA} (hg : ∀ i f, (g i f).b.length ≤ f.b.length) : ∀ (fs : List FileA), used (fs.mapIdx g) ≤ used fs := by
  intro fs
  induction fs generalizing g with
  | nil => exact Nat.le_refl _
  | cons f r ih =>
    rw [List.mapIdx_cons, used_cons, used_cons]
    have := hg 0 f
    have := ih (g := fun i => g (i + 1)) fun i f => hg (i + 1) f
    omega
theorem names_mapIdx {g : Nat → FileA → FileA} (hg : ∀ i f, (g i f).name = f.name) : ∀ (fs : List FileA), (fs.mapIdx g).map (·.name) = fs.map (·.name) := by
  intro fs
  induction fs generalizing g with
  | nil => rfl
  | cons f r ih => rw [List.mapIdx_cons, List.map_cons, List.map_cons, hg, ih fun i f => hg (i + 1) f]

theorem okA_crash {A : DiskA} (hok : okA A) (ps : List Int) : okA (crashA A ps) := by
  have hn := names_mapIdx (g := fun i f => crashF ps f i) (fun i f => rfl) A.fs
  refine ⟨hok.room, ?_, ?_, by show (-1 : Int) ≤ -1 ∧ (-1 : Int) ≤ _; omega, ?_, fun f hf => ?_, fun f hf => ?_⟩
  · refine Nat.le_trans (used_mapIdx (fun i f => ?_) A.fs) hok.used
    show (f.b.take _).length ≤ _
    rw [List.length_take]; omega
  · show (A.fs.mapIdx _).length ≤ _
    rw [List.length_mapIdx]; exact hok.many
  · have h := hok.sorted
    show (A.fs.mapIdx fun i f => crashF ps f i).Pairwise _
    have e : ∀ fs : List FileA, (fs.Pairwise fun a b => ltS a.name b.name = true) ↔ (fs.map (·.name)).Pairwise fun a b => ltS a b = true := fun fs => by rw [List.pairwise_map]
    rw [e] at h ⊢
    rw [hn]; exact h
  · obtain ⟨i, hi, rfl⟩ := List.mem_mapIdx.1 hf
    have := hok.kept _ (List.getElem_mem hi)
    show lastN _ _ ≤ (List.take _ _).length
    rw [List.length_take]
    have := lastN_le this (pickN ps i)
    omega
  · obtain ⟨i, hi, rfl⟩ := List.mem_mapIdx.1 hf
    show A.fs[i].name.size ≤ 24
    exact hok.names _ (List.getElem_mem hi)

theorem crash_take {A : DiskA} (ps : List Int) {i : Nat} (hi : i < A.fs.length) : (A.fs.take (i + 1)).mapIdx (fun i f => crashF ps f i) = (A.fs.take i).mapIdx (fun i f => crashF ps f i) ++ [crashF ps A.fs[i] i] := by
  rw [List.take_add_one, List.getElem?_eq_getElem hi, Option.toList_some, List.mapIdx_append]
  simp only [List.mapIdx_cons, List.mapIdx_nil, List.length_take]
  rw [Nat.min_eq_left (by omega), Nat.zero_add]

theorem tmod_nat (i n : Nat) : Int.tmod (i : Int) (n : Int) = ((i % n : Nat) : Int) := by
  rw [Int.tmod_eq_emod_of_nonneg (by omega)]; exact (Int.natCast_emod i n).symm

section
variable {w : World} {l r : List HP} {d : Nat} {A : DiskA}

theorem crash_c (px : Sl) (ps : List Int) [hps : FocR r px 1 (ps.flatMap encI)] (hlen : ps.length ≤ 1000000) [hf : Fo l dk d A r] (hs : Sat w l) :
    Ret P F.disk_Disk_Crash #[.pointer (some ⟨d, 0, none⟩), px.v] w fun vs w' => ∃ c : Nat, vs = [.pointer (some ⟨c, 0, none⟩)] ∧ Sat w' (dk c (crashA A ps) :: dk d A :: r) :=
  disk_Disk_Crash_calls _ px <| by
    unfold disk_Disk_Crash
    refine wp_ifF ?_ (by simp)
    have hpl := (hs.perm hf.perm).slen px (xs := ps) (enc := encI)
    obtain ⟨m, FS, hp, hok, hs⟩ := dk_open (hs.perm hf.perm)
    have hroom := hok.room
    refine wp_nn ?_
    refine wp_ldO hs ?_
    have hs : Sat w (dk d A :: r) := dk_close m hp hok hs
    refine wp_call (new_ok A.room hroom hs) fun _ _ hs => ?_
    obtain ⟨c, rfl, hs⟩ := hs
    refine ret_of ?_
    refine wp_lt ?_
    refine wp_call (names_c (d := d) (ByteArray.mk #[]) hs) fun _ _ hs => ?_
    obtain ⟨nx, rfl, hs⟩ := hs
    refine ret_of ?_
    rw [namesF_all] at hs
    have hnl := hs.slen nx (xs := A.fs.map fun f : FileA => f.name) (enc := encT)
    rw [List.length_map] at hnl
    have hmany := hok.many
    have hkeep : ∀ i, okA { A with fs := A.fs.take i } := fun i => okA_sub hok (List.take_sublist i A.fs)
    refine wp_mid (fun _ w' => Sat w' (dk c (crashA A ps) :: dk d A :: r)) ?_ ?_
    · refine wp_loop (fun k v w => ∃ i : Nat, v = ((i : Int), ()) ∧ i ≤ A.fs.length ∧ A.fs.length - i = k ∧ Sat w (dk c (crashA { A with fs := A.fs.take i } ps) :: slc T.string 1 nx ((A.fs.map (·.name)).flatMap encT) :: dk d A :: r)) A.fs.length ⟨0, rfl, by omega, rfl, hs.pick [2, 0, 0]⟩ ?_
      clear hs
      rintro k _ w ⟨i, rfl, hi, hk, hs⟩
      refine wp_on ?_
      refine wp_if (fun hc => ?_) fun hc => ?_
      · have hil : i < A.fs.length := by omega
        refine wp_ix1 hs i (by rw [List.length_map]; exact hil) ?_
        rw [List.getElem_map]
        obtain ⟨m, FS, hp, hok', hs⟩ := dk_open (hs.pick [2])
        refine wp_lt (wp_lt ?_)
        refine wp_nn ?_
        refine wp_ldO hs ?_
        refine wp_look hs (fun b hb => ?_) fun hb => absurd rfl (not_fs hp hb _ (List.getElem_mem hil))
        obtain ⟨t, ht, rfl, htn, hA⟩ := in_fs hp hb
        have htf : t.f = A.fs[i] := by
          have h1 := find_name (names_nodup hok.sorted) hA htn
          have h2 := find_name (names_nodup hok.sorted) (List.getElem_mem hil) rfl
          rw [h1] at h2; exact Option.some.inj h2
        obtain ⟨FS', hpm, hs⟩ := file_open hs ht
        have hb4 : t.f.b.length ≤ 4194304 := Nat.le_trans (used_mem hA) hok.used
        have hkt := hok.kept _ hA
        refine wp_call (copy_c t hb4 hs) fun _ _ hs => ?_
        obtain ⟨bc, xc, rfl, hs⟩ := hs
        refine ret_of ?_
        have hcl := hs.slen xc (xs := t.f.b) (enc := encU)
        have hcc := (hs.focS xc).slc_cap
        refine wp_nn ?_
        refine wp_ldO hs ?_
        refine wp_lt ?_
        refine wp_mid (fun v w' => v = (((lastN t.f (pickN ps i) : Nat) : Int), ()) ∧ Sat w' (pt bc (.cells #[xc.v, .int .i64 t.f.kept] T.disk_file) :: slc T.uint8 1 xc (t.f.b.flatMap encU) :: dk c (crashA { A with fs := A.fs.take i } ps) :: slc T.string 1 nx ((A.fs.map (·.name)).flatMap encT) :: dk d A :: r)) ?_ ?_
        · have hclose : ∀ {w'}, Sat w' (pt bc (.cells #[xc.v, .int .i64 t.f.kept] T.disk_file) :: slc T.uint8 1 xc (t.f.b.flatMap encU) :: pt t.at_ (.cells #[t.x.v, .int .i64 t.f.kept] T.disk_file) :: slc T.uint8 1 t.x (t.f.b.flatMap encU) :: HP.all (FS'.map fileP) :: pt d (.cells #[.int .i64 A.left, .bool A.gone, .int .i64 A.room, .int .i64 (used A.fs), .map (some m)] T.disk_Disk) :: mapP ekS evF m (FS.map fun t => (t.f.name, t.at_)) :: dk c (crashA { A with fs := A.fs.take i } ps) :: slc T.string 1 nx ((A.fs.map (·.name)).flatMap encT) :: r) →
              Sat w' (pt bc (.cells #[xc.v, .int .i64 t.f.kept] T.disk_file) :: slc T.uint8 1 xc (t.f.b.flatMap encU) :: dk c (crashA { A with fs := A.fs.take i } ps) :: slc T.string 1 nx ((A.fs.map (·.name)).flatMap encT) :: dk d A :: r) := fun hs => by
            have hs := (file_close (FS := FS') t (hs.pick [2, 2, 2])).all_perm (hpm.symm.map fileP)
            have hs := dk_close (d := d) (A := A) (l' := pt bc (.cells #[xc.v, .int .i64 t.f.kept] T.disk_file) :: slc T.uint8 1 xc (t.f.b.flatMap encU) :: dk c (crashA { A with fs := A.fs.take i } ps) :: slc T.string 1 nx ((A.fs.map (·.name)).flatMap encT) :: r) m hp hok hs
            exact hs.pick [1, 1, 1, 1]
          refine wp_if (fun h => ?_) fun h => ?_
          · have hpos : 0 < ps.length := by omega
            have hmod := Nat.mod_lt i hpos
            refine wp_tk hs fun w' hs => ?_
            refine wp_must (by omega) ?_
            refine wp_ix1 hs (i % ps.length) hmod ?_ (by rw [hpl, tmod_nat])
            refine wp_nn ?_
            refine wp_ldO hs ?_
            refine wp_ltx (y := ((lastN t.f (pickN ps i) : Nat) : Int)) ?_ ?_
            · refine wp_untick ?_
              exact wp_lv ⟨rfl, hclose hs⟩
            · have e1 : pickN ps i = ps[i % ps.length] := by
                unfold pickN
                rw [if_neg (fun e => by rw [e] at hpos; simp at hpos), List.getD_eq_getElem?_getD, List.getElem?_eq_getElem hmod]; rfl
              have e2 : IntKind.wrap .i64 (((xc.len : Nat) : Int) - ((t.f.kept : Nat) : Int)) = ((t.f.b.length - t.f.kept : Nat) : Int) := by rw [hcl, w64 (by omega) (by omega)]; omega
              rw [e2, e1]
              unfold lastN
              rw [w64 (by split <;> split <;> omega) (by split <;> split <;> omega)]
              split <;> split <;> omega
          · have hnil : ps = [] := List.length_eq_zero_iff.1 (by omega)
            refine wp_lv ⟨?_, hclose hs⟩
            subst hnil
            have : lastN t.f (pickN [] i) = t.f.kept := by simp [lastN, pickN]
            rw [this]
        clear hs
        rintro _ w ⟨rfl, hs⟩
        refine wp_on ?_
        have hlast := lastN_le hkt (pickN ps i)
        rw [Int.toNat_natCast]
        obtain ⟨mc, FSc, hpc, hokc, hs⟩ := dk_open (hs.pick [2])
        (repeat (first | with_reducible (first | refine wp_on ?_ | refine wp_nn ?_ | refine wp_nng ?_ | refine wp_ldO hs ?_ | refine wp_ldG hs ?_ | refine wp_untick ?_ | refine wp_tk hs fun _ hs => ?_ | refine wp_newO hs fun _ _ hs => ?_ | refine wp_boxO hs fun _ _ hs => ?_ | refine wp_stO hs fun _ hs => ?_ | refine wp_stG hs fun _ hs => ?_) | (apply wp_must; (focus first | trivial | omega | assumption)) | refine wp_ltw ?_ | refine wp_lt ?_))
        have hs := (hs.focS xc).slc_cut (n := lastN t.f (pickN ps i)) (by omega)
        rw [take_flat] at hs
        have hnew : ∀ f ∈ (crashA { A with fs := A.fs.take i } ps).fs, f.name ≠ A.fs[i].name := fun f hf e => by
          obtain ⟨j, hj, rfl⟩ := List.mem_mapIdx.1 hf
          rw [List.length_take] at hj
          have hlt := List.pairwise_iff_getElem.1 hok.sorted j i (by omega) hil (by omega)
          have e : ((A.fs.take i)[j]'(by rw [List.length_take]; omega)).name = A.fs[i].name := e
          rw [List.getElem_take] at e
          rw [e, ltS_irrefl] at hlt; cases hlt
        have hno : ∀ v, (A.fs[i].name, v) ∉ FSc.map fun t => (t.f.name, t.at_) := fun v hv => by
          obtain ⟨t', ht', -, hn', hA'⟩ := in_fs hpc hv
          exact hnew _ hA' hn'
        refine wp_mset hs (FSc.map fun t => (t.f.name, t.at_)) (.inr ⟨hno, rfl⟩) bc fun w' hs => ?_
        have hC := crash_take ps hil
        have hu1 : used (crashA { A with fs := A.fs.take (i + 1) } ps).fs = used (crashA { A with fs := A.fs.take i } ps).fs + lastN t.f (pickN ps i) := by
          show used ((A.fs.take (i + 1)).mapIdx _) = _
          rw [hC, used_perm List.perm_append_comm, List.singleton_append, used_cons, ← htf]
          show (t.f.b.take _).length + _ = _
          rw [List.length_take, Nat.min_eq_left hlast, Nat.add_comm]; rfl
        have hokc2 := okA_crash (hkeep (i + 1)) ps
        have hub := hokc2.used
        have ew : IntKind.wrap .i64 (((used (crashA { A with fs := A.fs.take i } ps).fs : Nat) : Int) + ((lastN t.f (pickN ps i) : Nat) : Int)) = ((used (crashA { A with fs := A.fs.take (i + 1) } ps).fs : Nat) : Int) := by rw [hu1, w64 (by omega) (by omega)]; omega
        refine wp_nn ?_
        refine wp_ldO hs ?_
        rw [ew]
        (repeat (first | with_reducible (first | refine wp_on ?_ | refine wp_nn ?_ | refine wp_nng ?_ | refine wp_ldO hs ?_ | refine wp_ldG hs ?_ | refine wp_untick ?_ | refine wp_tk hs fun _ hs => ?_ | refine wp_newO hs fun _ _ hs => ?_ | refine wp_boxO hs fun _ _ hs => ?_ | refine wp_stO hs fun _ hs => ?_ | refine wp_stG hs fun _ hs => ?_) | (apply wp_must; (focus first | trivial | omega | assumption)) | refine wp_ltw ?_ | refine wp_lt ?_))
        refine wp_dn (us' := [.int .i64 ((i + 1 : Nat) : Int)]) (by (try simp (disch := omega) only [w64]); first | rfl | (congr; omega)) ?_
        refine wp_lp (A.fs.length - (i + 1)) ?_
        refine ⟨i + 1, rfl, by omega, rfl, ?_⟩
        have hs := file_close (FS := FSc) ⟨bc, ⟨xc.a, lastN t.f (pickN ps i), lastN t.f (pickN ps i)⟩, crashF ps t.f i⟩ hs
        have hp' : (((⟨bc, ⟨xc.a, lastN t.f (pickN ps i), lastN t.f (pickN ps i)⟩, crashF ps t.f i⟩ : FileM) :: FSc).map FileM.f).Perm (crashA { A with fs := A.fs.take (i + 1) } ps).fs := by
          show (crashF ps t.f i :: FSc.map FileM.f).Perm ((A.fs.take (i + 1)).mapIdx _)
          rw [hC, ← htf]
          exact (List.Perm.cons _ hpc).trans (List.perm_append_comm (l₁ := [crashF ps t.f i]))
        have hkv : (A.fs[i].name, bc) :: FSc.map (fun t => (t.f.name, t.at_)) = ((⟨bc, ⟨xc.a, lastN t.f (pickN ps i), lastN t.f (pickN ps i)⟩, crashF ps t.f i⟩ : FileM) :: FSc).map fun t => (t.f.name, t.at_) := by rw [← htf]; rfl
        rw [hkv] at hs
        exact dk_close mc (A := crashA { A with fs := A.fs.take (i + 1) } ps) hp' hokc2 hs
      · refine wp_pass (wp_lv ?_)
        rw [List.take_of_length_le (by omega)] at hs
        exact hs.sub
    · rintro _ w' hs
      refine wp_on ?_
      exact ⟨rfl, c, rfl, hs⟩

end
end Go.Dec

namespace Go.Dec
set_option linter.unusedVariables false
set_option linter.unusedSimpArgs false

def encF (f : FileA) : List Value := [.string f.name, .string (bytesOf f.b), .int .i64 f.kept]
instance : EncA encF [.str, .str, .int .i64] (fun f => (f.name, bytesOf f.b, (f.kept : Int), ())) := ⟨fun _ => rfl⟩
instance : EncN encF 3 := ⟨fun _ => rfl, by decide, by simp [encF, Value.oneCell']⟩
instance : EncF encF 0 .str (fun f => f.name) := ⟨fun _ => rfl⟩
instance : EncF encF 1 .str (fun f => bytesOf f.b) := ⟨fun _ => rfl⟩
instance : EncF encF 2 (.int .i64) (fun f => (f.kept : Int)) := ⟨fun _ => rfl⟩

/-- The document's disk. -/
def rdk (q : Nat) (A : DiskA) : HP := HP.ex fun x : Sl => HP.star (pt q (.cells #[.int .i64 A.room, x.v, .int .i64 A.left, .bool A.gone] T.towpathref04_Disk)) (slc T.towpathref04_File 3 x (A.fs.flatMap encF))

theorem bytesOf_size (b : List UInt8) : (bytesOf b).size = b.length := by show b.toArray.size = _; simp

section
variable {w : World} {l r r1 r2 l' : List HP} {q : Nat} {A : DiskA}

theorem rdk_open (hs : Sat w (rdk q A :: l)) : ∃ x : Sl, Sat w (pt q (.cells #[.int .i64 A.room, x.v, .int .i64 A.left, .bool A.gone] T.towpathref04_Disk) :: slc T.towpathref04_File 3 x (A.fs.flatMap encF) :: l) := by
  obtain ⟨x, hs⟩ := hs.ex
  exact ⟨x, hs.star⟩
theorem rdk_close (x : Sl) (hs : Sat w l) [h1 : FocB l q (.cells [.int .i64 A.room, .slice x.a x.len x.cap, .int .i64 A.left, .bool A.gone].toArray T.towpathref04_Disk) r1] [h2 : FocS r1 x T.towpathref04_File 3 (A.fs.flatMap encF) r2] [h3 : Sub r2 l'] : Sat w (rdk q A :: l') := by
  have h5 : Sat w (rdk q A :: r2) := .ex_mk x (.star_mk (hs.perm (h1.perm.trans (.cons _ h2.perm))))
  exact h5.sub

theorem rnew_c (n : Nat) (hs : Sat w l) : Ret P F.towpathref04_New #[.int .i64 n] w fun vs w' => ∃ q, vs = [.pointer (some ⟨q, 0, none⟩)] ∧ Sat w' (rdk q ⟨n, -1, false, []⟩ :: l) :=
  towpathref04_New_calls n <| by
    unfold towpathref04_New
    refine wp_boxO hs fun q w' hs => ?_
    have hs := hs.slc_nil (T := T.towpathref04_File) (sz := 3)
    exact ⟨rfl, q, rfl, .ex_mk ⟨none, 0, 0⟩ (.star_mk (hs.pick [1]))⟩

theorem used_take {fs : List FileA} {i : Nat} (hi : i < fs.length) : used (fs.take (i + 1)) = used (fs.take i) + fs[i].b.length := by
  rw [List.take_add_one, List.getElem?_eq_getElem hi, Option.toList_some, used_perm List.perm_append_comm, List.singleton_append, used_cons, Nat.add_comm]
theorem used_take_le (fs : List FileA) (i : Nat) : used (fs.take i) ≤ used fs := used_sub (List.take_sublist i fs)

theorem rused_c (hok : okA A) [hf : Fo l rdk q A r] (hs : Sat w l) : Ret P F.towpathref04_Disk_Used #[.pointer (some ⟨q, 0, none⟩)] w fun vs w' => vs = [.int .i64 (used A.fs : Nat)] ∧ Sat w' (rdk q A :: r) :=
  towpathref04_Disk_Used_calls _ <| by
    unfold towpathref04_Disk_Used
    have hs0 := hs.perm hf.perm
    obtain ⟨x, hs⟩ := rdk_open hs0
    have hl := hs.slen x (xs := A.fs) (enc := encF)
    have hm := hok.many
    have hu := hok.used
    (repeat (first | with_reducible (first | refine wp_on ?_ | refine wp_nn ?_ | refine wp_nng ?_ | refine wp_ldO hs ?_ | refine wp_ldG hs ?_ | refine wp_untick ?_ | refine wp_tk hs fun _ hs => ?_ | refine wp_newO hs fun _ _ hs => ?_ | refine wp_boxO hs fun _ _ hs => ?_ | refine wp_stO hs fun _ hs => ?_ | refine wp_stG hs fun _ hs => ?_) | (apply wp_must; (focus first | trivial | omega | assumption)) | refine wp_ltw ?_ | refine wp_lt ?_))
    refine wp_mid (fun v w' => v = (((used A.fs : Nat) : Int), ()) ∧ Sat w' (rdk q A :: r)) ?_ ?_
    · refine wp_loop (fun k v w => ∃ i : Nat, v = (((used (A.fs.take i) : Nat) : Int), (i : Int), ()) ∧ i ≤ A.fs.length ∧ A.fs.length - i = k ∧ Sat w (pt q (.cells #[.int .i64 A.room, x.v, .int .i64 A.left, .bool A.gone] T.towpathref04_Disk) :: slc T.towpathref04_File 3 x (A.fs.flatMap encF) :: r)) A.fs.length ⟨0, rfl, by omega, rfl, hs⟩ ?_
      clear hs
      rintro k _ w ⟨i, rfl, hi, hk, hs⟩
      refine wp_on ?_
      refine wp_if (fun hc => ?_) fun hc => ?_
      · have hil : i < A.fs.length := by omega
        refine wp_ixA hs i hil ?_
        have h1 := used_take hil
        have h2 := used_take_le A.fs (i + 1)
        refine wp_newO hs fun b w' hs => ?_
        refine wp_stG hs fun w' hs => ?_
        refine wp_ldO hs ?_
        rw [bytesOf_size]
        refine wp_ltx (y := ((used (A.fs.take (i + 1)) : Nat) : Int)) ?_ (by rw [h1, w64 (by omega) (by omega)]; omega)
        refine wp_dn (us' := [.int .i64 ((used (A.fs.take (i + 1)) : Nat) : Int), .int .i64 ((i + 1 : Nat) : Int)]) (by (try simp (disch := omega) only [w64]); first | rfl | (congr; omega)) ?_
        refine wp_lp (A.fs.length - (i + 1)) ?_
        exact ⟨i + 1, rfl, by omega, rfl, hs.sub⟩
      · refine wp_pass (wp_lv ?_)
        rw [List.take_of_length_le (by omega)]
        exact ⟨rfl, rdk_close x hs⟩
    · rintro _ w' ⟨rfl, hs⟩
      (repeat (first | with_reducible (first | refine wp_on ?_ | refine wp_nn ?_ | refine wp_nng ?_ | refine wp_ldO hs ?_ | refine wp_ldG hs ?_ | refine wp_untick ?_ | refine wp_tk hs fun _ hs => ?_ | refine wp_newO hs fun _ _ hs => ?_ | refine wp_boxO hs fun _ _ hs => ?_ | refine wp_stO hs fun _ hs => ?_ | refine wp_stG hs fun _ hs => ?_) | (apply wp_must; (focus first | trivial | omega | assumption)) | refine wp_ltw ?_ | refine wp_lt ?_))
      exact ⟨rfl, rfl, hs⟩

theorem rfree_c (hok : okA A) [hf : Fo l rdk q A r] (hs : Sat w l) : Ret P F.towpathref04_Disk_Free #[.pointer (some ⟨q, 0, none⟩)] w fun vs w' => vs = [.int .i64 (A.free : Nat)] ∧ Sat w' (rdk q A :: r) :=
  towpathref04_Disk_Free_calls _ <| by
    unfold towpathref04_Disk_Free
    obtain ⟨x, hs⟩ := rdk_open (hs.perm hf.perm)
    have hm := hok.room
    have hu := hok.used
    refine wp_tk hs fun w' hs => ?_
    refine wp_nn ?_
    refine wp_hdO hs ?_
    have hs : Sat w' (rdk q A :: r) := rdk_close x hs
    refine wp_call (rused_c hok hs) fun _ w' hs => ?_
    obtain ⟨rfl, hs⟩ := hs
    refine ret_of ?_ ⟨trivial, fun _ => ?_⟩
    rotate_left
    · obtain ⟨x, hs⟩ := rdk_open hs
      exact run_ldO hs
    refine wp_ltw ?_
    refine wp_untick ?_
    refine wp_if (fun h => ?_) fun h => ?_
    · refine ⟨rfl, ?_, hs⟩
      have : A.free = 0 := by unfold DiskA.free; omega
      rw [this]; rfl
    · (repeat (first | with_reducible (first | refine wp_on ?_ | refine wp_nn ?_ | refine wp_nng ?_ | refine wp_ldO hs ?_ | refine wp_ldG hs ?_ | refine wp_untick ?_ | refine wp_tk hs fun _ hs => ?_ | refine wp_newO hs fun _ _ hs => ?_ | refine wp_boxO hs fun _ _ hs => ?_ | refine wp_stO hs fun _ hs => ?_ | refine wp_stG hs fun _ hs => ?_) | (apply wp_must; (focus first | trivial | omega | assumption)) | refine wp_ltw ?_ | refine wp_lt ?_))
      refine ⟨rfl, ?_, hs⟩
      congr 2
      unfold DiskA.free; omega

theorem rat_c (n : ByteArray) (hok : okA A) [hf : Fo l rdk q A r] (hs : Sat w l) : Ret P F.towpathref04_Disk_At #[.pointer (some ⟨q, 0, none⟩), .string n] w fun vs w' =>
    ((∃ (i : Nat) (hi : i < A.fs.length), vs = [.int .i64 i] ∧ A.fs[i].name = n) ∨ (vs = [.int .i64 (-1)] ∧ ∀ f ∈ A.fs, f.name ≠ n)) ∧ Sat w' (rdk q A :: r) :=
  towpathref04_Disk_At_calls _ n <| by
    unfold towpathref04_Disk_At
    obtain ⟨x, hs⟩ := rdk_open (hs.perm hf.perm)
    have hl := hs.slen x (xs := A.fs) (enc := encF)
    have hm := hok.many
    (repeat (first | with_reducible (first | refine wp_on ?_ | refine wp_nn ?_ | refine wp_nng ?_ | refine wp_ldO hs ?_ | refine wp_ldG hs ?_ | refine wp_untick ?_ | refine wp_tk hs fun _ hs => ?_ | refine wp_newO hs fun _ _ hs => ?_ | refine wp_boxO hs fun _ _ hs => ?_ | refine wp_stO hs fun _ hs => ?_ | refine wp_stG hs fun _ hs => ?_) | (apply wp_must; (focus first | trivial | omega | assumption)) | refine wp_ltw ?_ | refine wp_lt ?_))
    refine wp_mid (fun v w' => (∀ f ∈ A.fs, f.name ≠ n) ∧ Sat w' (rdk q A :: r)) ?_ ?_
    · refine wp_loop (fun k v w => ∃ i : Nat, v = ((i : Int), ()) ∧ i ≤ A.fs.length ∧ A.fs.length - i = k ∧ (∀ j (hj : j < A.fs.length), j < i → A.fs[j].name ≠ n) ∧ Sat w (pt q (.cells #[.int .i64 A.room, x.v, .int .i64 A.left, .bool A.gone] T.towpathref04_Disk) :: slc T.towpathref04_File 3 x (A.fs.flatMap encF) :: r)) A.fs.length ⟨0, rfl, by omega, rfl, fun _ _ h => by omega, hs⟩ ?_
      clear hs
      rintro k _ w ⟨i, rfl, hi, hk, hno, hs⟩
      refine wp_on ?_
      refine wp_if (fun hc => ?_) fun hc => ?_
      · have hil : i < A.fs.length := by omega
        refine wp_lt ?_
        refine wp_nn ?_
        refine wp_ldO hs ?_
        refine wp_ixF hs i hil ?_
        refine wp_if (fun h => ?_) fun h => ?_
        · refine wp_lt ?_
          refine wp_pass (wp_pass ?_)
          exact ⟨rfl, .inl ⟨i, hil, rfl, h⟩, rdk_close x hs⟩
        · refine wp_dn (us' := [.int .i64 ((i + 1 : Nat) : Int)]) (by (try simp (disch := omega) only [w64]); first | rfl | (congr; omega)) ?_
          refine wp_lp (A.fs.length - (i + 1)) ?_
          refine ⟨i + 1, rfl, by omega, rfl, fun j hj hji => ?_, hs⟩
          by_cases hj' : j = i
          · subst hj'; exact h
          · exact hno j hj (by omega)
      · refine wp_pass (wp_lv ⟨fun f hf e => ?_, rdk_close x hs⟩)
        obtain ⟨j, hj, rfl⟩ := List.getElem_of_mem hf
        exact hno j hj (by omega) e
    · rintro _ w' ⟨hno, hs⟩
      refine wp_on ?_
      exact ⟨rfl, .inr ⟨rfl, hno⟩, hs⟩

theorem rdone_c (hok : okA A) (hg : A.gone = false) [hf : Fo l rdk q A r] (hs : Sat w l) : Ret P F.towpathref04_Disk_done #[.pointer (some ⟨q, 0, none⟩)] w fun vs w' => vs = [.int .i64 0] ∧ Sat w' (rdk q (doneA A) :: r) :=
  towpathref04_Disk_done_calls _ <| by
    unfold towpathref04_Disk_done
    obtain ⟨x, hs⟩ := rdk_open (hs.perm hf.perm)
    have hl := hok.left
    rw [doneA_eq A hg]
    (repeat (first | with_reducible (first | refine wp_on ?_ | refine wp_nn ?_ | refine wp_nng ?_ | refine wp_ldO hs ?_ | refine wp_ldG hs ?_ | refine wp_untick ?_ | refine wp_tk hs fun _ hs => ?_ | refine wp_newO hs fun _ _ hs => ?_ | refine wp_boxO hs fun _ _ hs => ?_ | refine wp_stO hs fun _ hs => ?_ | refine wp_stG hs fun _ hs => ?_) | (apply wp_must; (focus first | trivial | omega | assumption)) | refine wp_ltw ?_ | refine wp_lt ?_))
    refine wp_mid (fun _ w' => Sat w' (rdk q ⟨A.room, if A.left > 0 then A.left - 1 else A.left, if A.left > 0 then decide (A.left - 1 = 0) else false, A.fs⟩ :: r)) ?_ ?_
    · refine wp_if (fun h => ?_) fun h => ?_
      · (repeat (first | with_reducible (first | refine wp_on ?_ | refine wp_nn ?_ | refine wp_nng ?_ | refine wp_ldO hs ?_ | refine wp_ldG hs ?_ | refine wp_untick ?_ | refine wp_tk hs fun _ hs => ?_ | refine wp_newO hs fun _ _ hs => ?_ | refine wp_boxO hs fun _ _ hs => ?_ | refine wp_stO hs fun _ hs => ?_ | refine wp_stG hs fun _ hs => ?_) | (apply wp_must; (focus first | trivial | omega | assumption)) | refine wp_ltw ?_ | refine wp_lt ?_))
        rw [w64 (x := A.left - 1) (by omega) (by omega)] at hs ⊢
        rw [if_pos h, if_pos h]
        refine wp_bind ?_
        refine wp_if (fun h2 => ?_) fun h2 => ?_
        · (repeat (first | with_reducible (first | refine wp_on ?_ | refine wp_nn ?_ | refine wp_nng ?_ | refine wp_ldO hs ?_ | refine wp_ldG hs ?_ | refine wp_untick ?_ | refine wp_tk hs fun _ hs => ?_ | refine wp_newO hs fun _ _ hs => ?_ | refine wp_boxO hs fun _ _ hs => ?_ | refine wp_stO hs fun _ hs => ?_ | refine wp_stG hs fun _ hs => ?_) | (apply wp_must; (focus first | trivial | omega | assumption)) | refine wp_ltw ?_ | refine wp_lt ?_))
          refine wp_go ?_
          refine wp_lv ?_
          rw [decide_eq_true h2]
          exact rdk_close x (A := ⟨A.room, A.left - 1, true, A.fs⟩) hs
        · refine wp_go ?_
          refine wp_lv ?_
          rw [decide_eq_false h2]
          rw [hg] at hs
          exact rdk_close x (A := ⟨A.room, A.left - 1, false, A.fs⟩) hs
      · refine wp_lv ?_
        rw [if_neg h, if_neg h]
        rw [hg] at hs
        exact rdk_close x (A := ⟨A.room, A.left, false, A.fs⟩) hs
    · rintro _ w' hs
      refine wp_on ?_
      exact ⟨rfl, rfl, hs⟩

end
end Go.Dec

namespace Go.Dec
set_option linter.unusedVariables false
set_option linter.unusedSimpArgs false

theorem insF_app (x : FileA) (l2 : List FileA) : ∀ pre : List FileA, insF x (pre ++ l2) = if pre.any (fun f => ltS x.name f.name) then insF x pre ++ l2 else pre ++ insF x l2
  | [] => rfl
  | f :: r => by
    rw [List.cons_append, insF, insF, List.any_cons]
    by_cases h : ltS x.name f.name = true
    · rw [if_pos h, if_pos h, h]; rfl
    · rw [if_neg h, if_neg h, insF_app x l2 r]
      have h : ltS x.name f.name = false := by simpa using h
      rw [h, Bool.false_or]
      split <;> rfl
def inF (x : FileA) (fs : List FileA) : Bool := fs.any fun f => ltS x.name f.name
theorem insF_in {x : FileA} {fs : List FileA} (h : inF x fs = false) : insF x fs = fs ++ [x] := by
  have := insF_app x [] fs
  rw [List.append_nil] at this
  rw [this]
  unfold inF at h
  rw [if_neg (by rw [h]; simp)]; rfl
theorem insF_length (x : FileA) (fs : List FileA) : (insF x fs).length = fs.length + 1 := (insF_perm x fs).length_eq
theorem ltS_not (a b : ByteArray) : ¬ (Op.bytesLess (ByteArray.toList a) (ByteArray.toList b) = true ∨ a = b) ↔ ltS b a = true := by
  constructor
  · intro h
    rcases ltS_total b a with h1 | h1 | h1
    · exact h1
    · exact absurd (.inr h1.symm) h
    · exact absurd (.inl h1) h
  · rintro h (h1 | rfl)
    · have := ltS_asymm h; rw [show ltS a b = true from h1] at this; cases this
    · rw [ltS_irrefl] at h; cases h

section
variable {w : World} {l r : List HP} {q : Nat} {A : DiskA}

theorem with_c (y : FileA) (hm : A.fs.length ≤ 200) [hf : Fo l rdk q A r] (hs : Sat w l) : Ret P F.towpathref04_Disk_with #[.pointer (some ⟨q, 0, none⟩), .agg #[.string y.name, .string (bytesOf y.b), .int .i64 y.kept]] w fun vs w' =>
    vs = [] ∧ Sat w' (rdk q { A with fs := insF y A.fs } :: r) :=
  towpathref04_Disk_with_calls _ y.name (bytesOf y.b) y.kept <| by
    unfold towpathref04_Disk_with
    obtain ⟨x, hs⟩ := rdk_open (hs.perm hf.perm)
    have hl := hs.slen x (xs := A.fs) (enc := encF)
    refine wp_boxO hs fun c w' hs => ?_
    (repeat (first | with_reducible (first | refine wp_on ?_ | refine wp_nn ?_ | refine wp_nng ?_ | refine wp_ldO hs ?_ | refine wp_ldG hs ?_ | refine wp_untick ?_ | refine wp_tk hs fun _ hs => ?_ | refine wp_newO hs fun _ _ hs => ?_ | refine wp_boxO hs fun _ _ hs => ?_ | refine wp_stO hs fun _ hs => ?_ | refine wp_stG hs fun _ hs => ?_) | (apply wp_must; (focus first | trivial | omega | assumption)) | refine wp_ltw ?_ | refine wp_lt ?_))
    refine wp_mid (fun v w' => ∃ z : Sl, v = (z, inF y A.fs, ()) ∧ Sat w' (slc T.towpathref04_File 3 z ((if inF y A.fs then insF y A.fs else A.fs).flatMap encF) :: pt c (.cells #[.string y.name, .string (bytesOf y.b), .int .i64 y.kept] T.towpathref04_File) :: pt q (.cells #[.int .i64 A.room, x.v, .int .i64 A.left, .bool A.gone] T.towpathref04_Disk) :: r)) ?_ ?_
    · refine wp_loop (fun k v w => ∃ (i : Nat) (z : Sl), v = (z, inF y (A.fs.take i), (i : Int), ()) ∧ i ≤ A.fs.length ∧ A.fs.length - i = k ∧
          Sat w (slc T.towpathref04_File 3 z ((if inF y (A.fs.take i) then insF y (A.fs.take i) else A.fs.take i).flatMap encF) :: pt c (.cells #[.string y.name, .string (bytesOf y.b), .int .i64 y.kept] T.towpathref04_File) :: pt q (.cells #[.int .i64 A.room, x.v, .int .i64 A.left, .bool A.gone] T.towpathref04_Disk) :: slc T.towpathref04_File 3 x (A.fs.flatMap encF) :: r)) A.fs.length
        ⟨0, ⟨none, 0, 0⟩, rfl, by omega, rfl, hs.slc_nil⟩ ?_
      clear hs
      rintro k _ w ⟨i, z, rfl, hi, hk, hs⟩
      refine wp_on ?_
      refine wp_if (fun hc => ?_) fun hc => ?_
      · have hil : i < A.fs.length := by omega
        refine wp_ixA hs i hil ?_
        refine wp_newO hs fun b w' hs => ?_
        refine wp_stG hs fun w' hs => ?_
        refine wp_ldO hs ?_
        refine wp_ldO hs ?_
        have hin : inF y (A.fs.take (i + 1)) = (inF y (A.fs.take i) || ltS y.name A.fs[i].name) := by
          unfold inF
          rw [List.take_add_one, List.getElem?_eq_getElem hil, List.any_append]; simp
        have hto : A.fs.take (i + 1) = A.fs.take i ++ [A.fs[i]] := by rw [List.take_add_one, List.getElem?_eq_getElem hil]; rfl
        have hln : (A.fs.take i).length ≤ 200 := by rw [List.length_take]; omega
        have hln2 := insF_length y (A.fs.take i)
        have hins := insF_app y [A.fs[i]] (A.fs.take i)
        have hins : insF y (A.fs.take (i + 1)) = if inF y (A.fs.take i) then insF y (A.fs.take i) ++ [A.fs[i]] else A.fs.take i ++ insF y [A.fs[i]] := by rw [hto]; exact hins
        refine wp_mid (fun v w' => ∃ z : Sl, v = (z, inF y (A.fs.take (i + 1)), ()) ∧
          Sat w' (slc T.towpathref04_File 3 z ((if inF y (A.fs.take i) then insF y (A.fs.take i) else if ltS y.name A.fs[i].name then A.fs.take i ++ [y] else A.fs.take i).flatMap encF) :: pt b (.cells #[.string A.fs[i].name, .string (bytesOf A.fs[i].b), .int .i64 A.fs[i].kept] T.towpathref04_File) :: pt c (.cells #[.string y.name, .string (bytesOf y.b), .int .i64 y.kept] T.towpathref04_File) :: pt q (.cells #[.int .i64 A.room, x.v, .int .i64 A.left, .bool A.gone] T.towpathref04_Disk) :: slc T.towpathref04_File 3 x (A.fs.flatMap encF) :: r)) ?_ ?_
        · refine wp_if (fun h => ?_) fun h => ?_
          · obtain ⟨h1, h2⟩ := h
            have h1 : inF y (A.fs.take i) = false := by simpa using h1
            have h2 := (ltS_not _ _).1 h2
            rw [h1] at hs hin ⊢
            rw [h2] at hin ⊢
            refine wp_ldG hs ?_
            refine wp_ap0 hs (xs := A.fs.take i) (enc := encF) y (fun z w' hs => ?_)
            refine wp_lv ⟨z, by rw [hin]; rfl, ?_⟩
            rw [if_neg (by simp), if_pos rfl]
            exact hs.sub
          · refine wp_lv ⟨z, ?_, ?_⟩
            · rw [hin]
              by_cases h1 : inF y (A.fs.take i) = true
              · rw [h1]; rfl
              · have h1 : inF y (A.fs.take i) = false := by simpa using h1
                have h2 : ltS y.name A.fs[i].name = false := by
                  cases h3 : ltS y.name A.fs[i].name with
                  | false => rfl
                  | true => exact absurd ⟨by rw [h1]; simp, (ltS_not _ _).2 h3⟩ h
                rw [h1, h2]; rfl
            · by_cases h1 : inF y (A.fs.take i) = true
              · rw [if_pos h1] at hs ⊢; exact hs.sub
              · have h1' : inF y (A.fs.take i) = false := by simpa using h1
                have h2 : ¬ ltS y.name A.fs[i].name = true := fun h3 => h ⟨by rw [h1']; simp, (ltS_not _ _).2 h3⟩
                rw [if_neg h1] at hs
                rw [if_neg h1, if_neg h2]; exact hs.sub
        clear hs
        rintro _ w ⟨z, rfl, hs⟩
        refine wp_on ?_
        refine wp_ldG hs ?_
        refine wp_ap0 hs (enc := encF) A.fs[i] (fun z w' hs => ?_) rfl (by
          constructor
          · split
            · omega
            · split
              · rw [List.length_append]; simp; omega
              · omega
          · split
            · omega
            · split
              · rw [List.length_append]; simp; omega
              · omega)
        refine wp_dn (us' := [z.v, .bool (inF y (A.fs.take (i + 1))), .int .i64 ((i + 1 : Nat) : Int)]) (by (try simp (disch := omega) only [w64]); first | rfl | (congr; omega)) ?_
        refine wp_lp (A.fs.length - (i + 1)) ?_
        refine ⟨i + 1, z, rfl, by omega, rfl, ?_⟩
        have e : ((if inF y (A.fs.take i) then insF y (A.fs.take i) else if ltS y.name A.fs[i].name then A.fs.take i ++ [y] else A.fs.take i) ++ [A.fs[i]]) = (if inF y (A.fs.take (i + 1)) then insF y (A.fs.take (i + 1)) else A.fs.take (i + 1)) := by
          rw [hin]
          by_cases h1 : inF y (A.fs.take i) = true
          · rw [if_pos h1, h1, Bool.true_or, if_pos rfl, hins, if_pos h1]
          · have h1' : inF y (A.fs.take i) = false := by simpa using h1
            rw [if_neg h1, h1', Bool.false_or]
            by_cases h2 : ltS y.name A.fs[i].name = true
            · rw [if_pos h2, if_pos h2, hins, if_neg h1]
              simp [insF, h2]
            · rw [if_neg h2, if_neg h2, hto]
        rw [e] at hs
        exact hs.sub
      · refine wp_pass (wp_lv ⟨z, ?_, ?_⟩)
        · rw [List.take_of_length_le (by omega)]
        · rw [List.take_of_length_le (by omega)] at hs
          exact hs.sub
    clear hs
    rintro _ w ⟨z, rfl, hs⟩
    refine wp_on ?_
    refine wp_mid (fun v w' => ∃ z : Sl, v = (z, ()) ∧ Sat w' (slc T.towpathref04_File 3 z ((insF y A.fs).flatMap encF) :: pt q (.cells #[.int .i64 A.room, x.v, .int .i64 A.left, .bool A.gone] T.towpathref04_Disk) :: r)) ?_ ?_
    · refine wp_if (fun h => ?_) fun h => ?_
      · have h : inF y A.fs = false := by simpa using h
        rw [if_neg (by rw [h]; simp)] at hs
        refine wp_ldG hs ?_
        refine wp_ap0 hs (xs := A.fs) (enc := encF) y (fun z w' hs => ?_)
        refine wp_lv ⟨z, rfl, ?_⟩
        rw [insF_in h]
        exact hs.sub
      · have h : inF y A.fs = true := by simpa using h
        rw [if_pos h] at hs
        exact wp_lv ⟨z, rfl, hs.sub⟩
    clear hs
    rintro _ w ⟨z, rfl, hs⟩
    refine wp_on ?_
    (repeat (first | with_reducible (first | refine wp_on ?_ | refine wp_nn ?_ | refine wp_nng ?_ | refine wp_ldO hs ?_ | refine wp_ldG hs ?_ | refine wp_untick ?_ | refine wp_tk hs fun _ hs => ?_ | refine wp_newO hs fun _ _ hs => ?_ | refine wp_boxO hs fun _ _ hs => ?_ | refine wp_stO hs fun _ hs => ?_ | refine wp_stG hs fun _ hs => ?_) | (apply wp_must; (focus first | trivial | omega | assumption)) | refine wp_ltw ?_ | refine wp_lt ?_))
    exact ⟨rfl, rfl, rdk_close z (A := { A with fs := insF y A.fs }) hs⟩

theorem without_c (n : ByteArray) (hm : A.fs.length ≤ 200) [hf : Fo l rdk q A r] (hs : Sat w l) : Ret P F.towpathref04_Disk_without #[.pointer (some ⟨q, 0, none⟩), .string n] w fun vs w' => vs = [] ∧ Sat w' (rdk q { A with fs := dropF n A.fs } :: r) :=
  towpathref04_Disk_without_calls _ n <| by
    unfold towpathref04_Disk_without
    obtain ⟨x, hs⟩ := rdk_open (hs.perm hf.perm)
    have hl := hs.slen x (xs := A.fs) (enc := encF)
    (repeat (first | with_reducible (first | refine wp_on ?_ | refine wp_nn ?_ | refine wp_nng ?_ | refine wp_ldO hs ?_ | refine wp_ldG hs ?_ | refine wp_untick ?_ | refine wp_tk hs fun _ hs => ?_ | refine wp_newO hs fun _ _ hs => ?_ | refine wp_boxO hs fun _ _ hs => ?_ | refine wp_stO hs fun _ hs => ?_ | refine wp_stG hs fun _ hs => ?_) | (apply wp_must; (focus first | trivial | omega | assumption)) | refine wp_ltw ?_ | refine wp_lt ?_))
    refine wp_mid (fun v w' => ∃ z : Sl, v = (z, ()) ∧ Sat w' (slc T.towpathref04_File 3 z ((dropF n A.fs).flatMap encF) :: pt q (.cells #[.int .i64 A.room, x.v, .int .i64 A.left, .bool A.gone] T.towpathref04_Disk) :: r)) ?_ ?_
    · refine wp_loop (fun k v w => ∃ (i : Nat) (z : Sl), v = (z, (i : Int), ()) ∧ i ≤ A.fs.length ∧ A.fs.length - i = k ∧
          Sat w (slc T.towpathref04_File 3 z ((dropF n (A.fs.take i)).flatMap encF) :: pt q (.cells #[.int .i64 A.room, x.v, .int .i64 A.left, .bool A.gone] T.towpathref04_Disk) :: slc T.towpathref04_File 3 x (A.fs.flatMap encF) :: r)) A.fs.length
        ⟨0, ⟨none, 0, 0⟩, rfl, by omega, rfl, hs.slc_nil⟩ ?_
      clear hs
      rintro k _ w ⟨i, z, rfl, hi, hk, hs⟩
      refine wp_on ?_
      refine wp_if (fun hc => ?_) fun hc => ?_
      · have hil : i < A.fs.length := by omega
        refine wp_ixA hs i hil ?_
        refine wp_newO hs fun b w' hs => ?_
        refine wp_stG hs fun w' hs => ?_
        refine wp_ldO hs ?_
        have hdl := dropF_len n (A.fs.take i)
        have hto : dropF n (A.fs.take (i + 1)) = dropF n (A.fs.take i) ++ (if A.fs[i].name = n then [] else [A.fs[i]]) := by
          rw [List.take_add_one, List.getElem?_eq_getElem hil]
          unfold dropF
          rw [List.filter_append]
          congr 1
          by_cases h : A.fs[i].name = n
          · rw [if_pos h]; simp [h]
          · rw [if_neg h]; simp [h]
        rw [List.length_take] at hdl
        refine wp_mid (fun v w' => ∃ z : Sl, v = (z, ()) ∧ Sat w' (slc T.towpathref04_File 3 z ((dropF n (A.fs.take (i + 1))).flatMap encF) :: pt q (.cells #[.int .i64 A.room, x.v, .int .i64 A.left, .bool A.gone] T.towpathref04_Disk) :: slc T.towpathref04_File 3 x (A.fs.flatMap encF) :: r)) ?_ ?_
        · refine wp_if (fun h => ?_) fun h => ?_
          · refine wp_ldG hs ?_
            refine wp_ap0 hs (enc := encF) A.fs[i] (fun z w' hs => ?_)
            refine wp_lv ⟨z, rfl, ?_⟩
            rw [hto, if_neg h]
            exact hs.sub
          · refine wp_lv ⟨z, rfl, ?_⟩
            rw [hto, if_pos (Decidable.not_not.1 h), List.append_nil]
            exact hs.sub
        clear hs
        rintro _ w ⟨z, rfl, hs⟩
        refine wp_on ?_
        refine wp_dn (us' := [z.v, .int .i64 ((i + 1 : Nat) : Int)]) (by (try simp (disch := omega) only [w64]); first | rfl | (congr; omega)) ?_
        refine wp_lp (A.fs.length - (i + 1)) ?_
        exact ⟨i + 1, z, rfl, by omega, rfl, hs⟩
      · refine wp_pass (wp_lv ⟨z, rfl, ?_⟩)
        rw [List.take_of_length_le (by omega)] at hs
        exact hs.sub
    clear hs
    rintro _ w ⟨z, rfl, hs⟩
    refine wp_on ?_
    (repeat (first | with_reducible (first | refine wp_on ?_ | refine wp_nn ?_ | refine wp_nng ?_ | refine wp_ldO hs ?_ | refine wp_ldG hs ?_ | refine wp_untick ?_ | refine wp_tk hs fun _ hs => ?_ | refine wp_newO hs fun _ _ hs => ?_ | refine wp_boxO hs fun _ _ hs => ?_ | refine wp_stO hs fun _ hs => ?_ | refine wp_stG hs fun _ hs => ?_) | (apply wp_must; (focus first | trivial | omega | assumption)) | refine wp_ltw ?_ | refine wp_lt ?_))
    exact ⟨rfl, rfl, rdk_close z (A := { A with fs := dropF n A.fs }) hs⟩

end
end Go.Dec

namespace Go.Dec
set_option linter.unusedVariables false
set_option linter.unusedSimpArgs false

section
variable {w : World} {l r : List HP} {q : Nat} {A : DiskA}

theorem has_of {fs : List FileA} {n : ByteArray} {i : Nat} (hi : i < fs.length) (hn : fs[i].name = n) : hasF fs n = true := hasF_iff.2 ⟨_, List.getElem_mem hi, hn⟩

theorem rremove_c (n : ByteArray) (hok : okA A) [hf : Fo l rdk q A r] (hs : Sat w l) : Ret P F.towpathref04_Disk_Remove #[.pointer (some ⟨q, 0, none⟩), .string n] w fun vs w' => vs = [.int .i64 (remA A n).1] ∧ Sat w' (rdk q (remA A n).2 :: r) :=
  towpathref04_Disk_Remove_calls _ n <| by
    unfold towpathref04_Disk_Remove remA
    obtain ⟨x, hs⟩ := rdk_open (hs.perm hf.perm)
    have hm := hok.many
    (repeat (first | with_reducible (first | refine wp_on ?_ | refine wp_nn ?_ | refine wp_nng ?_ | refine wp_ldO hs ?_ | refine wp_ldG hs ?_ | refine wp_untick ?_ | refine wp_tk hs fun _ hs => ?_ | refine wp_newO hs fun _ _ hs => ?_ | refine wp_boxO hs fun _ _ hs => ?_ | refine wp_stO hs fun _ hs => ?_ | refine wp_stG hs fun _ hs => ?_) | (apply wp_must; (focus first | trivial | omega | assumption)) | refine wp_ltw ?_ | refine wp_lt ?_))
    have hs : Sat w (rdk q A :: r) := rdk_close x hs
    refine wp_if (fun hg => ?_) fun hg => ?_
    · rw [if_pos hg]; exact ⟨rfl, rfl, hs⟩
    have hg : A.gone = false := by simpa using hg
    rw [if_neg (by rw [hg]; simp)]
    refine wp_call (rat_c n hok hs) fun _ w' h => ?_
    obtain ⟨⟨i, hi, rfl, hin⟩ | ⟨rfl, hno⟩, hs⟩ := h
    · refine ret_of ?_
      refine wp_ifF ?_
      rw [if_neg (by rw [has_of hi hin]; simp)]
      refine wp_call (without_c n (by omega) hs) fun _ _ hs => ?_
      obtain ⟨rfl, hs⟩ := hs
      refine ret_of ?_
      refine wp_call (rdone_c (okA_drop hok n) hg hs) fun _ _ hs => ?_
      obtain ⟨rfl, hs⟩ := hs
      refine ret_of ?_
      (repeat (first | with_reducible (first | refine wp_on ?_ | refine wp_nn ?_ | refine wp_nng ?_ | refine wp_ldO hs ?_ | refine wp_ldG hs ?_ | refine wp_untick ?_ | refine wp_tk hs fun _ hs => ?_ | refine wp_newO hs fun _ _ hs => ?_ | refine wp_boxO hs fun _ _ hs => ?_ | refine wp_stO hs fun _ hs => ?_ | refine wp_stG hs fun _ hs => ?_) | (apply wp_must; (focus first | trivial | omega | assumption)) | refine wp_ltw ?_ | refine wp_lt ?_))
      exact ⟨rfl, rfl, hs⟩
    · refine ret_of ?_
      refine wp_ifT ?_
      rw [if_pos (hasF_not.2 hno)]
      exact ⟨rfl, rfl, hs⟩

theorem rfuse_c (n : Int) [hf : Fo l rdk q A r] (hs : Sat w l) : Ret P F.towpathref04_Disk_Fuse #[.pointer (some ⟨q, 0, none⟩), .int .i64 n] w fun vs w' => vs = [] ∧ Sat w' (rdk q (fuseA A n) :: r) :=
  towpathref04_Disk_Fuse_calls _ n <| by
    unfold towpathref04_Disk_Fuse fuseA
    obtain ⟨x, hs⟩ := rdk_open (hs.perm hf.perm)
    (repeat (first | with_reducible (first | refine wp_on ?_ | refine wp_nn ?_ | refine wp_nng ?_ | refine wp_ldO hs ?_ | refine wp_ldG hs ?_ | refine wp_untick ?_ | refine wp_tk hs fun _ hs => ?_ | refine wp_newO hs fun _ _ hs => ?_ | refine wp_boxO hs fun _ _ hs => ?_ | refine wp_stO hs fun _ hs => ?_ | refine wp_stG hs fun _ hs => ?_) | (apply wp_must; (focus first | trivial | omega | assumption)) | refine wp_ltw ?_ | refine wp_lt ?_))
    refine wp_if (fun hg => ?_) fun hg => ?_
    · rw [if_pos hg]; exact ⟨rfl, rfl, rdk_close x hs⟩
    rw [if_neg hg]
    have hg : A.gone = false := by simpa using hg
    (repeat (first | with_reducible (first | refine wp_on ?_ | refine wp_nn ?_ | refine wp_nng ?_ | refine wp_ldO hs ?_ | refine wp_ldG hs ?_ | refine wp_untick ?_ | refine wp_tk hs fun _ hs => ?_ | refine wp_newO hs fun _ _ hs => ?_ | refine wp_boxO hs fun _ _ hs => ?_ | refine wp_stO hs fun _ hs => ?_ | refine wp_stG hs fun _ hs => ?_) | (apply wp_must; (focus first | trivial | omega | assumption)) | refine wp_ltw ?_ | refine wp_lt ?_))
    refine wp_mid (fun _ w' => Sat w' (rdk q { A with left := if n < 0 then -1 else n } :: r)) ?_ ?_
    · refine wp_if (fun h => ?_) fun h => ?_
      · (repeat (first | with_reducible (first | refine wp_on ?_ | refine wp_nn ?_ | refine wp_nng ?_ | refine wp_ldO hs ?_ | refine wp_ldG hs ?_ | refine wp_untick ?_ | refine wp_tk hs fun _ hs => ?_ | refine wp_newO hs fun _ _ hs => ?_ | refine wp_boxO hs fun _ _ hs => ?_ | refine wp_stO hs fun _ hs => ?_ | refine wp_stG hs fun _ hs => ?_) | (apply wp_must; (focus first | trivial | omega | assumption)) | refine wp_ltw ?_ | refine wp_lt ?_))
        refine wp_lv ?_
        rw [if_pos h]
        exact rdk_close x (A := { A with left := -1 }) hs
      · refine wp_lv ?_
        rw [if_neg h]
        exact rdk_close x (A := { A with left := n }) hs
    clear hs
    rintro _ w hs
    refine wp_on ?_
    obtain ⟨x, hs⟩ := rdk_open hs
    refine wp_mid (fun _ w' => Sat w' (rdk q { A with left := if n < 0 then -1 else n, gone := decide (n = 0) } :: r)) ?_ ?_
    · refine wp_if (fun h => ?_) fun h => ?_
      · (repeat (first | with_reducible (first | refine wp_on ?_ | refine wp_nn ?_ | refine wp_nng ?_ | refine wp_ldO hs ?_ | refine wp_ldG hs ?_ | refine wp_untick ?_ | refine wp_tk hs fun _ hs => ?_ | refine wp_newO hs fun _ _ hs => ?_ | refine wp_boxO hs fun _ _ hs => ?_ | refine wp_stO hs fun _ hs => ?_ | refine wp_stG hs fun _ hs => ?_) | (apply wp_must; (focus first | trivial | omega | assumption)) | refine wp_ltw ?_ | refine wp_lt ?_))
        refine wp_lv ?_
        rw [decide_eq_true h]
        exact rdk_close x (A := { A with left := if n < 0 then -1 else n, gone := true }) hs
      · refine wp_lv ?_
        rw [decide_eq_false h]
        dsimp only at hs
        rw [hg] at hs
        exact rdk_close x (A := { A with left := if n < 0 then -1 else n, gone := false }) hs
    rintro _ w' hs
    refine wp_on ?_
    exact ⟨rfl, rfl, hs⟩

theorem set_upd {fs : List FileA} {n : ByteArray} {g : FileA → FileA} (hnd : (fs.map (·.name)).Nodup) {i : Nat} (hi : i < fs.length) (hn : fs[i].name = n) : fs.set i (g fs[i]) = fs.map (updF n g) := by
  apply List.ext_getElem?
  intro j
  rw [List.getElem?_set, List.getElem?_map]
  by_cases hij : i = j
  · subst hij
    rw [if_pos rfl, if_pos hi, List.getElem?_eq_getElem hi, Option.map_some, updF, if_pos hn]
  · rw [if_neg hij]
    by_cases hj : j < fs.length
    · rw [List.getElem?_eq_getElem hj, Option.map_some, updF, if_neg]
      intro e
      have h := hnd
      rw [List.Nodup, List.pairwise_iff_getElem] at h
      rcases Nat.lt_or_gt_of_ne hij with h1 | h1
      · have := h i j (by simpa using hi) (by simpa using hj) h1
        simp only [List.getElem_map] at this
        exact this (by rw [hn, e])
      · have := h j i (by simpa using hj) (by simpa using hi) h1
        simp only [List.getElem_map] at this
        exact this (by rw [hn, e])
    · rw [List.getElem?_eq_none (by omega)]; rfl

theorem bytesOf_append (a b : List UInt8) : bytesOf (a ++ b) = bytesOf a ++ bytesOf b := bytes_ext (by simp [bytesOf])

theorem rappend_c (n : ByteArray) (bs : List UInt8) (hb : bs.length ≤ 1000000) (hn1 : n.size ≤ 1000000) (hok : okA A) [hf : Fo l rdk q A r] (hs : Sat w l) :
    Ret P F.towpathref04_Disk_Append #[.pointer (some ⟨q, 0, none⟩), .string n, .string (bytesOf bs)] w fun vs w' => vs = [.int .i64 (appendA A n bs).1] ∧ Sat w' (rdk q (appendA A n bs).2 :: r) :=
  towpathref04_Disk_Append_calls _ n (bytesOf bs) <| by
    unfold towpathref04_Disk_Append appendA
    rw [bytesOf_size]
    obtain ⟨x, hs⟩ := rdk_open (hs.perm hf.perm)
    have hm := hok.many
    have hu := hok.used
    (repeat (first | with_reducible (first | refine wp_on ?_ | refine wp_nn ?_ | refine wp_nng ?_ | refine wp_ldO hs ?_ | refine wp_ldG hs ?_ | refine wp_untick ?_ | refine wp_tk hs fun _ hs => ?_ | refine wp_newO hs fun _ _ hs => ?_ | refine wp_boxO hs fun _ _ hs => ?_ | refine wp_stO hs fun _ hs => ?_ | refine wp_stG hs fun _ hs => ?_) | (apply wp_must; (focus first | trivial | omega | assumption)) | refine wp_ltw ?_ | refine wp_lt ?_))
    have hs : Sat w (rdk q A :: r) := rdk_close x hs
    refine wp_if (fun hg => ?_) fun hg => ?_
    · rw [if_pos hg]; exact ⟨rfl, rfl, hs⟩
    have hg : A.gone = false := by simpa using hg
    rw [if_neg (by rw [hg]; simp)]
    refine wp_call (rname_c n hn1 hs) fun _ _ hs => ?_
    obtain ⟨rfl, hs⟩ := hs
    refine ret_of ?_
    refine wp_if (fun h => ?_) fun h => ?_
    · have h : nameF n = false := by simpa using h
      rw [if_pos h]; exact ⟨rfl, rfl, hs⟩
    have hnm : nameF n = true := by simpa using h
    rw [if_neg (by rw [hnm]; simp)]
    refine wp_call (rat_c n hok hs) fun _ w' h => ?_
    obtain ⟨hat, hs⟩ := h
    obtain ⟨k, rfl, hk⟩ : ∃ k : Int, ‹List Value› = [.int .i64 k] ∧ ((∃ (i : Nat) (hi : i < A.fs.length), k = i ∧ A.fs[i].name = n) ∨ (k = -1 ∧ ∀ f ∈ A.fs, f.name ≠ n)) := by
      rcases hat with ⟨i, hi, hv, hin⟩ | ⟨hv, hno⟩
      · exact ⟨_, hv, .inl ⟨i, hi, rfl, hin⟩⟩
      · exact ⟨_, hv, .inr ⟨rfl, hno⟩⟩
    refine ret_of ?_
    refine wp_lt ?_
    refine wp_call (rfree_c hok hs) fun _ _ hs => ?_
    obtain ⟨rfl, hs⟩ := hs
    refine ret_of ?_
    obtain ⟨x, hs⟩ := rdk_open hs
    have hl := hs.slen x (xs := A.fs) (enc := encF)
    (repeat (first | with_reducible (first | refine wp_on ?_ | refine wp_nn ?_ | refine wp_nng ?_ | refine wp_ldO hs ?_ | refine wp_ldG hs ?_ | refine wp_untick ?_ | refine wp_tk hs fun _ hs => ?_ | refine wp_newO hs fun _ _ hs => ?_ | refine wp_boxO hs fun _ _ hs => ?_ | refine wp_stO hs fun _ hs => ?_ | refine wp_stG hs fun _ hs => ?_) | (apply wp_must; (focus first | trivial | omega | assumption)) | refine wp_ltw ?_ | refine wp_lt ?_))
    have hlt : k < 0 ↔ hasF A.fs n = false := by
      rcases hk with ⟨i, hi, rfl, hin⟩ | ⟨rfl, hno⟩
      · rw [has_of hi hin]; simp
      · rw [hasF_not.2 hno]; simp
    refine wp_if (fun h => ?_) fun h => ?_
    · rw [if_pos (by
        rcases h with h | ⟨h1, h2⟩
        · left; omega
        · right; exact ⟨hlt.1 h1, by omega⟩)]
      exact ⟨rfl, rfl, rdk_close x hs⟩
    have hno2 : ¬ (bs.length > A.free ∨ (hasF A.fs n = false ∧ A.fs.length ≥ 128)) := by
      rintro (h1 | ⟨h1, h2⟩)
      · exact h (.inl (by omega))
      · exact h (.inr ⟨hlt.2 h1, by omega⟩)
    rw [if_neg hno2]
    have hfit : bs.length ≤ A.free := Nat.le_of_not_lt fun h1 => hno2 (.inl h1)
    have hok' := okA_append hok hnm hfit fun h1 => hno2 (.inr h1)
    refine wp_mid (fun _ w' => Sat w' (rdk q { A with fs := if hasF A.fs n then A.fs.map (updF n fun f => { f with b := f.b ++ bs }) else insF ⟨n, bs, 0⟩ A.fs } :: r)) ?_ ?_
    · refine wp_if (fun h3 => ?_) fun h3 => ?_
      · have hs : Sat _ (rdk q A :: r) := rdk_close x hs
        rw [if_neg (by rw [hlt.1 h3]; simp)]
        refine wp_call (with_c ⟨n, bs, 0⟩ (by omega) hs) fun _ _ hs => ?_
        obtain ⟨rfl, hs⟩ := hs
        refine ret_of ?_
        exact wp_lv hs
      · obtain ⟨i, hi, rfl, hin⟩ : ∃ (i : Nat) (hi : i < A.fs.length), k = i ∧ A.fs[i].name = n := hk.resolve_right fun h4 => h3 (by omega)
        have hbi := used_mem (List.getElem_mem hi)
        (repeat (first | with_reducible (first | refine wp_on ?_ | refine wp_nn ?_ | refine wp_nng ?_ | refine wp_ldO hs ?_ | refine wp_ldG hs ?_ | refine wp_untick ?_ | refine wp_tk hs fun _ hs => ?_ | refine wp_newO hs fun _ _ hs => ?_ | refine wp_boxO hs fun _ _ hs => ?_ | refine wp_stO hs fun _ hs => ?_ | refine wp_stG hs fun _ hs => ?_) | (apply wp_must; (focus first | trivial | omega | assumption)) | refine wp_ltw ?_ | refine wp_lt ?_))
        refine wp_ixF hs i hi ?_
        refine wp_must (by rw [bytesOf_size]; omega) ?_
        refine wp_ixSF hs i hi { A.fs[i] with b := A.fs[i].b ++ bs } (fun w' hs => ?_) rfl rfl (by simp [encF, bytesOf_append])
        refine wp_lv ?_
        rw [if_pos (has_of hi hin), ← set_upd (g := fun f => { f with b := f.b ++ bs }) (names_nodup hok.sorted) hi hin]
        exact rdk_close x (A := { A with fs := A.fs.set i { A.fs[i] with b := A.fs[i].b ++ bs } }) hs
    clear hs
    rintro _ w hs
    refine wp_on ?_
    refine wp_call (rdone_c hok' hg hs) fun _ _ hs => ?_
    obtain ⟨rfl, hs⟩ := hs
    refine ret_of ?_
    (repeat (first | with_reducible (first | refine wp_on ?_ | refine wp_nn ?_ | refine wp_nng ?_ | refine wp_ldO hs ?_ | refine wp_ldG hs ?_ | refine wp_untick ?_ | refine wp_tk hs fun _ hs => ?_ | refine wp_newO hs fun _ _ hs => ?_ | refine wp_boxO hs fun _ _ hs => ?_ | refine wp_stO hs fun _ hs => ?_ | refine wp_stG hs fun _ hs => ?_) | (apply wp_must; (focus first | trivial | omega | assumption)) | refine wp_ltw ?_ | refine wp_lt ?_))
    exact ⟨rfl, rfl, hs⟩

theorem rcut_c (n : ByteArray) (k : Int) (hok : okA A) [hf : Fo l rdk q A r] (hs : Sat w l) : Ret P F.towpathref04_Disk_Cut #[.pointer (some ⟨q, 0, none⟩), .string n, .int .i64 k] w fun vs w' => vs = [.int .i64 (cutA' A n k).1] ∧ Sat w' (rdk q (cutA' A n k).2 :: r) :=
  towpathref04_Disk_Cut_calls _ n k <| by
    unfold towpathref04_Disk_Cut cutA'
    obtain ⟨x, hs⟩ := rdk_open (hs.perm hf.perm)
    have hm := hok.many
    have hu := hok.used
    (repeat (first | with_reducible (first | refine wp_on ?_ | refine wp_nn ?_ | refine wp_nng ?_ | refine wp_ldO hs ?_ | refine wp_ldG hs ?_ | refine wp_untick ?_ | refine wp_tk hs fun _ hs => ?_ | refine wp_newO hs fun _ _ hs => ?_ | refine wp_boxO hs fun _ _ hs => ?_ | refine wp_stO hs fun _ hs => ?_ | refine wp_stG hs fun _ hs => ?_) | (apply wp_must; (focus first | trivial | omega | assumption)) | refine wp_ltw ?_ | refine wp_lt ?_))
    have hs : Sat w (rdk q A :: r) := rdk_close x hs
    refine wp_if (fun hg => ?_) fun hg => ?_
    · rw [if_pos hg]; exact ⟨rfl, rfl, hs⟩
    have hg : A.gone = false := by simpa using hg
    rw [if_neg (by rw [hg]; simp)]
    refine wp_call (rat_c n hok hs) fun _ w' h => ?_
    obtain ⟨⟨i, hi, rfl, hin⟩ | ⟨rfl, hno⟩, hs⟩ := h
    all_goals refine ret_of ?_
    all_goals refine wp_lt ?_
    rotate_left
    · refine wp_ifT ?_
      rw [if_pos (hasF_not.2 hno)]
      exact ⟨rfl, rfl, hs⟩
    refine wp_ifF ?_
    rw [if_neg (by rw [has_of hi hin]; simp), lenF_eq (names_nodup hok.sorted) (List.getElem_mem hi) hin]
    obtain ⟨x, hs⟩ := rdk_open hs
    have hl := hs.slen x (xs := A.fs) (enc := encF)
    have hbi := used_mem (List.getElem_mem hi)
    have hki := hok.kept _ (List.getElem_mem hi)
    (repeat (first | with_reducible (first | refine wp_on ?_ | refine wp_nn ?_ | refine wp_nng ?_ | refine wp_ldO hs ?_ | refine wp_ldG hs ?_ | refine wp_untick ?_ | refine wp_tk hs fun _ hs => ?_ | refine wp_newO hs fun _ _ hs => ?_ | refine wp_boxO hs fun _ _ hs => ?_ | refine wp_stO hs fun _ hs => ?_ | refine wp_stG hs fun _ hs => ?_) | (apply wp_must; (focus first | trivial | omega | assumption)) | refine wp_ltw ?_ | refine wp_lt ?_))
    refine wp_ixFg hs i hi ?_
    rw [bytesOf_size]
    refine wp_if (fun h => ?_) fun h => ?_
    · rw [if_pos h]
      exact ⟨rfl, rfl, rdk_close x hs⟩
    rw [if_neg h]
    obtain ⟨k, rfl⟩ : ∃ j : Nat, k = j := ⟨k.toNat, by omega⟩
    have ek : Int.toNat (k : Int) = k := Int.toNat_natCast k
    rw [ek]
    refine wp_tk hs fun w' hs => ?_
    refine wp_nn ?_
    refine wp_ldO hs ?_
    refine wp_nn ?_
    refine wp_ldO hs ?_
    refine wp_ixF hs i hi ?_
    refine wp_must (by rw [bytesOf_size]; omega) ?_
    have hcut : ByteArray.extract (bytesOf A.fs[i].b) 0 k = bytesOf (A.fs[i].b.take k) := bytes_ext (by simp [bytesOf, ByteArray.data_extract])
    rw [hcut]
    refine wp_ixSF hs i hi { A.fs[i] with b := A.fs[i].b.take k } (fun w' hs => ?_) rfl rfl (by simp [encF])
    have hi2 : i < (A.fs.set i { A.fs[i] with b := A.fs[i].b.take k }).length := by rw [List.length_set]; exact hi
    (repeat (first | with_reducible (first | refine wp_on ?_ | refine wp_nn ?_ | refine wp_nng ?_ | refine wp_ldO hs ?_ | refine wp_ldG hs ?_ | refine wp_untick ?_ | refine wp_tk hs fun _ hs => ?_ | refine wp_newO hs fun _ _ hs => ?_ | refine wp_boxO hs fun _ _ hs => ?_ | refine wp_stO hs fun _ hs => ?_ | refine wp_stG hs fun _ hs => ?_) | (apply wp_must; (focus first | trivial | omega | assumption)) | refine wp_ltw ?_ | refine wp_lt ?_))
    refine wp_ixF hs i hi2 ?_
    rw [List.getElem_set_self]
    have hset := set_upd (g := fun f => { f with b := f.b.take k, kept := min f.kept k }) (names_nodup hok.sorted) hi hin
    refine wp_mid (fun _ w' => Sat w' (rdk q { A with fs := A.fs.map (updF n fun f => { f with b := f.b.take k, kept := min f.kept k }) } :: r)) ?_ ?_
    · rw [← hset]
      refine wp_if (fun h3 => ?_) fun h3 => ?_
      · (repeat (first | with_reducible (first | refine wp_on ?_ | refine wp_nn ?_ | refine wp_nng ?_ | refine wp_ldO hs ?_ | refine wp_ldG hs ?_ | refine wp_untick ?_ | refine wp_tk hs fun _ hs => ?_ | refine wp_newO hs fun _ _ hs => ?_ | refine wp_boxO hs fun _ _ hs => ?_ | refine wp_stO hs fun _ hs => ?_ | refine wp_stG hs fun _ hs => ?_) | (apply wp_must; (focus first | trivial | omega | assumption)) | refine wp_ltw ?_ | refine wp_lt ?_))
        refine wp_ixSF hs i hi2 { A.fs[i] with b := A.fs[i].b.take k, kept := k } (fun w' hs => ?_) rfl rfl (by simp [encF])
        refine wp_lv ?_
        rw [List.set_set] at hs
        have e : min A.fs[i].kept k = k := by dsimp only at h3; omega
        rw [e]
        exact rdk_close x (A := { A with fs := A.fs.set i { A.fs[i] with b := A.fs[i].b.take k, kept := k } }) hs
      · refine wp_lv ?_
        have e : min A.fs[i].kept k = A.fs[i].kept := by dsimp only at h3; omega
        rw [e]
        exact rdk_close x (A := { A with fs := A.fs.set i { A.fs[i] with b := A.fs[i].b.take k } }) hs
    clear hs
    rintro _ w hs
    refine wp_on ?_
    have hok' : okA { A with fs := A.fs.map (updF n fun f => { f with b := f.b.take k, kept := min f.kept k }) } := by
      have h1 : ∀ fs : List FileA, used (fs.map (updF n fun f => { f with b := f.b.take k, kept := min f.kept k })) ≤ used fs := fun fs => by
        induction fs with
        | nil => exact Nat.le_refl _
        | cons f r ih =>
          rw [List.map_cons, used_cons, used_cons]
          have : (updF n (fun f => { f with b := f.b.take k, kept := min f.kept k }) f).b.length ≤ f.b.length := by
            unfold updF; split
            · show (f.b.take k).length ≤ _; rw [List.length_take]; omega
            · exact Nat.le_refl _
          omega
      refine ⟨hok.room, Nat.le_trans (h1 _) hok.used, by show (A.fs.map _).length ≤ _; rw [List.length_map]; exact hok.many, hok.left, sorted_map (updF_name fun _ => rfl) hok.sorted, fun f hf => ?_, fun f hf => ?_⟩
      · obtain ⟨g, hg', rfl⟩ := List.mem_map.1 hf
        have := hok.kept g hg'
        unfold updF
        split
        · show min g.kept k ≤ (g.b.take k).length; rw [List.length_take]; omega
        · exact this
      · obtain ⟨g, hg', rfl⟩ := List.mem_map.1 hf
        rw [updF_name (by intro _; rfl)]; exact hok.names g hg'
    refine wp_call (rdone_c hok' hg hs) fun _ _ hs => ?_
    obtain ⟨rfl, hs⟩ := hs
    refine ret_of ?_
    (repeat (first | with_reducible (first | refine wp_on ?_ | refine wp_nn ?_ | refine wp_nng ?_ | refine wp_ldO hs ?_ | refine wp_ldG hs ?_ | refine wp_untick ?_ | refine wp_tk hs fun _ hs => ?_ | refine wp_newO hs fun _ _ hs => ?_ | refine wp_boxO hs fun _ _ hs => ?_ | refine wp_stO hs fun _ hs => ?_ | refine wp_stG hs fun _ hs => ?_) | (apply wp_must; (focus first | trivial | omega | assumption)) | refine wp_ltw ?_ | refine wp_lt ?_))
    exact ⟨rfl, rfl, hs⟩

theorem rrename_c (a b : ByteArray) (hb1 : b.size ≤ 1000000) (hok : okA A) [hf : Fo l rdk q A r] (hs : Sat w l) : Ret P F.towpathref04_Disk_Rename #[.pointer (some ⟨q, 0, none⟩), .string a, .string b] w fun vs w' => vs = [.int .i64 (renA A a b).1] ∧ Sat w' (rdk q (renA A a b).2 :: r) :=
  towpathref04_Disk_Rename_calls _ a b <| by
    unfold towpathref04_Disk_Rename renA
    obtain ⟨x, hs⟩ := rdk_open (hs.perm hf.perm)
    have hm := hok.many
    (repeat (first | with_reducible (first | refine wp_on ?_ | refine wp_nn ?_ | refine wp_nng ?_ | refine wp_ldO hs ?_ | refine wp_ldG hs ?_ | refine wp_untick ?_ | refine wp_tk hs fun _ hs => ?_ | refine wp_newO hs fun _ _ hs => ?_ | refine wp_boxO hs fun _ _ hs => ?_ | refine wp_stO hs fun _ hs => ?_ | refine wp_stG hs fun _ hs => ?_) | (apply wp_must; (focus first | trivial | omega | assumption)) | refine wp_ltw ?_ | refine wp_lt ?_))
    have hs : Sat w (rdk q A :: r) := rdk_close x hs
    refine wp_if (fun hg => ?_) fun hg => ?_
    · rw [if_pos hg]; exact ⟨rfl, rfl, hs⟩
    have hg : A.gone = false := by simpa using hg
    rw [if_neg (by rw [hg]; simp)]
    refine wp_call (rat_c a hok hs) fun _ w' h => ?_
    obtain ⟨⟨i, hi, rfl, hin⟩ | ⟨rfl, hno⟩, hs⟩ := h
    all_goals refine ret_of ?_
    all_goals refine wp_lt ?_
    rotate_left
    · refine wp_ifT ?_
      rw [find_none hno]
      exact ⟨rfl, rfl, hs⟩
    refine wp_ifF ?_
    rw [find_name (names_nodup hok.sorted) (List.getElem_mem hi) hin]
    dsimp only
    refine wp_call (rname_c b hb1 hs) fun _ _ hs => ?_
    obtain ⟨rfl, hs⟩ := hs
    refine ret_of ?_
    refine wp_if (fun h => ?_) fun h => ?_
    · have h : nameF b = false := by simpa using h
      rw [if_pos h]; exact ⟨rfl, rfl, hs⟩
    have hnm : nameF b = true := by simpa using h
    rw [if_neg (by rw [hnm]; simp)]
    have hok' : okA (if a = b then A else { A with fs := insF { A.fs[i] with name := b } (dropF b (dropF a A.fs)) }) := by
      split
      · exact hok
      · rename_i hab
        rw [← hin]
        exact okA_ren hok (List.getElem_mem hi) b (by rw [hin]; exact hab) (nameF_size hnm)
    have hg' : (if a = b then A else { A with fs := insF { A.fs[i] with name := b } (dropF b (dropF a A.fs)) }).gone = false := by split <;> exact hg
    refine wp_mid (fun _ w' => Sat w' (rdk q (if a = b then A else { A with fs := insF { A.fs[i] with name := b } (dropF b (dropF a A.fs)) }) :: r)) ?_ ?_
    · refine wp_if (fun hab => ?_) fun hab => ?_
      · rw [if_neg hab]
        obtain ⟨x, hs⟩ := rdk_open hs
        have hl := hs.slen x (xs := A.fs) (enc := encF)
        (repeat (first | with_reducible (first | refine wp_on ?_ | refine wp_nn ?_ | refine wp_nng ?_ | refine wp_ldO hs ?_ | refine wp_ldG hs ?_ | refine wp_untick ?_ | refine wp_tk hs fun _ hs => ?_ | refine wp_newO hs fun _ _ hs => ?_ | refine wp_boxO hs fun _ _ hs => ?_ | refine wp_stO hs fun _ hs => ?_ | refine wp_stG hs fun _ hs => ?_) | (apply wp_must; (focus first | trivial | omega | assumption)) | refine wp_ltw ?_ | refine wp_lt ?_))
        refine wp_ixA hs i hi ?_
        refine wp_newO hs fun c w' hs => ?_
        refine wp_stG hs fun w' hs => ?_
        refine wp_stO hs fun w' hs => ?_
        have hs : Sat w' (rdk q A :: pt c (.cells #[.string b, .string (bytesOf A.fs[i].b), .int .i64 A.fs[i].kept] T.towpathref04_File) :: r) := rdk_close x hs
        have hd1 := dropF_len a A.fs
        have hd2 := dropF_len b (dropF a A.fs)
        refine wp_call (without_c a (by omega) hs) fun _ _ hs => ?_
        obtain ⟨rfl, hs⟩ := hs
        refine ret_of ?_
        refine wp_call (without_c (A := { A with fs := dropF a A.fs }) b (Nat.le_trans hd1 (by omega)) hs) fun _ _ hs => ?_
        obtain ⟨rfl, hs⟩ := hs
        refine ret_of ?_
        refine wp_ldG hs ?_
        refine wp_call (with_c (A := { A with fs := dropF b (dropF a A.fs) }) { A.fs[i] with name := b } (Nat.le_trans hd2 (Nat.le_trans hd1 (by omega))) hs) fun _ _ hs => ?_
        obtain ⟨rfl, hs⟩ := hs
        refine ret_of ?_
        exact wp_lv hs.sub
      · rw [if_pos (Decidable.not_not.1 hab)]
        exact wp_lv hs
    clear hs
    rintro _ w hs
    refine wp_on ?_
    refine wp_call (rdone_c hok' hg' hs) fun _ _ hs => ?_
    obtain ⟨rfl, hs⟩ := hs
    refine ret_of ?_
    (repeat (first | with_reducible (first | refine wp_on ?_ | refine wp_nn ?_ | refine wp_nng ?_ | refine wp_ldO hs ?_ | refine wp_ldG hs ?_ | refine wp_untick ?_ | refine wp_tk hs fun _ hs => ?_ | refine wp_newO hs fun _ _ hs => ?_ | refine wp_boxO hs fun _ _ hs => ?_ | refine wp_stO hs fun _ hs => ?_ | refine wp_stG hs fun _ hs => ?_) | (apply wp_must; (focus first | trivial | omega | assumption)) | refine wp_ltw ?_ | refine wp_lt ?_))
    exact ⟨rfl, rfl, hs⟩

end
end Go.Dec
