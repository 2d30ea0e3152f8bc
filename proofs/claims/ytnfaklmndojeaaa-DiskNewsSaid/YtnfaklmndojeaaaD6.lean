/- Disks: Append, Sync, Crash. -/
import Derived.Test.YtnfaklmndojeaaaN3
namespace Go.Dec
set_option linter.unusedVariables false
set_option linter.unusedSimpArgs false

/-- Elements that are slices of bytes: a slice of them, and what they hold, one behind the other. -/
def encL (x : Sl) : List Value := [x.v]
instance : Enc1 encL .slc (fun x => x) := ⟨fun _ => rfl⟩
instance : EncN encL 1 := ⟨fun _ => rfl, by decide, by simp [encL, Value.oneCell']⟩

/-- Each of these slices can be read: bytes. -/
def RdAll (l : List HP) : List Sl → List (List UInt8) → Prop
  | [], [] => True
  | x :: xs, b :: bs => (∀ w, Sat w l → Rd w 1 x (b.flatMap encU)) ∧ RdAll l xs bs
  | _, _ => False
theorem RdAll.length {l : List HP} : ∀ {xs : List Sl} {bs : List (List UInt8)}, RdAll l xs bs → xs.length = bs.length
  | [], [], _ => rfl
  | _ :: _, _ :: _, h => by rw [List.length_cons, List.length_cons, h.2.length]
theorem RdAll.get {l : List HP} : ∀ {xs : List Sl} {bs : List (List UInt8)} (h : RdAll l xs bs) (i : Nat) (h1 : i < xs.length) (h2 : i < bs.length), ∀ w, Sat w l → Rd w 1 xs[i] (bs[i].flatMap encU)
  | _ :: _, _ :: _, h, 0, _, _ => h.1
  | _ :: _, _ :: _, h, i + 1, h1, h2 => h.2.get i (by simpa using h1) (by simpa using h2)

theorem sum_append (a b : List Nat) : (a ++ b).sum = a.sum + b.sum := by simp
theorem flatten_take_succ {bs : List (List UInt8)} {i : Nat} (hi : i < bs.length) : (bs.take (i + 1)).flatten = (bs.take i).flatten ++ bs[i] := by
  rw [List.take_add_one, List.getElem?_eq_getElem hi, List.flatten_append]; simp

section
variable {w : World} {l r r0 : List HP} {d : Nat} {A : DiskA}

theorem okA_append (hok : okA A) {n : ByteArray} (hn : nameF n = true) {bs : List UInt8} (hb : bs.length ≤ A.free) (hm : ¬ (hasF A.fs n = false ∧ A.fs.length ≥ 128)) :
    okA { A with fs := if hasF A.fs n then A.fs.map (updF n fun f => { f with b := f.b ++ bs }) else insF ⟨n, bs, 0⟩ A.fs } := by
  have hr := hok.room
  have hu := hok.used
  unfold DiskA.free at hb
  by_cases h : hasF A.fs n = true
  · rw [if_pos h]
    obtain ⟨f, hf, rfl⟩ := hasF_iff.1 h
    obtain ⟨s, u, hsu⟩ := List.append_of_mem hf
    have hpm : A.fs.Perm (f :: (s ++ u)) := by rw [hsu]; exact List.perm_middle
    have hnd := (hpm.map (·.name)).nodup_iff.1 (names_nodup hok.sorted)
    rw [List.map_cons, List.nodup_cons] at hnd
    have hne : ∀ g ∈ s ++ u, g.name ≠ f.name := fun g hg e => hnd.1 (List.mem_map.2 ⟨g, hg, e⟩)
    have h1 := used_upd (g := fun f => { f with b := f.b ++ bs }) hpm hne
    have h2 : used A.fs = f.b.length + used (s ++ u) := by rw [used_perm hpm, used_cons]
    refine ⟨hok.room, ?_, by show (A.fs.map _).length ≤ _; rw [List.length_map]; exact hok.many, hok.left, sorted_map (updF_name fun _ => rfl) hok.sorted, fun g hg => ?_, fun g hg => ?_⟩
    · show used (A.fs.map _) ≤ _
      rw [h1]
      show (f.b ++ bs).length + _ ≤ _
      rw [List.length_append]; omega
    · obtain ⟨g, hg', rfl⟩ := List.mem_map.1 hg
      have := hok.kept g hg'
      unfold updF
      split
      · show g.kept ≤ (g.b ++ bs).length; rw [List.length_append]; omega
      · exact this
    · obtain ⟨g, hg', rfl⟩ := List.mem_map.1 hg
      rw [updF_name (by intro _; rfl)]; exact hok.names g hg'
  · have h : hasF A.fs n = false := by simpa using h
    rw [if_neg (by rw [h]; simp)]
    have hne := hasF_not.1 h
    have hp := insF_perm ⟨n, bs, 0⟩ A.fs
    refine ⟨hok.room, ?_, ?_, hok.left, sorted_insF _ hne hok.sorted, fun g hg => ?_, fun g hg => ?_⟩
    · show used (insF _ _) ≤ _
      rw [used_perm hp, used_cons]; show bs.length + _ ≤ _; omega
    · show (insF _ _).length ≤ _
      rw [hp.length_eq, List.length_cons]
      have := hok.many
      have : A.fs.length ≠ 128 := fun e => hm ⟨h, by omega⟩
      omega
    · rcases mem_insF.1 hg with rfl | hg
      · exact Nat.zero_le _
      · exact hok.kept g hg
    · rcases mem_insF.1 hg with rfl | hg
      · exact nameF_size hn
      · exact hok.names g hg

theorem insF_upd (x : FileA) (g : FileA → FileA) (hg : (g x).name = x.name) : ∀ {fs : List FileA}, (∀ f ∈ fs, f.name ≠ x.name) → (insF x fs).map (updF x.name g) = insF (g x) fs
  | [], _ => by simp [insF, updF]
  | f :: r, h => by
    have hf : updF x.name g f = f := by rw [updF, if_neg (h f (List.mem_cons_self ..))]
    have hr : r.map (updF x.name g) = r := by
      conv => rhs; rw [← List.map_id r]
      exact List.map_congr_left fun y hy => by rw [updF, if_neg (h y (List.mem_cons_of_mem _ hy))]; rfl
    rw [insF, insF, hg]
    split
    · rw [List.map_cons, List.map_cons, hf, hr, updF, if_pos rfl]
    · rw [List.map_cons, hf, insF_upd x g hg fun y hy => h y (List.mem_cons_of_mem _ hy)]

/-- Append: parts that can be read where the rest holds. -/
theorem append_c (n : ByteArray) (ps : Sl) (xs : List Sl) (bs : List (List UInt8)) [hps : FocR r ps 1 (xs.flatMap encL)] (hbs : RdAll r xs bs) (hlen : bs.length ≤ 1000) (hsum : ∀ b ∈ bs, b.length ≤ 100000000) [hf : Fo l dk d A r] (hs : Sat w l) :
    Ret P F.disk_Disk_Append #[.pointer (some ⟨d, 0, none⟩), .string n, ps.v] w fun vs w' => vs = [.int .i64 (appendA A n bs.flatten).1] ∧ Sat w' (dk d (appendA A n bs.flatten).2 :: r) :=
  disk_Disk_Append_calls _ n ps <| by
    unfold disk_Disk_Append appendA
    have hxl := hbs.length
    have hok0 : okA A := by obtain ⟨m, FS, hp, hok, hs⟩ := dk_open (hs.perm hf.perm); exact hok
    have hfr : A.free ≤ 4194304 := by have := hok0.room; unfold DiskA.free; omega
    refine may_if hs (fun hg w' hs => ?_) fun hg w' hs => ?_
    · rw [if_pos hg]; exact ⟨rfl, hs⟩
    rw [if_neg (by rw [hg]; simp)]
    have hpl := hs.slen ps (xs := xs) (enc := encL)
    refine wp_call (name_c n hs) fun _ _ hs => ?_
    obtain ⟨rfl, hs⟩ := hs
    refine ret_of ?_
    refine wp_if (fun h => ?_) fun h => ?_
    · have h : nameF n = false := by simpa using h
      rw [if_pos h]; exact ⟨rfl, rfl, hs⟩
    have hn : nameF n = true := by simpa using h
    rw [if_neg (by rw [hn]; simp)]
    -- how much there is to add
    refine wp_mid (fun v w' => bs.flatten.length ≤ A.free ∧ v = (((bs.flatten.length : Nat) : Int), ()) ∧ Sat w' (dk d A :: r)) ?_ ?_
    · refine wp_loop (fun k v w => ∃ i : Nat, v = ((((bs.take i).flatten.length : Nat) : Int), (i : Int), ()) ∧ i ≤ xs.length ∧ xs.length - i = k ∧ (bs.take i).flatten.length ≤ A.free ∧ Sat w (dk d A :: r)) xs.length ⟨0, rfl, by omega, rfl, by simp, hs⟩ ?_
      clear hs
      rintro k _ w ⟨i, rfl, hi, hk, hsm, hs⟩
      refine wp_on ?_
      refine wp_if (fun hc => ?_) fun hc => ?_
      · have hil : i < xs.length := by omega
        have hib : i < bs.length := by omega
        refine wp_ix1 hs i hil ?_
        have hrl : xs[i].len = bs[i].length := (hbs.get i hil hib _ hs.tail).len (enc := encU) (fun _ => rfl) (by decide)
        have hbi := hsum _ (List.getElem_mem hib)
        refine wp_call (free_c hs) fun _ _ hs => ?_
        obtain ⟨rfl, hs⟩ := hs
        refine ret_of ?_
        have ew : IntKind.wrap .i64 ((A.free : Int) - ((bs.take i).flatten.length : Nat)) = (A.free : Int) - ((bs.take i).flatten.length : Nat) := w64e
        rw [ew]
        refine wp_if (fun h3 => ?_) fun h3 => ?_
        · refine wp_pass (wp_pass ?_)
          rw [if_pos]
          · exact ⟨rfl, rfl, hs⟩
          · left
            have h4 : (bs.take (i + 1)).flatten.length ≤ bs.flatten.length := by
              have := congrArg (fun l : List (List UInt8) => l.flatten.length) (List.take_append_drop (i + 1) bs)
              simp only [List.flatten_append, List.length_append] at this
              omega
            rw [flatten_take_succ hib, List.length_append] at h4
            omega
        · refine wp_ltx (y := (((bs.take (i + 1)).flatten.length : Nat) : Int)) ?_ ?_
          · refine wp_dn (us' := [.int .i64 (((bs.take (i + 1)).flatten.length : Nat) : Int), .int .i64 ((i + 1 : Nat) : Int)]) (by (try simp (disch := omega) only [w64]); first | rfl | (congr; omega)) ?_
            refine wp_lp (xs.length - (i + 1)) ?_
            refine ⟨i + 1, rfl, by omega, rfl, ?_, hs⟩
            rw [flatten_take_succ hib, List.length_append]; omega
          · rw [flatten_take_succ hib, List.length_append, w64 (by omega) (by omega)]; omega
      · refine wp_pass (wp_lv ?_)
        rw [List.take_of_length_le (by omega)] at hsm ⊢
        exact ⟨hsm, rfl, hs⟩
    clear hs
    rintro _ w ⟨hfit, rfl, hs⟩
    refine wp_on ?_
    obtain ⟨m, FS, hp, hok, hs⟩ := dk_open hs
    have hou := hok.used
    have hor := hok.room
    have hfit' := hfit
    unfold DiskA.free at hfit'
    (repeat (first | with_reducible (first | refine wp_on ?_ | refine wp_nn ?_ | refine wp_nng ?_ | refine wp_ldO hs ?_ | refine wp_ldG hs ?_ | refine wp_untick ?_ | refine wp_tk hs fun _ hs => ?_ | refine wp_newO hs fun _ _ hs => ?_ | refine wp_boxO hs fun _ _ hs => ?_ | refine wp_stO hs fun _ hs => ?_ | refine wp_stG hs fun _ hs => ?_) | (apply wp_must; (focus first | trivial | omega | assumption)) | refine wp_ltw ?_ | refine wp_lt ?_))
    -- the file: there, or a new one
    have hnot : ∀ (g : Bool), hasF A.fs n = g → ¬ (g = false ∧ A.fs.length ≥ 128) → (if bs.flatten.length > A.free ∨ (hasF A.fs n = false ∧ A.fs.length ≥ 128) then ((5 : Int), A) else
        (0, doneA { A with fs := if hasF A.fs n then A.fs.map (updF n fun f => { f with b := f.b ++ bs.flatten }) else insF ⟨n, bs.flatten, 0⟩ A.fs })) =
        (0, doneA { A with fs := if hasF A.fs n then A.fs.map (updF n fun f => { f with b := f.b ++ bs.flatten }) else insF ⟨n, bs.flatten, 0⟩ A.fs }) := fun g hg h => by
      rw [if_neg]
      rintro (h1 | ⟨h1, h2⟩)
      · omega
      · exact h ⟨by rw [← hg, h1], h2⟩
    refine wp_lookOk hs (fun b hb => ?_) fun hb => ?_
    all_goals refine wp_lt ?_
    all_goals refine wp_mid (fun v w' => ∃ (t : FileM) (FS' : List FileM) (fs1 : List FileA), v = (some ⟨t.at_, 0, none⟩, ()) ∧ t.f.name = n ∧ fs1.Perm (t.f :: FS'.map FileM.f) ∧ (∀ g ∈ FS'.map FileM.f, g.name ≠ t.f.name) ∧ used fs1 = used A.fs ∧ ¬ (hasF A.fs n = false ∧ A.fs.length ≥ 128) ∧
        fs1.map (updF n fun f => { f with b := f.b ++ bs.flatten }) = (if hasF A.fs n then A.fs.map (updF n fun f => { f with b := f.b ++ bs.flatten }) else insF ⟨n, bs.flatten, 0⟩ A.fs) ∧
        Sat w' (pt t.at_ (.cells #[t.x.v, .int .i64 t.f.kept] T.disk_file) :: slc T.uint8 1 t.x (t.f.b.flatMap encU) :: HP.all (FS'.map fileP) :: pt d (.cells #[.int .i64 A.left, .bool A.gone, .int .i64 A.room, .int .i64 (used A.fs), .map (some m)] T.disk_Disk) :: mapP ekS evF m ((t :: FS').map fun t => (t.f.name, t.at_)) :: r)) ?_ ?_
    · obtain ⟨t, ht, rfl, rfl, hA⟩ := in_fs hp hb
      have hhas : hasF A.fs t.f.name = true := hasF_iff.2 ⟨_, hA, rfl⟩
      refine wp_ifF ?_ (by simp)
      obtain ⟨FS', hpm, hs⟩ := file_open hs ht
      obtain ⟨h1, h2, -⟩ := apart hp hok hpm
      refine wp_lv ?_
      refine ⟨t, FS', A.fs, rfl, rfl, h1, h2, rfl, by rw [hhas]; simp, by rw [if_pos hhas], ?_⟩
      have hs := (hs.pick [4]).mapPerm (hpm.map fun t => (t.f.name, t.at_))
      exact hs.sub
    rotate_left
    · have hno := not_fs hp hb
      have hhas := hasF_not.2 hno
      refine wp_ifT ?_ (by simp)
      (repeat (first | with_reducible (first | refine wp_on ?_ | refine wp_nn ?_ | refine wp_nng ?_ | refine wp_ldO hs ?_ | refine wp_ldG hs ?_ | refine wp_untick ?_ | refine wp_tk hs fun _ hs => ?_ | refine wp_newO hs fun _ _ hs => ?_ | refine wp_boxO hs fun _ _ hs => ?_ | refine wp_stO hs fun _ hs => ?_ | refine wp_stG hs fun _ hs => ?_) | (apply wp_must; (focus first | trivial | omega | assumption)) | refine wp_ltw ?_ | refine wp_lt ?_))
      refine wp_mlen hs ?_
      have hml : (FS.map fun t => (t.f.name, t.at_)).length = A.fs.length := by rw [List.length_map, ← hp.length_eq, List.length_map]
      rw [hml]
      refine wp_if (fun h3 => ?_) fun h3 => ?_
      · refine wp_pass ?_
        rw [if_pos (.inr ⟨hhas, by omega⟩)]
        exact ⟨rfl, rfl, dk_close m hp hok hs⟩
      refine wp_boxO hs fun a w' hs => ?_
      (repeat (first | with_reducible (first | refine wp_on ?_ | refine wp_nn ?_ | refine wp_nng ?_ | refine wp_ldO hs ?_ | refine wp_ldG hs ?_ | refine wp_untick ?_ | refine wp_tk hs fun _ hs => ?_ | refine wp_newO hs fun _ _ hs => ?_ | refine wp_boxO hs fun _ _ hs => ?_ | refine wp_stO hs fun _ hs => ?_ | refine wp_stG hs fun _ hs => ?_) | (apply wp_must; (focus first | trivial | omega | assumption)) | refine wp_ltw ?_ | refine wp_lt ?_))
      refine wp_mset hs (FS.map fun t => (t.f.name, t.at_)) (.inr ⟨hb, rfl⟩) a fun w' hs => ?_
      refine wp_lv ?_
      refine ⟨⟨a, ⟨none, 0, 0⟩, ⟨n, [], 0⟩⟩, FS, insF ⟨n, [], 0⟩ A.fs, rfl, rfl, (insF_perm _ _).trans (.cons _ hp.symm), fun g hg => hno g (hp.mem_iff.1 hg), ?_, by omega, ?_, ?_⟩
      · rw [used_perm (insF_perm _ _), used_cons]; exact Nat.zero_add _
      · rw [if_neg (by rw [hhas]; simp)]
        exact insF_upd ⟨n, [], 0⟩ (fun f => { f with b := f.b ++ bs.flatten }) rfl hno
      · exact (hs.slc_nil (T := T.uint8) (sz := 1)).pick [2, 0, 2, 1, 0]
    all_goals clear hs
    all_goals rintro _ w ⟨t, FS', fs1, rfl, htn, h1, h2, hus, hno, hfin, hs⟩
    all_goals refine wp_on ?_
    all_goals rw [hnot _ rfl hno, ← hfin]
    all_goals subst htn
    all_goals refine wp_mid (fun _ w' => ∃ x1 : Sl, Sat w' (pt t.at_ (.cells #[x1.v, .int .i64 t.f.kept] T.disk_file) :: slc T.uint8 1 x1 ((t.f.b ++ bs.flatten).flatMap encU) :: HP.all (FS'.map fileP) :: pt d (.cells #[.int .i64 A.left, .bool A.gone, .int .i64 A.room, .int .i64 (used A.fs), .map (some m)] T.disk_Disk) :: mapP ekS evF m ((t :: FS').map fun t => (t.f.name, t.at_)) :: r)) ?_ ?_
    · refine wp_loop (fun k v w => ∃ (i : Nat) (x1 : Sl), v = ((i : Int), ()) ∧ i ≤ xs.length ∧ xs.length - i = k ∧ Sat w (pt t.at_ (.cells #[x1.v, .int .i64 t.f.kept] T.disk_file) :: slc T.uint8 1 x1 ((t.f.b ++ (bs.take i).flatten).flatMap encU) :: HP.all (FS'.map fileP) :: pt d (.cells #[.int .i64 A.left, .bool A.gone, .int .i64 A.room, .int .i64 (used A.fs), .map (some m)] T.disk_Disk) :: mapP ekS evF m ((t :: FS').map fun t => (t.f.name, t.at_)) :: r)) xs.length ⟨0, t.x, rfl, by omega, rfl, by simpa using hs⟩ ?_
      clear hs
      rintro k _ w ⟨i, x1, rfl, hi, hk, hs⟩
      refine wp_on ?_
      refine wp_if (fun hc => ?_) fun hc => ?_
      · have hil : i < xs.length := by omega
        have hib : i < bs.length := by omega
        refine wp_ix1 hs i hil ?_
        have hrd : FocR r xs[i] 1 (bs[i].flatMap encU) := ⟨hbs.get i hil hib⟩
        have hbi := hsum _ (List.getElem_mem hib)
        have hsm : (bs.take i).flatten.length ≤ bs.flatten.length := by
          have := congrArg (fun l : List (List UInt8) => l.flatten.length) (List.take_append_drop i bs)
          simp only [List.flatten_append, List.length_append] at this
          omega
        have htb : t.f.b.length ≤ used fs1 := used_mem (h1.mem_iff.2 (List.mem_cons_self ..))
        (repeat (first | with_reducible (first | refine wp_on ?_ | refine wp_nn ?_ | refine wp_nng ?_ | refine wp_ldO hs ?_ | refine wp_ldG hs ?_ | refine wp_untick ?_ | refine wp_tk hs fun _ hs => ?_ | refine wp_newO hs fun _ _ hs => ?_ | refine wp_boxO hs fun _ _ hs => ?_ | refine wp_stO hs fun _ hs => ?_ | refine wp_stG hs fun _ hs => ?_) | (apply wp_must; (focus first | trivial | omega | assumption)) | refine wp_ltw ?_ | refine wp_lt ?_))
        refine wp_app' hs (xs := t.f.b ++ (bs.take i).flatten) (ys := bs[i]) (enc := encU) (fun z w' hs => ?_) (by rw [List.length_append]; omega)
        (repeat (first | with_reducible (first | refine wp_on ?_ | refine wp_nn ?_ | refine wp_nng ?_ | refine wp_ldO hs ?_ | refine wp_ldG hs ?_ | refine wp_untick ?_ | refine wp_tk hs fun _ hs => ?_ | refine wp_newO hs fun _ _ hs => ?_ | refine wp_boxO hs fun _ _ hs => ?_ | refine wp_stO hs fun _ hs => ?_ | refine wp_stG hs fun _ hs => ?_) | (apply wp_must; (focus first | trivial | omega | assumption)) | refine wp_ltw ?_ | refine wp_lt ?_))
        refine wp_dn (us' := [.int .i64 ((i + 1 : Nat) : Int)]) (by (try simp (disch := omega) only [w64]); first | rfl | (congr; omega)) ?_
        refine wp_lp (xs.length - (i + 1)) ?_
        refine ⟨i + 1, z, rfl, by omega, rfl, ?_⟩
        rw [flatten_take_succ hib, ← List.append_assoc]
        exact hs.sub
      · refine wp_pass (wp_lv ⟨x1, ?_⟩)
        rwa [List.take_of_length_le (l := bs) (by omega)] at hs
    rotate_left
    · refine wp_loop (fun k v w => ∃ (i : Nat) (x1 : Sl), v = ((i : Int), ()) ∧ i ≤ xs.length ∧ xs.length - i = k ∧ Sat w (pt t.at_ (.cells #[x1.v, .int .i64 t.f.kept] T.disk_file) :: slc T.uint8 1 x1 ((t.f.b ++ (bs.take i).flatten).flatMap encU) :: HP.all (FS'.map fileP) :: pt d (.cells #[.int .i64 A.left, .bool A.gone, .int .i64 A.room, .int .i64 (used A.fs), .map (some m)] T.disk_Disk) :: mapP ekS evF m ((t :: FS').map fun t => (t.f.name, t.at_)) :: r)) xs.length ⟨0, t.x, rfl, by omega, rfl, by simpa using hs⟩ ?_
      clear hs
      rintro k _ w ⟨i, x1, rfl, hi, hk, hs⟩
      refine wp_on ?_
      refine wp_if (fun hc => ?_) fun hc => ?_
      · have hil : i < xs.length := by omega
        have hib : i < bs.length := by omega
        refine wp_ix1 hs i hil ?_
        have hrd : FocR r xs[i] 1 (bs[i].flatMap encU) := ⟨hbs.get i hil hib⟩
        have hbi := hsum _ (List.getElem_mem hib)
        have hsm : (bs.take i).flatten.length ≤ bs.flatten.length := by
          have := congrArg (fun l : List (List UInt8) => l.flatten.length) (List.take_append_drop i bs)
          simp only [List.flatten_append, List.length_append] at this
          omega
        have htb : t.f.b.length ≤ used fs1 := used_mem (h1.mem_iff.2 (List.mem_cons_self ..))
        (repeat (first | with_reducible (first | refine wp_on ?_ | refine wp_nn ?_ | refine wp_nng ?_ | refine wp_ldO hs ?_ | refine wp_ldG hs ?_ | refine wp_untick ?_ | refine wp_tk hs fun _ hs => ?_ | refine wp_newO hs fun _ _ hs => ?_ | refine wp_boxO hs fun _ _ hs => ?_ | refine wp_stO hs fun _ hs => ?_ | refine wp_stG hs fun _ hs => ?_) | (apply wp_must; (focus first | trivial | omega | assumption)) | refine wp_ltw ?_ | refine wp_lt ?_))
        refine wp_app' hs (xs := t.f.b ++ (bs.take i).flatten) (ys := bs[i]) (enc := encU) (fun z w' hs => ?_) (by rw [List.length_append]; omega)
        (repeat (first | with_reducible (first | refine wp_on ?_ | refine wp_nn ?_ | refine wp_nng ?_ | refine wp_ldO hs ?_ | refine wp_ldG hs ?_ | refine wp_untick ?_ | refine wp_tk hs fun _ hs => ?_ | refine wp_newO hs fun _ _ hs => ?_ | refine wp_boxO hs fun _ _ hs => ?_ | refine wp_stO hs fun _ hs => ?_ | refine wp_stG hs fun _ hs => ?_) | (apply wp_must; (focus first | trivial | omega | assumption)) | refine wp_ltw ?_ | refine wp_lt ?_))
        refine wp_dn (us' := [.int .i64 ((i + 1 : Nat) : Int)]) (by (try simp (disch := omega) only [w64]); first | rfl | (congr; omega)) ?_
        refine wp_lp (xs.length - (i + 1)) ?_
        refine ⟨i + 1, z, rfl, by omega, rfl, ?_⟩
        rw [flatten_take_succ hib, ← List.append_assoc]
        exact hs.sub
      · refine wp_pass (wp_lv ⟨x1, ?_⟩)
        rwa [List.take_of_length_le (l := bs) (by omega)] at hs
    all_goals clear hs
    all_goals rintro _ w ⟨x1, hs⟩
    all_goals refine wp_on ?_
    all_goals have hu3 := used_upd (g := fun f => { f with b := f.b ++ bs.flatten }) h1 h2
    all_goals have hu4 : used fs1 = t.f.b.length + used (FS'.map FileM.f) := by rw [used_perm h1, used_cons]
    all_goals have hu5 : used (fs1.map (updF t.f.name fun f => { f with b := f.b ++ bs.flatten })) = used A.fs + bs.flatten.length := by (rw [hu3]; show (t.f.b ++ bs.flatten).length + _ = _; rw [List.length_append]; omega)
    all_goals have ew : IntKind.wrap .i64 (((used A.fs : Nat) : Int) + ((bs.flatten.length : Nat) : Int)) = ((used (fs1.map (updF t.f.name fun f => { f with b := f.b ++ bs.flatten })) : Nat) : Int) := by rw [hu5, w64 (by omega) (by omega)]; omega
    all_goals refine wp_nn ?_
    all_goals refine wp_ldO hs ?_
    all_goals rw [ew]
    all_goals (repeat (first | with_reducible (first | refine wp_on ?_ | refine wp_nn ?_ | refine wp_nng ?_ | refine wp_ldO hs ?_ | refine wp_ldG hs ?_ | refine wp_untick ?_ | refine wp_tk hs fun _ hs => ?_ | refine wp_newO hs fun _ _ hs => ?_ | refine wp_boxO hs fun _ _ hs => ?_ | refine wp_stO hs fun _ hs => ?_ | refine wp_stG hs fun _ hs => ?_) | (apply wp_must; (focus first | trivial | omega | assumption)) | refine wp_ltw ?_ | refine wp_lt ?_))
    all_goals have hs := file_close (FS := FS') ⟨t.at_, x1, { t.f with b := t.f.b ++ bs.flatten }⟩ hs
    all_goals have hp' : (((⟨t.at_, x1, { t.f with b := t.f.b ++ bs.flatten }⟩ : FileM) :: FS').map FileM.f).Perm (fs1.map (updF t.f.name fun f => { f with b := f.b ++ bs.flatten })) := (map_updF_perm (g := fun f => { f with b := f.b ++ bs.flatten }) h1 h2).symm
    all_goals have hok' := okA_append hok hn hfit hno
    all_goals rw [← hfin] at hok'
    all_goals have hs : Sat _ (mapP ekS evF m (((⟨t.at_, x1, { t.f with b := t.f.b ++ bs.flatten }⟩ : FileM) :: FS').map fun t => (t.f.name, t.at_)) :: _) := hs.pick [2]
    all_goals rw [hg] at hs
    all_goals refine wp_call (spend_dk (l' := r) hg hok' hp' hs) fun _ _ hs => ?_
    all_goals obtain ⟨rfl, hs⟩ := hs
    all_goals refine ret_of ?_
    all_goals exact ⟨rfl, rfl, hs⟩

end
end Go.Dec
