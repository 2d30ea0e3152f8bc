/- What the claim of this folder leans on: our own texts, joined, without what it does not use. -/
import Derived.Test.YtfnldnodhfkojaaGreatRows
import Derived.WalkKit
import Derived.ProofKit
import Derived.OpenShut
import Derived.RowKit3
import Derived.OrdersHeld
import Derived.Scope
import Derived.KernelRfl
import Derived.Laws.Sem
import Derived.Laws.StructEq
import Derived.Deep.AppendSrc
import Derived.Laws.BytesArg
import Derived.Laws.RangeString
import Derived.Maps.RangeRun
import Derived.Lib.ConvBytes
import Derived.Lib.SlBytesConst
import Derived.ChangeSlices
import Derived.ChangeMaps5
import Derived.ChangeSame
import Derived.Deep.Slices
import Derived.Deep.Fields
import Derived.Test.YtfnldnodhfkojaaGreatProg
import Derived.Laws.MakeOwn
import Derived.Sort.MapsRangeIn
import Derived.Sort.KeysCollected
import Derived.RangeFuncNested
import Derived.RangeFuncBound
import Derived.RangeFuncCalls
import Derived.RangeFuncLeaves
import Derived.RangeFuncBox
import Derived.OwnWalkIn
import Derived.TacticsInMore
import Derived.RegionIn
import Derived.LoopNIn
import Derived.LoopIn
import Derived.Maps.AppendAt
import Derived.Shelf.Abstract
import Derived.Test.YtfnldnodhfkojaaGreatQNews1
import Derived.Test.YtfnldnodhfkojaaGreatQNews2
import Derived.Test.YtfnldnodhfkojaaGreatQNews3
import Derived.Test.YtfnldnodhfkojaaGreatQNews4
import Derived.Test.YtfnldnodhfkojaaGreatQNews5
import Derived.Test.YtfnldnodhfkojaaGreatQNews6
namespace Go.Dec
set_option linter.unusedVariables false
set_option linter.unusedSimpArgs false
/-- Elements that are slices of bytes: a slice of them, and what they hold, one behind the other. -/
def encL (x : Sl) : List Value := [x.v]
instance : Enc1 encL .slc (fun x => x) := ⟨fun _ => rfl⟩
instance : EncN encL 1 := ⟨fun _ => rfl, by decide, by simp [encL, Value.oneCell']⟩
/-- Each of these slices can be read: bytes. -/
def RdAll (l : List HP) : List Sl → List (List UInt8) → Prop
  | [], [] => True
  | x :: xs, b :: bs => (∀ w, Sat w l → Rd w 1 x (b.flatMap encU)) ∧ RdAll l xs bs
  | _, _ => False
theorem RdAll.length {l : List HP} : ∀ {xs : List Sl} {bs : List (List UInt8)}, RdAll l xs bs → xs.length = bs.length
  | [], [], _ => rfl
  | _ :: _, _ :: _, h => by rw [List.length_cons, List.length_cons, h.2.length]
theorem RdAll.get {l : List HP} : ∀ {xs : List Sl} {bs : List (List UInt8)} (h : RdAll l xs bs) (i : Nat) (h1 : i < xs.length) (h2 : i < bs.length), ∀ w, Sat w l → Rd w 1 xs[i] (bs[i].flatMap encU)
  | _ :: _, _ :: _, h, 0, _, _ => h.1
  | _ :: _, _ :: _, h, i + 1, h1, h2 => h.2.get i (by simpa using h1) (by simpa using h2)
theorem flatten_take_succ {bs : List (List UInt8)} {i : Nat} (hi : i < bs.length) : (bs.take (i + 1)).flatten = (bs.take i).flatten ++ bs[i] := by
  rw [List.take_add_one, List.getElem?_eq_getElem hi, List.flatten_append]; simp
section
variable {w : World} {l r r0 : List HP} {d : Nat} {A : DiskA}
theorem okA_append (hok : okA A) {n : ByteArray} (hn : nameF n = true) {bs : List UInt8} (hb : bs.length ≤ A.free) (hm : ¬ (hasF A.fs n = false ∧ A.fs.length ≥ 128)) :
    okA { A with fs := if hasF A.fs n then A.fs.map (updF n fun f => { f with b := f.b ++ bs }) else insF ⟨n, bs, 0⟩ A.fs } := by
  have hr := hok.room
  have hu := hok.used
  unfold DiskA.free at hb
  by_cases h : hasF A.fs n = true
  · rw [if_pos h]
    obtain ⟨f, hf, rfl⟩ := hasF_iff.1 h
    obtain ⟨s, u, hsu⟩ := List.append_of_mem hf
    have hpm : A.fs.Perm (f :: (s ++ u)) := by rw [hsu]; exact List.perm_middle
    have hnd := (hpm.map (·.name)).nodup_iff.1 (names_nodup hok.sorted)
    rw [List.map_cons, List.nodup_cons] at hnd
    have hne : ∀ g ∈ s ++ u, g.name ≠ f.name := fun g hg e => hnd.1 (List.mem_map.2 ⟨g, hg, e⟩)
    have h1 := used_upd (g := fun f => { f with b := f.b ++ bs }) hpm hne
    have h2 : used A.fs = f.b.length + used (s ++ u) := by rw [used_perm hpm, used_cons]
    refine ⟨hok.room, ?_, by show (A.fs.map _).length ≤ _; rw [List.length_map]; exact hok.many, hok.left, sorted_map (updF_name fun _ => rfl) hok.sorted, fun g hg => ?_, fun g hg => ?_⟩
    · show used (A.fs.map _) ≤ _
      rw [h1]
      show (f.b ++ bs).length + _ ≤ _
      rw [List.length_append]; omega
    · obtain ⟨g, hg', rfl⟩ := List.mem_map.1 hg
      have := hok.kept g hg'
      unfold updF
      split
      · show g.kept ≤ (g.b ++ bs).length; rw [List.length_append]; omega
      · exact this
    · obtain ⟨g, hg', rfl⟩ := List.mem_map.1 hg
      rw [updF_name (by intro _; rfl)]; exact hok.names g hg'
  · have h : hasF A.fs n = false := by simpa using h
    rw [if_neg (by rw [h]; simp)]
    have hne := hasF_not.1 h
    have hp := insF_perm ⟨n, bs, 0⟩ A.fs
    refine ⟨hok.room, ?_, ?_, hok.left, sorted_insF _ hne hok.sorted, fun g hg => ?_, fun g hg => ?_⟩
    · show used (insF _ _) ≤ _
      rw [used_perm hp, used_cons]; show bs.length + _ ≤ _; omega
    · show (insF _ _).length ≤ _
      rw [hp.length_eq, List.length_cons]
      have := hok.many
      have : A.fs.length ≠ 128 := fun e => hm ⟨h, by omega⟩
      omega
    · rcases mem_insF.1 hg with rfl | hg
      · exact Nat.zero_le _
      · exact hok.kept g hg
    · rcases mem_insF.1 hg with rfl | hg
      · exact nameF_size hn
      · exact hok.names g hg
theorem insF_upd (x : FileA) (g : FileA → FileA) (hg : (g x).name = x.name) : ∀ {fs : List FileA}, (∀ f ∈ fs, f.name ≠ x.name) → (insF x fs).map (updF x.name g) = insF (g x) fs
  | [], _ => by simp [insF, updF]
  | f :: r, h => by
    have hf : updF x.name g f = f := by rw [updF, if_neg (h f (List.mem_cons_self ..))]
    have hr : r.map (updF x.name g) = r := by
      conv => rhs; rw [← List.map_id r]
      exact List.map_congr_left fun y hy => by rw [updF, if_neg (h y (List.mem_cons_of_mem _ hy))]; rfl
    rw [insF, insF, hg]
    split
    · rw [List.map_cons, List.map_cons, hf, hr, updF, if_pos rfl]
    · rw [List.map_cons, hf, insF_upd x g hg fun y hy => h y (List.mem_cons_of_mem _ hy)]
/-- Append: parts that can be read where the rest holds. -/
theorem append_c (n : ByteArray) (ps : Sl) (xs : List Sl) (bs : List (List UInt8)) [hps : FocR r ps 1 (xs.flatMap encL)] (hbs : RdAll r xs bs) (hlen : bs.length ≤ 1000) (hsum : ∀ b ∈ bs, b.length ≤ 100000000) [hf : Fo l dk d A r] (hs : Sat w l) :
    Ret P F.disk_Disk_Append #[.pointer (some ⟨d, 0, none⟩), .string n, ps.v] w fun vs w' => vs = [.int .i64 (appendA A n bs.flatten).1] ∧ Sat w' (dk d (appendA A n bs.flatten).2 :: r) :=
  disk_Disk_Append_calls _ n ps <| by
    unfold disk_Disk_Append appendA
    have hxl := hbs.length
    have hok0 : okA A := by obtain ⟨m, FS, hp, hok, hs⟩ := dk_open (hs.perm hf.perm); exact hok
    have hfr : A.free ≤ 4194304 := by have := hok0.room; unfold DiskA.free; omega
    refine may_if hs (fun hg w' hs => ?_) fun hg w' hs => ?_
    · rw [if_pos hg]; exact ⟨rfl, hs⟩
    rw [if_neg (by rw [hg]; simp)]
    have hpl := hs.slen ps (xs := xs) (enc := encL)
    refine wp_call (name_c n hs) fun _ _ hs => ?_
    obtain ⟨rfl, hs⟩ := hs
    refine ret_of ?_
    refine wp_if (fun h => ?_) fun h => ?_
    · have h : nameF n = false := by simpa using h
      rw [if_pos h]; exact ⟨rfl, rfl, hs⟩
    have hn : nameF n = true := by simpa using h
    rw [if_neg (by rw [hn]; simp)]
    -- how much there is to add
    refine wp_mid (fun v w' => bs.flatten.length ≤ A.free ∧ v = (((bs.flatten.length : Nat) : Int), ()) ∧ Sat w' (dk d A :: r)) ?_ ?_
    · refine wp_loop (fun k v w => ∃ i : Nat, v = ((((bs.take i).flatten.length : Nat) : Int), (i : Int), ()) ∧ i ≤ xs.length ∧ xs.length - i = k ∧ (bs.take i).flatten.length ≤ A.free ∧ Sat w (dk d A :: r)) xs.length ⟨0, rfl, by omega, rfl, by simp, hs⟩ ?_
      clear hs
      rintro k _ w ⟨i, rfl, hi, hk, hsm, hs⟩
      refine wp_on ?_
      refine wp_if (fun hc => ?_) fun hc => ?_
      · have hil : i < xs.length := by omega
        have hib : i < bs.length := by omega
        refine wp_ix1 hs i hil ?_
        have hrl : xs[i].len = bs[i].length := (hbs.get i hil hib _ hs.tail).len (enc := encU) (fun _ => rfl) (by decide)
        have hbi := hsum _ (List.getElem_mem hib)
        refine wp_call (free_c hs) fun _ _ hs => ?_
        obtain ⟨rfl, hs⟩ := hs
        refine ret_of ?_
        have ew : IntKind.wrap .i64 ((A.free : Int) - ((bs.take i).flatten.length : Nat)) = (A.free : Int) - ((bs.take i).flatten.length : Nat) := w64e
        rw [ew]
        refine wp_if (fun h3 => ?_) fun h3 => ?_
        · refine wp_pass (wp_pass ?_)
          rw [if_pos]
          · exact ⟨rfl, rfl, hs⟩
          · left
            have h4 : (bs.take (i + 1)).flatten.length ≤ bs.flatten.length := by
              have := congrArg (fun l : List (List UInt8) => l.flatten.length) (List.take_append_drop (i + 1) bs)
              simp only [List.flatten_append, List.length_append] at this
              omega
            rw [flatten_take_succ hib, List.length_append] at h4
            omega
        · refine wp_ltx (y := (((bs.take (i + 1)).flatten.length : Nat) : Int)) ?_ ?_
          · refine wp_dn (us' := [.int .i64 (((bs.take (i + 1)).flatten.length : Nat) : Int), .int .i64 ((i + 1 : Nat) : Int)]) (by (try simp (disch := omega) only [w64]); first | rfl | (congr; omega)) ?_
            refine wp_lp (xs.length - (i + 1)) ?_
            refine ⟨i + 1, rfl, by omega, rfl, ?_, hs⟩
            rw [flatten_take_succ hib, List.length_append]; omega
          · rw [flatten_take_succ hib, List.length_append, w64 (by omega) (by omega)]; omega
      · refine wp_pass (wp_lv ?_)
        rw [List.take_of_length_le (by omega)] at hsm ⊢
        exact ⟨hsm, rfl, hs⟩
    clear hs
    rintro _ w ⟨hfit, rfl, hs⟩
    refine wp_on ?_
    obtain ⟨m, FS, hp, hok, hs⟩ := dk_open hs
    have hou := hok.used
    have hor := hok.room
    have hfit' := hfit
    unfold DiskA.free at hfit'
    (repeat (first | with_reducible (first | refine wp_on ?_ | refine wp_nn ?_ | refine wp_nng ?_ | refine wp_ldO hs ?_ | refine wp_ldG hs ?_ | refine wp_untick ?_ | refine wp_tk hs fun _ hs => ?_ | refine wp_newO hs fun _ _ hs => ?_ | refine wp_boxO hs fun _ _ hs => ?_ | refine wp_stO hs fun _ hs => ?_ | refine wp_stG hs fun _ hs => ?_) | (apply wp_must; (focus first | trivial | omega | assumption)) | refine wp_ltw ?_ | refine wp_lt ?_))
    -- the file: there, or a new one
    have hnot : ∀ (g : Bool), hasF A.fs n = g → ¬ (g = false ∧ A.fs.length ≥ 128) → (if bs.flatten.length > A.free ∨ (hasF A.fs n = false ∧ A.fs.length ≥ 128) then ((5 : Int), A) else
        (0, doneA { A with fs := if hasF A.fs n then A.fs.map (updF n fun f => { f with b := f.b ++ bs.flatten }) else insF ⟨n, bs.flatten, 0⟩ A.fs })) =
        (0, doneA { A with fs := if hasF A.fs n then A.fs.map (updF n fun f => { f with b := f.b ++ bs.flatten }) else insF ⟨n, bs.flatten, 0⟩ A.fs }) := fun g hg h => by
      rw [if_neg]
      rintro (h1 | ⟨h1, h2⟩)
      · omega
      · exact h ⟨by rw [← hg, h1], h2⟩
    refine wp_lookOk hs (fun b hb => ?_) fun hb => ?_
    all_goals refine wp_lt ?_
    all_goals refine wp_mid (fun v w' => ∃ (t : FileM) (FS' : List FileM) (fs1 : List FileA), v = (some ⟨t.at_, 0, none⟩, ()) ∧ t.f.name = n ∧ fs1.Perm (t.f :: FS'.map FileM.f) ∧ (∀ g ∈ FS'.map FileM.f, g.name ≠ t.f.name) ∧ used fs1 = used A.fs ∧ ¬ (hasF A.fs n = false ∧ A.fs.length ≥ 128) ∧
        fs1.map (updF n fun f => { f with b := f.b ++ bs.flatten }) = (if hasF A.fs n then A.fs.map (updF n fun f => { f with b := f.b ++ bs.flatten }) else insF ⟨n, bs.flatten, 0⟩ A.fs) ∧
        Sat w' (pt t.at_ (.cells #[t.x.v, .int .i64 t.f.kept] T.disk_file) :: slc T.uint8 1 t.x (t.f.b.flatMap encU) :: HP.all (FS'.map fileP) :: pt d (.cells #[.int .i64 A.left, .bool A.gone, .int .i64 A.room, .int .i64 (used A.fs), .map (some m)] T.disk_Disk) :: mapP ekS evF m ((t :: FS').map fun t => (t.f.name, t.at_)) :: r)) ?_ ?_
    · obtain ⟨t, ht, rfl, rfl, hA⟩ := in_fs hp hb
      have hhas : hasF A.fs t.f.name = true := hasF_iff.2 ⟨_, hA, rfl⟩
      refine wp_ifF ?_ (by simp)
      obtain ⟨FS', hpm, hs⟩ := file_open hs ht
      obtain ⟨h1, h2, -⟩ := apart hp hok hpm
      refine wp_lv ?_
      refine ⟨t, FS', A.fs, rfl, rfl, h1, h2, rfl, by rw [hhas]; simp, by rw [if_pos hhas], ?_⟩
      have hs := (hs.pick [4]).mapPerm (hpm.map fun t => (t.f.name, t.at_))
      exact hs.sub
    rotate_left
    · have hno := not_fs hp hb
      have hhas := hasF_not.2 hno
      refine wp_ifT ?_ (by simp)
      (repeat (first | with_reducible (first | refine wp_on ?_ | refine wp_nn ?_ | refine wp_nng ?_ | refine wp_ldO hs ?_ | refine wp_ldG hs ?_ | refine wp_untick ?_ | refine wp_tk hs fun _ hs => ?_ | refine wp_newO hs fun _ _ hs => ?_ | refine wp_boxO hs fun _ _ hs => ?_ | refine wp_stO hs fun _ hs => ?_ | refine wp_stG hs fun _ hs => ?_) | (apply wp_must; (focus first | trivial | omega | assumption)) | refine wp_ltw ?_ | refine wp_lt ?_))
      refine wp_mlen hs ?_
      have hml : (FS.map fun t => (t.f.name, t.at_)).length = A.fs.length := by rw [List.length_map, ← hp.length_eq, List.length_map]
      rw [hml]
      refine wp_if (fun h3 => ?_) fun h3 => ?_
      · refine wp_pass ?_
        rw [if_pos (.inr ⟨hhas, by omega⟩)]
        exact ⟨rfl, rfl, dk_close m hp hok hs⟩
      refine wp_boxO hs fun a w' hs => ?_
      (repeat (first | with_reducible (first | refine wp_on ?_ | refine wp_nn ?_ | refine wp_nng ?_ | refine wp_ldO hs ?_ | refine wp_ldG hs ?_ | refine wp_untick ?_ | refine wp_tk hs fun _ hs => ?_ | refine wp_newO hs fun _ _ hs => ?_ | refine wp_boxO hs fun _ _ hs => ?_ | refine wp_stO hs fun _ hs => ?_ | refine wp_stG hs fun _ hs => ?_) | (apply wp_must; (focus first | trivial | omega | assumption)) | refine wp_ltw ?_ | refine wp_lt ?_))
      refine wp_mset hs (FS.map fun t => (t.f.name, t.at_)) (.inr ⟨hb, rfl⟩) a fun w' hs => ?_
      refine wp_lv ?_
      refine ⟨⟨a, ⟨none, 0, 0⟩, ⟨n, [], 0⟩⟩, FS, insF ⟨n, [], 0⟩ A.fs, rfl, rfl, (insF_perm _ _).trans (.cons _ hp.symm), fun g hg => hno g (hp.mem_iff.1 hg), ?_, by omega, ?_, ?_⟩
      · rw [used_perm (insF_perm _ _), used_cons]; exact Nat.zero_add _
      · rw [if_neg (by rw [hhas]; simp)]
        exact insF_upd ⟨n, [], 0⟩ (fun f => { f with b := f.b ++ bs.flatten }) rfl hno
      · exact (hs.slc_nil (T := T.uint8) (sz := 1)).pick [2, 0, 2, 1, 0]
    all_goals clear hs
    all_goals rintro _ w ⟨t, FS', fs1, rfl, htn, h1, h2, hus, hno, hfin, hs⟩
    all_goals refine wp_on ?_
    all_goals rw [hnot _ rfl hno, ← hfin]
    all_goals subst htn
    all_goals refine wp_mid (fun _ w' => ∃ x1 : Sl, Sat w' (pt t.at_ (.cells #[x1.v, .int .i64 t.f.kept] T.disk_file) :: slc T.uint8 1 x1 ((t.f.b ++ bs.flatten).flatMap encU) :: HP.all (FS'.map fileP) :: pt d (.cells #[.int .i64 A.left, .bool A.gone, .int .i64 A.room, .int .i64 (used A.fs), .map (some m)] T.disk_Disk) :: mapP ekS evF m ((t :: FS').map fun t => (t.f.name, t.at_)) :: r)) ?_ ?_
    · refine wp_loop (fun k v w => ∃ (i : Nat) (x1 : Sl), v = ((i : Int), ()) ∧ i ≤ xs.length ∧ xs.length - i = k ∧ Sat w (pt t.at_ (.cells #[x1.v, .int .i64 t.f.kept] T.disk_file) :: slc T.uint8 1 x1 ((t.f.b ++ (bs.take i).flatten).flatMap encU) :: HP.all (FS'.map fileP) :: pt d (.cells #[.int .i64 A.left, .bool A.gone, .int .i64 A.room, .int .i64 (used A.fs), .map (some m)] T.disk_Disk) :: mapP ekS evF m ((t :: FS').map fun t => (t.f.name, t.at_)) :: r)) xs.length ⟨0, t.x, rfl, by omega, rfl, by simpa using hs⟩ ?_
      clear hs
      rintro k _ w ⟨i, x1, rfl, hi, hk, hs⟩
      refine wp_on ?_
      refine wp_if (fun hc => ?_) fun hc => ?_
      · have hil : i < xs.length := by omega
        have hib : i < bs.length := by omega
        refine wp_ix1 hs i hil ?_
        have hrd : FocR r xs[i] 1 (bs[i].flatMap encU) := ⟨hbs.get i hil hib⟩
        have hbi := hsum _ (List.getElem_mem hib)
        have hsm : (bs.take i).flatten.length ≤ bs.flatten.length := by
          have := congrArg (fun l : List (List UInt8) => l.flatten.length) (List.take_append_drop i bs)
          simp only [List.flatten_append, List.length_append] at this
          omega
        have htb : t.f.b.length ≤ used fs1 := used_mem (h1.mem_iff.2 (List.mem_cons_self ..))
        (repeat (first | with_reducible (first | refine wp_on ?_ | refine wp_nn ?_ | refine wp_nng ?_ | refine wp_ldO hs ?_ | refine wp_ldG hs ?_ | refine wp_untick ?_ | refine wp_tk hs fun _ hs => ?_ | refine wp_newO hs fun _ _ hs => ?_ | refine wp_boxO hs fun _ _ hs => ?_ | refine wp_stO hs fun _ hs => ?_ | refine wp_stG hs fun _ hs => ?_) | (apply wp_must; (focus first | trivial | omega | assumption)) | refine wp_ltw ?_ | refine wp_lt ?_))
        refine wp_app' hs (xs := t.f.b ++ (bs.take i).flatten) (ys := bs[i]) (enc := encU) (fun z w' hs => ?_) (by rw [List.length_append]; omega)
        (repeat (first | with_reducible (first | refine wp_on ?_ | refine wp_nn ?_ | refine wp_nng ?_ | refine wp_ldO hs ?_ | refine wp_ldG hs ?_ | refine wp_untick ?_ | refine wp_tk hs fun _ hs => ?_ | refine wp_newO hs fun _ _ hs => ?_ | refine wp_boxO hs fun _ _ hs => ?_ | refine wp_stO hs fun _ hs => ?_ | refine wp_stG hs fun _ hs => ?_) | (apply wp_must; (focus first | trivial | omega | assumption)) | refine wp_ltw ?_ | refine wp_lt ?_))
        refine wp_dn (us' := [.int .i64 ((i + 1 : Nat) : Int)]) (by (try simp (disch := omega) only [w64]); first | rfl | (congr; omega)) ?_
        refine wp_lp (xs.length - (i + 1)) ?_
        refine ⟨i + 1, z, rfl, by omega, rfl, ?_⟩
        rw [flatten_take_succ hib, ← List.append_assoc]
        exact hs.sub
      · refine wp_pass (wp_lv ⟨x1, ?_⟩)
        rwa [List.take_of_length_le (l := bs) (by omega)] at hs
    rotate_left
    · refine wp_loop (fun k v w => ∃ (i : Nat) (x1 : Sl), v = ((i : Int), ()) ∧ i ≤ xs.length ∧ xs.length - i = k ∧ Sat w (pt t.at_ (.cells #[x1.v, .int .i64 t.f.kept] T.disk_file) :: slc T.uint8 1 x1 ((t.f.b ++ (bs.take i).flatten).flatMap encU) :: HP.all (FS'.map fileP) :: pt d (.cells #[.int .i64 A.left, .bool A.gone, .int .i64 A.room, .int .i64 (used A.fs), .map (some m)] T.disk_Disk) :: mapP ekS evF m ((t :: FS').map fun t => (t.f.name, t.at_)) :: r)) xs.length ⟨0, t.x, rfl, by omega, rfl, by simpa using hs⟩ ?_
      clear hs
      rintro k _ w ⟨i, x1, rfl, hi, hk, hs⟩
      refine wp_on ?_
      refine wp_if (fun hc => ?_) fun hc => ?_
      · have hil : i < xs.length := by omega
        have hib : i < bs.length := by omega
        refine wp_ix1 hs i hil ?_
        have hrd : FocR r xs[i] 1 (bs[i].flatMap encU) := ⟨hbs.get i hil hib⟩
        have hbi := hsum _ (List.getElem_mem hib)
        have hsm : (bs.take i).flatten.length ≤ bs.flatten.length := by
          have := congrArg (fun l : List (List UInt8) => l.flatten.length) (List.take_append_drop i bs)
          simp only [List.flatten_append, List.length_append] at this
          omega
        have htb : t.f.b.length ≤ used fs1 := used_mem (h1.mem_iff.2 (List.mem_cons_self ..))
        (repeat (first | with_reducible (first | refine wp_on ?_ | refine wp_nn ?_ | refine wp_nng ?_ | refine wp_ldO hs ?_ | refine wp_ldG hs ?_ | refine wp_untick ?_ | refine wp_tk hs fun _ hs => ?_ | refine wp_newO hs fun _ _ hs => ?_ | refine wp_boxO hs fun _ _ hs => ?_ | refine wp_stO hs fun _ hs => ?_ | refine wp_stG hs fun _ hs => ?_) | (apply wp_must; (focus first | trivial | omega | assumption)) | refine wp_ltw ?_ | refine wp_lt ?_))
        refine wp_app' hs (xs := t.f.b ++ (bs.take i).flatten) (ys := bs[i]) (enc := encU) (fun z w' hs => ?_) (by rw [List.length_append]; omega)
        (repeat (first | with_reducible (first | refine wp_on ?_ | refine wp_nn ?_ | refine wp_nng ?_ | refine wp_ldO hs ?_ | refine wp_ldG hs ?_ | refine wp_untick ?_ | refine wp_tk hs fun _ hs => ?_ | refine wp_newO hs fun _ _ hs => ?_ | refine wp_boxO hs fun _ _ hs => ?_ | refine wp_stO hs fun _ hs => ?_ | refine wp_stG hs fun _ hs => ?_) | (apply wp_must; (focus first | trivial | omega | assumption)) | refine wp_ltw ?_ | refine wp_lt ?_))
        refine wp_dn (us' := [.int .i64 ((i + 1 : Nat) : Int)]) (by (try simp (disch := omega) only [w64]); first | rfl | (congr; omega)) ?_
        refine wp_lp (xs.length - (i + 1)) ?_
        refine ⟨i + 1, z, rfl, by omega, rfl, ?_⟩
        rw [flatten_take_succ hib, ← List.append_assoc]
        exact hs.sub
      · refine wp_pass (wp_lv ⟨x1, ?_⟩)
        rwa [List.take_of_length_le (l := bs) (by omega)] at hs
    all_goals clear hs
    all_goals rintro _ w ⟨x1, hs⟩
    all_goals refine wp_on ?_
    all_goals have hu3 := used_upd (g := fun f => { f with b := f.b ++ bs.flatten }) h1 h2
    all_goals have hu4 : used fs1 = t.f.b.length + used (FS'.map FileM.f) := by rw [used_perm h1, used_cons]
    all_goals have hu5 : used (fs1.map (updF t.f.name fun f => { f with b := f.b ++ bs.flatten })) = used A.fs + bs.flatten.length := by (rw [hu3]; show (t.f.b ++ bs.flatten).length + _ = _; rw [List.length_append]; omega)
    all_goals have ew : IntKind.wrap .i64 (((used A.fs : Nat) : Int) + ((bs.flatten.length : Nat) : Int)) = ((used (fs1.map (updF t.f.name fun f => { f with b := f.b ++ bs.flatten })) : Nat) : Int) := by rw [hu5, w64 (by omega) (by omega)]; omega
    all_goals refine wp_nn ?_
    all_goals refine wp_ldO hs ?_
    all_goals rw [ew]
    all_goals (repeat (first | with_reducible (first | refine wp_on ?_ | refine wp_nn ?_ | refine wp_nng ?_ | refine wp_ldO hs ?_ | refine wp_ldG hs ?_ | refine wp_untick ?_ | refine wp_tk hs fun _ hs => ?_ | refine wp_newO hs fun _ _ hs => ?_ | refine wp_boxO hs fun _ _ hs => ?_ | refine wp_stO hs fun _ hs => ?_ | refine wp_stG hs fun _ hs => ?_) | (apply wp_must; (focus first | trivial | omega | assumption)) | refine wp_ltw ?_ | refine wp_lt ?_))
    all_goals have hs := file_close (FS := FS') ⟨t.at_, x1, { t.f with b := t.f.b ++ bs.flatten }⟩ hs
    all_goals have hp' : (((⟨t.at_, x1, { t.f with b := t.f.b ++ bs.flatten }⟩ : FileM) :: FS').map FileM.f).Perm (fs1.map (updF t.f.name fun f => { f with b := f.b ++ bs.flatten })) := (map_updF_perm (g := fun f => { f with b := f.b ++ bs.flatten }) h1 h2).symm
    all_goals have hok' := okA_append hok hn hfit hno
    all_goals rw [← hfin] at hok'
    all_goals have hs : Sat _ (mapP ekS evF m (((⟨t.at_, x1, { t.f with b := t.f.b ++ bs.flatten }⟩ : FileM) :: FS').map fun t => (t.f.name, t.at_)) :: _) := hs.pick [2]
    all_goals rw [hg] at hs
    all_goals refine wp_call (spend_dk (l' := r) hg hok' hp' hs) fun _ _ hs => ?_
    all_goals obtain ⟨rfl, hs⟩ := hs
    all_goals refine ret_of ?_
    all_goals exact ⟨rfl, rfl, hs⟩
end
end Go.Dec
namespace Go.Dec
set_option linter.unusedVariables false
set_option linter.unusedSimpArgs false
theorem used_map {fs : List FileA} {g : FileA → FileA} (hb : ∀ f, (g f).b = f.b) : used (fs.map g) = used fs := by
  unfold used
  rw [List.map_map]
  congr 1
  exact List.map_congr_left fun f _ => by show (g f).b.length = _; rw [hb]
theorem okA_map {A : DiskA} (hok : okA A) {g : FileA → FileA} (hn : ∀ f, (g f).name = f.name) (hb : ∀ f, (g f).b = f.b) (hk : ∀ f, f.kept ≤ f.b.length → (g f).kept ≤ f.b.length) : okA { A with fs := A.fs.map g } := by
  refine ⟨hok.room, by show used (A.fs.map g) ≤ _; rw [used_map hb]; exact hok.used, by show (A.fs.map g).length ≤ _; rw [List.length_map]; exact hok.many, hok.left, sorted_map hn hok.sorted, fun f hf => ?_, fun f hf => ?_⟩
  · obtain ⟨f, hf', rfl⟩ := List.mem_map.1 hf
    rw [hb]; exact hk f (hok.kept f hf')
  · obtain ⟨f, hf', rfl⟩ := List.mem_map.1 hf
    rw [hn]; exact hok.names f hf'
/-- All bytes are kept of the files of these names. -/
def wholeF (f : FileA) : FileA := { f with kept := f.b.length }
def markF (ns : List ByteArray) (f : FileA) : FileA := if ns.any (fun m => decide (m = f.name)) then wholeF f else f
theorem markF_name (ns : List ByteArray) (f : FileA) : (markF ns f).name = f.name := by unfold markF; split <;> rfl
theorem markF_b (ns : List ByteArray) (f : FileA) : (markF ns f).b = f.b := by unfold markF; split <;> rfl
theorem markF_kept (ns : List ByteArray) (f : FileA) (h : f.kept ≤ f.b.length) : (markF ns f).kept ≤ f.b.length := by
  unfold markF; split
  · exact Nat.le_refl _
  · exact h
theorem markF_nil : markF [] = id := by funext f; simp [markF]
theorem markF_step (ns : List ByteArray) (n : ByteArray) (f : FileA) : updF n wholeF (markF ns f) = markF (ns ++ [n]) f := by
  unfold updF
  rw [markF_name]
  unfold markF
  rw [List.any_append]
  by_cases h1 : f.name = n
  · rw [if_pos h1]
    have : (ns.any (fun m => decide (m = f.name)) || [n].any (fun m => decide (m = f.name))) = true := by simp [h1]
    rw [if_pos this]
    split <;> rfl
  · rw [if_neg h1]
    have : (ns.any (fun m => decide (m = f.name)) || [n].any (fun m => decide (m = f.name))) = ns.any (fun m => decide (m = f.name)) := by simp [Ne.symm h1]
    rw [this]
theorem preF_nil (s : ByteArray) : Go.Proofs.YtfnldnodhfkojaaGreat.preF (ByteArray.mk #[]) s = true := by
  unfold Go.Proofs.YtfnldnodhfkojaaGreat.preF
  rw [show (ByteArray.mk #[]).toList = [] from by rw [ByteArray.toList_eq]]
  rfl
theorem namesF_all (fs : List FileA) : namesF (ByteArray.mk #[]) fs = fs.map (·.name) := List.filter_eq_self.2 fun s _ => preF_nil s
theorem mark_all (fs : List FileA) : fs.map (markF (fs.map (·.name))) = fs.map (syncF []) := by
  refine List.map_congr_left fun f hf => ?_
  unfold markF syncF
  rw [if_pos (show ((fs.map (·.name)).any fun m => decide (m = f.name)) = true by simp; exact ⟨f, hf, rfl⟩), if_pos (show asked [] f.name = true from rfl)]
  rfl
theorem mark_some {ns : List ByteArray} (h : ns ≠ []) (fs : List FileA) : fs.map (markF ns) = fs.map (syncF ns) := by
  refine List.map_congr_left fun f hf => ?_
  have e : asked ns f.name = ns.any (fun m => decide (m = f.name)) := by
    unfold asked
    cases ns with
    | nil => exact absurd rfl h
    | cons _ _ => rfl
  unfold markF syncF
  rw [e]; rfl
theorem hasF_map {fs : List FileA} {g : FileA → FileA} (hn : ∀ f, (g f).name = f.name) (n : ByteArray) : hasF (fs.map g) n = hasF fs n := by
  unfold hasF
  rw [List.any_map]
  congr 1
  funext f
  show decide ((g f).name = n) = _
  rw [hn]
section
variable {w : World} {l r r0 : List HP} {d : Nat} {A : DiskA}
theorem sync_c (nx : Sl) (ns : List ByteArray) [hns : FocR r nx 1 (ns.flatMap encT)] (hlen : ns.length ≤ 100000) [hf : Fo l dk d A r] (hs : Sat w l) :
    Ret P F.disk_Disk_Sync #[.pointer (some ⟨d, 0, none⟩), nx.v] w fun vs w' => vs = [.int .i64 (syncA A ns).1] ∧ Sat w' (dk d (syncA A ns).2 :: r) :=
  disk_Disk_Sync_calls _ nx <| by
    unfold disk_Disk_Sync syncA
    refine may_if hs (fun hg w' hs => ?_) fun hg w' hs => ?_
    · rw [if_pos hg]; exact ⟨rfl, hs⟩
    rw [if_neg (by rw [hg]; simp)]
    have hpl := hs.slen nx (xs := ns) (enc := encT)
    have hok0 : okA A := by obtain ⟨m, FS, hp, hok, hs⟩ := dk_open hs; exact hok
    refine wp_mid (fun v w' => ns.all (hasF A.fs) = true ∧ Sat w' (dk d A :: r)) ?_ ?_
    · refine wp_loop (fun k v w => ∃ i : Nat, v = ((i : Int), ()) ∧ i ≤ ns.length ∧ ns.length - i = k ∧ (ns.take i).all (hasF A.fs) = true ∧ Sat w (dk d A :: r)) ns.length ⟨0, rfl, by omega, rfl, rfl, hs⟩ ?_
      clear hs
      rintro k _ w ⟨i, rfl, hi, hk, hall, hs⟩
      refine wp_on ?_
      refine wp_if (fun hc => ?_) fun hc => ?_
      · have hil : i < ns.length := by omega
        refine wp_ix1 hs i hil ?_
        have htk : (ns.take (i + 1)).all (hasF A.fs) = hasF A.fs ns[i] := by
          rw [List.take_add_one, List.getElem?_eq_getElem hil, List.all_append, hall]; simp
        obtain ⟨m, FS, hp, hok, hs⟩ := dk_open hs
        (repeat (first | with_reducible (first | refine wp_on ?_ | refine wp_nn ?_ | refine wp_nng ?_ | refine wp_ldO hs ?_ | refine wp_ldG hs ?_ | refine wp_untick ?_ | refine wp_tk hs fun _ hs => ?_ | refine wp_newO hs fun _ _ hs => ?_ | refine wp_boxO hs fun _ _ hs => ?_ | refine wp_stO hs fun _ hs => ?_ | refine wp_stG hs fun _ hs => ?_) | (apply wp_must; (focus first | trivial | omega | assumption)) | refine wp_ltw ?_ | refine wp_lt ?_))
        refine wp_look hs (fun b hb => ?_) fun hb => ?_
        · obtain ⟨t, ht, rfl, hnm, hA⟩ := in_fs hp hb
          refine wp_ifF ?_ (by simp)
          refine wp_dn (us' := [.int .i64 ((i + 1 : Nat) : Int)]) (by (try simp (disch := omega) only [w64]); first | rfl | (congr; omega)) ?_
          refine wp_lp (ns.length - (i + 1)) ?_
          exact ⟨i + 1, rfl, by omega, rfl, by rw [htk]; exact hasF_iff.2 ⟨_, hA, hnm⟩, dk_close m hp hok hs⟩
        · refine wp_ifT ?_ (by rfl)
          refine wp_pass (wp_pass ?_)
          have : ns.all (hasF A.fs) = false := by
            rw [← List.take_append_drop (i + 1) ns, List.all_append, htk, hasF_not.2 (not_fs hp hb)]; rfl
          rw [if_pos this]
          exact ⟨rfl, rfl, dk_close m hp hok hs⟩
      · refine wp_pass (wp_lv ⟨?_, hs⟩)
        rwa [List.take_of_length_le (by omega)] at hall
    clear hs
    rintro _ w ⟨hall, hs⟩
    refine wp_on ?_
    rw [if_neg (by rw [hall]; simp)]
    -- which names
    refine wp_mid (fun v w' => ∃ (nx1 : Sl) (ns1 : List ByteArray) (r1 : List HP), v = (nx1, ()) ∧ ns1.length ≤ 100000 ∧ ns1.all (hasF A.fs) = true ∧ A.fs.map (markF ns1) = A.fs.map (syncF ns) ∧ (∃ h : FocR (slc T.string 1 nx1 (ns1.flatMap encT) :: r) nx1 1 (ns1.flatMap encT), True) ∧
        (Sat w' (dk d A :: r1)) ∧ (r1 = r ∧ (∃ _h : FocR r nx1 1 (ns1.flatMap encT), True) ∨ r1 = slc T.string 1 nx1 (ns1.flatMap encT) :: r)) ?_ ?_
    · refine wp_if (fun h => ?_) fun h => ?_
      · have hnil : ns = [] := List.length_eq_zero_iff.1 (by omega)
        subst hnil
        refine wp_call (names_c (ByteArray.mk #[]) hs) fun _ _ hs => ?_
        obtain ⟨x, rfl, hs⟩ := hs
        refine ret_of ?_
        refine wp_lv ?_
        refine ⟨x, namesF (ByteArray.mk #[]) A.fs, _, rfl, ?_, ?_, ?_, ⟨inferInstance, trivial⟩, (hs.pick [1]), .inr rfl⟩
        · rw [namesF_all, List.length_map]; have := hok0.many; omega
        · rw [namesF_all, List.all_map, List.all_eq_true]
          exact fun f hf => hasF_iff.2 ⟨f, hf, rfl⟩
        · rw [namesF_all]; exact mark_all A.fs
      · refine wp_lv ?_
        refine ⟨nx, ns, r, rfl, hlen, hall, mark_some (fun e => by subst e; simp at hpl; omega) A.fs, ⟨inferInstance, trivial⟩, hs, .inl ⟨rfl, hns, trivial⟩⟩
    clear hs
    rintro _ w ⟨nx1, ns1, r1, rfl, hlen1, hall1, hmark, -, hs, hr1⟩
    refine wp_on ?_
    have hR1 : FocR r1 nx1 1 (ns1.flatMap encT) := by
      rcases hr1 with ⟨rfl, h, -⟩ | rfl
      · exact h
      · infer_instance
    have hsub : ∀ {H : HP} {w : World}, Sat w (H :: r1) → Sat w (H :: r) := fun {H w} h => by
      rcases hr1 with ⟨rfl, -⟩ | rfl
      · exact h
      · exact h.sub
    have hpl1 := hs.slen nx1 (xs := ns1) (enc := encT)
    refine wp_mid (fun v w' => Sat w' (dk d { A with fs := A.fs.map (markF ns1) } :: r1)) ?_ ?_
    · refine wp_loop (fun k v w => ∃ i : Nat, v = ((i : Int), ()) ∧ i ≤ ns1.length ∧ ns1.length - i = k ∧ Sat w (dk d { A with fs := A.fs.map (markF (ns1.take i)) } :: r1)) ns1.length ⟨0, rfl, by omega, rfl, by rw [List.take_zero, markF_nil, List.map_id]; exact hs⟩ ?_
      clear hs
      rintro k _ w ⟨i, rfl, hi, hk, hs⟩
      refine wp_on ?_
      refine wp_if (fun hc => ?_) fun hc => ?_
      · have hil : i < ns1.length := by omega
        refine wp_ix1 hs i hil ?_
        obtain ⟨m, FS, hp, hok, hs⟩ := dk_open hs
        (repeat (first | with_reducible (first | refine wp_on ?_ | refine wp_nn ?_ | refine wp_nng ?_ | refine wp_ldO hs ?_ | refine wp_ldG hs ?_ | refine wp_untick ?_ | refine wp_tk hs fun _ hs => ?_ | refine wp_newO hs fun _ _ hs => ?_ | refine wp_boxO hs fun _ _ hs => ?_ | refine wp_stO hs fun _ hs => ?_ | refine wp_stG hs fun _ hs => ?_) | (apply wp_must; (focus first | trivial | omega | assumption)) | refine wp_ltw ?_ | refine wp_lt ?_))
        refine wp_look hs (fun b hb => ?_) fun hb => ?_
        · obtain ⟨t, ht, rfl, hnm, hA⟩ := in_fs hp hb
          obtain ⟨FS', hpm, hs⟩ := file_open hs ht
          obtain ⟨h1, h2, -⟩ := apart hp hok hpm
          (repeat (first | with_reducible (first | refine wp_on ?_ | refine wp_nn ?_ | refine wp_nng ?_ | refine wp_ldO hs ?_ | refine wp_ldG hs ?_ | refine wp_untick ?_ | refine wp_tk hs fun _ hs => ?_ | refine wp_newO hs fun _ _ hs => ?_ | refine wp_boxO hs fun _ _ hs => ?_ | refine wp_stO hs fun _ hs => ?_ | refine wp_stG hs fun _ hs => ?_) | (apply wp_must; (focus first | trivial | omega | assumption)) | refine wp_ltw ?_ | refine wp_lt ?_))
          rw [hs.slen t.x (xs := t.f.b) (enc := encU)] at hs
          have hs := file_close (FS := FS') ⟨t.at_, t.x, wholeF t.f⟩ hs
          have hs : Sat _ (mapP ekS evF m (((⟨t.at_, t.x, wholeF t.f⟩ : FileM) :: FS').map fun t => (t.f.name, t.at_)) :: _) := (hs.pick [2]).mapPerm (hpm.map fun t => (t.f.name, t.at_))
          have hstep : (A.fs.map (markF (ns1.take i))).map (updF t.f.name wholeF) = A.fs.map (markF (ns1.take (i + 1))) := by
            rw [List.map_map, List.take_add_one, List.getElem?_eq_getElem hil]
            refine List.map_congr_left fun f _ => ?_
            show updF t.f.name wholeF (markF _ f) = _
            rw [markF_step, hnm]; rfl
          have hp' : (((⟨t.at_, t.x, wholeF t.f⟩ : FileM) :: FS').map FileM.f).Perm (A.fs.map (markF (ns1.take (i + 1)))) := by
            rw [← hstep]
            exact (map_updF_perm (g := wholeF) h1 h2).symm
          refine wp_dn (us' := [.int .i64 ((i + 1 : Nat) : Int)]) (by (try simp (disch := omega) only [w64]); first | rfl | (congr; omega)) ?_
          refine wp_lp (ns1.length - (i + 1)) ?_
          refine ⟨i + 1, rfl, by omega, rfl, ?_⟩
          exact dk_close m (A := { A with fs := A.fs.map (markF (ns1.take (i + 1))) }) hp' (okA_map hok0 (markF_name _) (markF_b _) (markF_kept _)) hs (by rw [used_map (markF_b _), used_map (markF_b _)])
        · exfalso
          have h3 := hasF_not.2 (not_fs hp hb)
          have h4 : hasF A.fs ns1[i] = true := List.all_eq_true.1 hall1 _ (List.getElem_mem hil)
          rw [hasF_map (markF_name _), h4] at h3
          cases h3
      · refine wp_pass (wp_lv ?_)
        rwa [List.take_of_length_le (by omega)] at hs
    clear hs
    rintro _ w hs
    refine wp_on ?_
    rw [hmark] at hs
    obtain ⟨m, FS, hp, hok, hs⟩ := dk_open (hsub hs)
    have hs : Sat w (pt d (.cells #[.int .i64 A.left, .bool A.gone, .int .i64 A.room, .int .i64 (used (A.fs.map (syncF ns))), .map (some m)] T.disk_Disk) :: _) := hs
    (repeat (first | with_reducible (first | refine wp_on ?_ | refine wp_nn ?_ | refine wp_nng ?_ | refine wp_ldO hs ?_ | refine wp_ldG hs ?_ | refine wp_untick ?_ | refine wp_tk hs fun _ hs => ?_ | refine wp_newO hs fun _ _ hs => ?_ | refine wp_boxO hs fun _ _ hs => ?_ | refine wp_stO hs fun _ hs => ?_ | refine wp_stG hs fun _ hs => ?_) | (apply wp_must; (focus first | trivial | omega | assumption)) | refine wp_ltw ?_ | refine wp_lt ?_))
    rw [hg] at hs
    refine wp_call (spend_dk (l' := r) (A := A) hg hok hp hs) fun _ _ hs => ?_
    obtain ⟨rfl, hs⟩ := hs
    refine ret_of ?_
    exact ⟨rfl, rfl, hs⟩
end
end Go.Dec
namespace Go.Dec
set_option linter.unusedVariables false
set_option linter.unusedSimpArgs false
/-- A file by its name: its bytes, how many are kept. -/
def fileD (fs : List FileA) (n : ByteArray) : Option (List UInt8 × Nat) := (fs.find? fun f => decide (f.name = n)).map fun f => (f.b, f.kept)
theorem fileD_none {fs : List FileA} {n : ByteArray} : fileD fs n = none ↔ ∀ f ∈ fs, f.name ≠ n := by
  unfold fileD
  rw [Option.map_eq_none_iff, List.find?_eq_none]
  simp
theorem fileD_mem {fs : List FileA} {f : FileA} (hn : (fs.map (·.name)).Nodup) (h : f ∈ fs) : fileD fs f.name = some (f.b, f.kept) := by
  unfold fileD
  rw [find_name hn h rfl]
  rfl
theorem fileD_some {fs : List FileA} {n : ByteArray} {p : List UInt8 × Nat} (h : fileD fs n = some p) : (⟨n, p.1, p.2⟩ : FileA) ∈ fs := by
  unfold fileD at h
  rw [Option.map_eq_some_iff] at h
  obtain ⟨f, hf, rfl⟩ := h
  have h1 := List.mem_of_find?_eq_some hf
  have h2 := List.find?_some hf
  have h2 : f.name = n := by simpa using h2
  subst h2
  exact h1
end Go.Dec
namespace Go.Dec
set_option linter.unusedVariables false
set_option linter.unusedSimpArgs false
def encE (e : EntA) : List Value := [.int .i64 e.offset, .int .i64 e.place, .int .i64 e.before]
instance : EncA encE [.int .i64, .int .i64, .int .i64] (fun e => (e.offset, e.place, e.before, ())) := ⟨fun _ => rfl⟩
instance : EncN encE 3 := ⟨fun _ => rfl, by decide, by simp [encE, Value.oneCell']⟩
instance : EncF encE 0 (.int .i64) (fun e => e.offset) := ⟨fun _ => rfl⟩
instance : EncF encE 1 (.int .i64) (fun e => e.place) := ⟨fun _ => rfl⟩
instance : EncF encE 2 (.int .i64) (fun e => e.before) := ⟨fun _ => rfl⟩
structure okX (X : IdxA) : Prop where
  gap : 1 ≤ X.gap ∧ X.gap ≤ 4194304
  place : -1 ≤ X.place ∧ X.place ≤ 4194304
  ent : ∀ e ∈ X.l, 0 ≤ e.place ∧ e.place ≤ X.place
  len : (X.l.length : Int) ≤ X.place + 1
def idxP (b : Nat) (X : IdxA) : HP := HP.ex fun z : Sl => HP.and (okX X) (HP.star (pt b (.cells #[.int .i64 X.offset, .int .i64 X.place, .int .i64 X.late, .int .i64 X.gap, .slice z.a z.len z.cap] T.index_Index)) (slc T.index_Entry 3 z (X.l.flatMap encE)))
section
variable {w : World} {l r : List HP} {b : Nat} {X : IdxA}
theorem idx_open (hs : Sat w (idxP b X :: l)) : ∃ z : Sl, okX X ∧ Sat w (pt b (.cells #[.int .i64 X.offset, .int .i64 X.place, .int .i64 X.late, .int .i64 X.gap, .slice z.a z.len z.cap] T.index_Index) :: slc T.index_Entry 3 z (X.l.flatMap encE) :: l) := by
  obtain ⟨z, hs⟩ := hs.ex
  obtain ⟨h, hs⟩ := hs.and
  exact ⟨z, h, hs.star⟩
theorem idx_close (X : IdxA) {z : Sl} (h : okX X) (hs : Sat w (pt b (.cells #[.int .i64 X.offset, .int .i64 X.place, .int .i64 X.late, .int .i64 X.gap, .slice z.a z.len z.cap] T.index_Index) :: slc T.index_Entry 3 z (X.l.flatMap encE) :: l)) : Sat w (idxP b X :: l) :=
  .ex_mk z (.and_mk h (.star_mk hs))
theorem okX0 {gap : Int} (h : 1 ≤ gap ∧ gap ≤ 4194304) : okX (idx0 gap) := ⟨h, by show -1 ≤ (-1 : Int) ∧ (-1 : Int) ≤ 4194304; omega, (fun _ h => by cases h), by show (0 : Int) ≤ -1 + 1; omega⟩
theorem inew_c (gap : Int) (h : 1 ≤ gap ∧ gap ≤ 4194304) (hs : Sat w l) : Ret P F.index_New #[.int .i64 gap] w fun vs w' => ∃ b, vs = [.pointer (some ⟨b, 0, none⟩), .int .i64 0] ∧ Sat w' (idxP b (idx0 gap) :: l) :=
  index_New_calls gap <| by
    unfold index_New
    refine wp_ifF ?_
    refine wp_boxO hs fun a w' hs => ?_
    refine ⟨rfl, a, rfl, ?_⟩
    have h0 : Sat w' (slc T.index_Entry 3 ⟨none, 0, 0⟩ ((idx0 gap).l.flatMap encE) :: _) := hs.slc_nil
    exact idx_close (idx0 gap) (z := ⟨none, 0, 0⟩) (okX0 h) (h0.pick [1])
theorem imay_c (o p t : Int) (hs : Sat w l) : Ret P F.index_may #[.int .i64 o, .int .i64 p, .int .i64 t] w fun vs w' => vs = [.bool (decide (mayN o p t))] ∧ Sat w' l :=
  index_may_calls o p t <| by
    unfold index_may
    refine wp_lt ?_
    refine ⟨rfl, ?_, hs⟩
    congr 2
    rw [Bool.eq_iff_iff, decide_eq_true_iff (p := mayN o p t)]
    unfold mayN
    simp only [Bool.and_eq_true, decide_eq_true_eq]
    constructor
    · rintro ⟨⟨⟨⟨⟨h1, h2⟩, h3⟩, h4⟩, h5⟩, h6⟩
      exact ⟨⟨h1, h2⟩, ⟨h3, h4⟩, h5, h6⟩
    · rintro ⟨⟨h1, h2⟩, ⟨h3, h4⟩, h5, h6⟩
      exact ⟨⟨⟨⟨⟨h1, h2⟩, h3⟩, h4⟩, h5⟩, h6⟩
theorem okX_note {X : IdxA} (h : okX X) {o p t : Int} (hm : mayN o p t) (h2 : ¬ (o ≤ X.offset ∨ p ≤ X.place)) : okX ⟨o, p, max X.late t, X.gap, noteL X o p⟩ := by
  obtain ⟨h3, h4, h5, h6⟩ := h
  obtain ⟨-, hp, -⟩ := hm
  refine ⟨h3, by show -1 ≤ p ∧ p ≤ 4194304; omega, fun e he => ?_, ?_⟩
  · show 0 ≤ e.place ∧ e.place ≤ p
    have he : e ∈ noteL X o p := he
    unfold noteL at he
    split at he
    · rcases List.mem_append.1 he with he | he
      · have := h5 e he; omega
      · simp at he; subst he; simp only; omega
    · have := h5 e he; omega
  · show ((noteL X o p).length : Int) ≤ p + 1
    unfold noteL
    split
    · rw [List.length_append]; simp only [List.length_cons, List.length_nil]; omega
    · omega
theorem note_c (o p t : Int) (ho : -9223372036854775808 ≤ o ∧ o < 9223372036854775808) (hp : -9223372036854775808 ≤ p ∧ p < 9223372036854775808) [hf : Fo l idxP b X r] (hs : Sat w l) :
    Ret P F.index_Index_Note #[.pointer (some ⟨b, 0, none⟩), .int .i64 o, .int .i64 p, .int .i64 t] w fun vs w' => vs = [.int .i64 (noteA X o p t).1] ∧ Sat w' (idxP b (noteA X o p t).2 :: r) :=
  index_Index_Note_calls _ o p t <| by
    unfold index_Index_Note
    have hs := hs.perm hf.perm
    refine wp_lt ?_
    refine wp_ifF ?_ (by simp)
    refine wp_call (imay_c o p t hs) fun _ w' hs => ?_
    obtain ⟨rfl, hs⟩ := hs
    refine ret_of ?_
    refine wp_lt ?_
    unfold noteA
    refine wp_if (fun h => ?_) fun h => ?_
    · have h : ¬ mayN o p t := by simpa using h
      rw [if_pos h]
      exact ⟨rfl, rfl, hs⟩
    have h : mayN o p t := by simpa using h
    rw [if_neg (fun hh => hh h)]
    obtain ⟨z, hok, hs⟩ := idx_open hs
    have hl := hs.slen z (xs := X.l) (enc := encE)
    refine wp_nn ?_
    refine wp_ldO hs ?_
    refine wp_nng ?_
    refine wp_ldO hs ?_
    refine wp_lt ?_
    refine wp_if (fun h2 => ?_) fun h2 => ?_
    · rw [if_pos h2]
      exact ⟨rfl, rfl, idx_close X hok hs⟩
    rw [if_neg h2]
    have hok2 := okX_note hok h h2
    have hlen := hok.len
    have hpl := hok.place
    refine wp_nn ?_
    refine wp_ldO hs ?_
    refine wp_lt ?_
    refine wp_tk hs fun w' hs => ?_
    refine wp_nng ?_
    refine wp_ldO hs ?_
    have hgl : ∀ (h0 : X.l ≠ []), X.l.getLast? = some (X.l[X.l.length - 1]'(by have := List.length_pos_iff.2 h0; omega)) := fun h0 => by
      have := List.length_pos_iff.2 h0
      rw [List.getLast?_eq_getElem?, List.getElem?_eq_getElem (by omega)]

    refine wp_ixFgg (xs := X.l) (enc := encE) hs (match X.l.getLast? with | none => 0 | some e => e.place) (fun hg => ?_) ?_
    · have h0 : X.l ≠ [] := by
        rintro h0
        rw [h0] at hl
        rw [hl] at hg
        cases hg
      have := List.length_pos_iff.2 h0
      refine ⟨X.l.length - 1, by omega, ?_, ?_⟩
      · rw [w64 (by omega) (by omega)]; omega
      · rw [hgl h0]
    refine wp_nng ?_
    refine wp_ldO hs ?_
    refine wp_untick ?_
    refine wp_mid (fun _ w' => ∃ z' : Sl, Sat w' (pt b (.cells #[.int .i64 X.offset, .int .i64 X.place, .int .i64 X.late, .int .i64 X.gap, .slice z'.a z'.len z'.cap] T.index_Index) :: slc T.index_Entry 3 z' ((noteL X o p).flatMap encE) :: r)) ?_ ?_
    · have hnew : newE X p = true ↔ (((z.len : Nat) : Int) = 0 ∨ IntKind.wrap .i64 (p - match X.l.getLast? with | none => 0 | some e => e.place) ≥ X.gap) := by
        unfold newE
        by_cases h0 : X.l = []
        · rw [h0]
          simp only [List.getLast?_nil, true_iff]
          left
          rw [hl, h0]; rfl
        · rw [hgl h0]
          have hlp := List.length_pos_iff.2 h0
          have hb := hok.ent _ (List.getElem_mem (show X.l.length - 1 < X.l.length by omega))
          simp only [decide_eq_true_eq]
          rw [w64 (by omega) (by omega)]
          omega
      unfold noteL
      refine wp_if (fun h3 => ?_) fun h3 => ?_
      · rw [if_pos (hnew.2 h3)]
        refine wp_mid (fun q w' => ∃ z' : Sl, q = (z', ()) ∧ Sat w' (slc T.index_Entry 3 z' ((X.l ++ [(⟨o, p, X.late⟩ : EntA)]).flatMap encE) :: pt b (.cells #[.int .i64 X.offset, .int .i64 X.place, .int .i64 X.late, .int .i64 X.gap, .slice z.a z.len z.cap] T.index_Index) :: r)) ?_ ?_
        · refine wp_tk hs fun w' hs => ?_
          refine wp_nn ?_
          refine wp_hdO hs ?_
          refine wp_nn ?_
          refine wp_ldO hs ?_
          refine wp_litS hs (enc := encE) [(⟨o, p, X.late⟩ : EntA)] fun y w' hs => ⟨(by first | trivial | (repeat (first | exact trivial | exact fun _ => run_ldO hs | exact fun _ => run_ldG hs | refine And.intro ?_ ?_))), ?_⟩
          refine wp_untick ?_
          refine wp_app' (xs := X.l) (ys := [(⟨o, p, X.late⟩ : EntA)]) (enc := encE) hs (fun z' w' hs => ?_) (by simp only [List.length_cons, List.length_nil]; omega)
          refine wp_untick ?_
          exact wp_lv ⟨z', rfl, hs.sub⟩
        · rintro _ w2 ⟨z', rfl, hs⟩
          refine wp_nn ?_
          refine wp_stO hs fun w' hs => ?_
          exact wp_lv ⟨z', hs.sub⟩
      · rw [if_neg fun hh => h3 (hnew.1 hh)]
        exact wp_lv ⟨z, hs⟩
    rintro _ w2 ⟨z', hs⟩
    refine wp_nn ?_
    refine wp_ldO hs ?_
    refine wp_nn ?_
    have e : (if t > X.late then t else X.late) = max X.late t := by split <;> omega
    rw [e]
    have hA : (Addr.add ⟨b, 0, none⟩ 0) = ⟨b, 0, none⟩ := rfl
    rw [hA]
    refine wp_stA hs (by rfl) (by rfl) (by simp [Value.oneCell']) fun w' hs => ⟨trivial, ?_⟩
    refine ⟨rfl, rfl, ?_⟩
    exact idx_close ⟨o, p, max X.late t, X.gap, noteL X o p⟩ (z := z') hok2 hs
theorem entry_c (i : Int) (hi : i < X.l.length) [hf : Fo l idxP b X r] (hs : Sat w l) :
    Ret P F.index_Index_entry #[.pointer (some ⟨b, 0, none⟩), .int .i64 i] w fun vs w' => vs = [.agg (encE (if i < 0 then ⟨0, 0, 0⟩ else X.l.getD i.toNat ⟨0, 0, 0⟩)).toArray, .bool (decide (0 ≤ i))] ∧ Sat w' (idxP b X :: r) :=
  index_Index_entry_calls _ i <| by
    unfold index_Index_entry
    have hs := hs.perm hf.perm
    refine wp_newO hs fun a w' hs => ?_
    refine wp_if (fun h => ?_) fun h => ?_
    · refine wp_stG hs fun w' hs => ?_
      refine wp_ldG hs ?_
      rw [if_pos h]
      refine ⟨rfl, ?_, hs.tail⟩
      rw [decide_eq_false (by omega)]
      rfl
    · refine wp_nn ?_
      obtain ⟨z, hok, hs⟩ := idx_open (hs.pick [1])
      refine wp_ldO hs ?_
      refine wp_ixA hs (xs := X.l) (enc := encE) i.toNat (by omega) ?_
      refine wp_stG hs fun w' hs => ?_
      refine wp_ldG hs ?_
      rw [if_neg h]
      refine ⟨rfl, ?_, idx_close X (z := z) hok hs.sub⟩
      rw [decide_eq_true (by omega), List.getD_eq_getElem?_getD, List.getElem?_eq_getElem (by omega)]
      rfl
/-- A search: the first place where a closure says so, and not ahead of it. -/
theorem search_c (n : Nat) (hn : n < 4611686018427387904) (f : FuncId) (cap : Array Value) (p : Nat → Bool) (hok : (P.funcs[f]?).any (fun fn => fn.body.isSome && fn.name != "runtime.NumGoroutine") = true)
    (hp : ∀ (i : Nat) (w : World), i < n → Sat w l → Ret P f (#[.int .i64 (i : Int)] ++ cap) w fun vs w' => vs = [.bool (p i)] ∧ Sat w' l) (hs : Sat w l) :
    Ret P F.sort_Search #[.int .i64 (n : Int), .func (.func f) #[] cap] w fun vs w' => ∃ i : Nat, i ≤ n ∧ (0 < i → p (i - 1) = false) ∧ (i < n → p i = true) ∧ vs = [.int .i64 (i : Int)] ∧ Sat w' l :=
  sort_Search_calls _ _ <| by
    unfold sort_Search
    refine wp_lt ?_
    refine wp_mid (fun q w' => ∃ i : Nat, i ≤ n ∧ (0 < i → p (i - 1) = false) ∧ (i < n → p i = true) ∧ q = ((i : Int), ()) ∧ Sat w' l) ?_ ?_
    rotate_left
    · rintro _ w' ⟨i, h1, h2, h3, rfl, hs⟩
      refine wp_lt ?_
      exact ⟨rfl, i, h1, h2, h3, rfl, hs⟩
    refine wp_loop (fun m v w => ∃ i j : Nat, v = ((i : Int), ((j : Int), ())) ∧ i ≤ j ∧ j ≤ n ∧ j - i = m ∧ (0 < i → p (i - 1) = false) ∧ (j < n → p j = true) ∧ Sat w l) n ⟨0, n, rfl, by omega, by omega, rfl, (fun h => by omega), (fun h => by omega), hs⟩ ?_
    clear hs
    rintro m _ w ⟨i, j, rfl, hij, hjn, hm, h1, h2, hs⟩
    refine wp_on ?_
    refine wp_if (fun hc => ?_) fun hc => ?_
    rotate_left
    · have : i = j := by omega
      subst this
      exact wp_pass (wp_lv ⟨i, hjn, h1, h2, rfl, hs⟩)
    have hc : i < j := by omega
    have e : IntKind.wrap .i64 (Int.fdiv (IntKind.wrap .u64 (IntKind.wrap .i64 ((i : Int) + j))) 2) = (((i + j) / 2 : Nat) : Int) := by
      rw [w64 (x := (i : Int) + j) (by omega) (by omega), wu64 (by omega) (by omega)]
      have : Int.fdiv ((i : Int) + j) 2 = (((i + j) / 2 : Nat) : Int) := by
        rw [Int.fdiv_eq_ediv_of_nonneg _ (by omega)]
        omega
      rw [this, w64 (by omega) (by omega)]
    refine wp_ltx (y := (((i + j) / 2 : Nat) : Int)) ?_ e
    refine wp_callvc hok (p ((i + j) / 2), ()) (hp ((i + j) / 2) w (by omega) hs) rfl fun w' hs => ⟨trivial, ?_⟩
    refine wp_on ?_
    refine wp_bind ?_
    refine wp_if (fun h3 => ?_) fun h3 => ?_
    · have h3 : p ((i + j) / 2) = false := by simpa using h3
      refine wp_ltx (y := (((i + j) / 2 + 1 : Nat) : Int)) ?_ (by rw [w64 (by omega) (by omega)]; omega)
      refine wp_go ?_
      refine wp_lp (j - ((i + j) / 2 + 1)) ⟨(i + j) / 2 + 1, j, rfl, by omega, hjn, rfl, fun _ => by rw [Nat.add_sub_cancel]; exact h3, h2, hs⟩
    · have h3 : p ((i + j) / 2) = true := by simpa using h3
      refine wp_lt ?_
      refine wp_go ?_
      refine wp_lp ((i + j) / 2 - i) ⟨i, (i + j) / 2, rfl, by omega, by omega, rfl, h1, fun _ => h3, hs⟩
theorem find1_c (i : Nat) (a0 a1 : Nat) (o : Int) {r1 r2 : List HP} {z : Sl} (hi : i < X.l.length) [h0 : FocB l a0 (.cells [.pointer (some ⟨b, 0, none⟩)].toArray T.p_index_Index) r1] [h1 : FocB l a1 (.cells [.int .i64 o].toArray T.int64) r2]
    [h2 : FocB l b (.cells [.int .i64 X.offset, .int .i64 X.place, .int .i64 X.late, .int .i64 X.gap, .slice z.a z.len z.cap].toArray T.index_Index) r] [h3 : FocR l z 3 (X.l.flatMap encE)] (hs : Sat w l) :
    Ret P F.index_Index_Find_1 #[.int .i64 (i : Int), .pointer (some ⟨a0, 0, none⟩), .pointer (some ⟨a1, 0, none⟩)] w fun vs w' => vs = [.bool (decide (X.l[i].offset > o))] ∧ Sat w' l :=
  index_Index_Find_1_calls _ _ _ <| by
    unfold index_Index_Find_1
    refine wp_tk hs fun w' hs => ?_
    refine wp_ldO hs ?_
    refine wp_nn ?_
    refine wp_ldO hs ?_
    refine wp_ixF hs (xs := X.l) (enc := encE) i hi ?_
    refine wp_ldO hs ?_
    refine wp_lt ?_
    refine wp_untick ?_
    exact ⟨rfl, rfl, hs⟩
def orE (o : Option EntA) : EntA := o.getD ⟨0, 0, 0⟩
theorem cut_entry {l : List EntA} {i : Nat} (hi : i ≤ l.length) : (if ((i : Int) - 1) < 0 then (⟨0, 0, 0⟩ : EntA) else l.getD ((i : Int) - 1).toNat ⟨0, 0, 0⟩) = orE (l.take i).getLast? ∧ decide (0 ≤ (i : Int) - 1) = (l.take i).getLast?.isSome := by
  rw [take_last hi]
  by_cases h : i = 0
  · subst h; exact ⟨rfl, rfl⟩
  · rw [if_neg h, if_neg (by omega), List.getD_eq_getElem?_getD, show ((i : Int) - 1).toNat = i - 1 by omega, List.getElem?_eq_getElem (by omega)]
    exact ⟨rfl, decide_eq_true (by omega)⟩
theorem find_c (o : Int) (hm : X.l.Pairwise fun a b => a.offset < b.offset) [hf : Fo l idxP b X r] (hs : Sat w l) :
    Ret P F.index_Index_Find #[.pointer (some ⟨b, 0, none⟩), .int .i64 o] w fun vs w' => vs = [.agg (encE (orE (findE X.l o))).toArray, .bool (findE X.l o).isSome] ∧ Sat w' (idxP b X :: r) :=
  index_Index_Find_calls _ o <| by
    unfold index_Index_Find
    have hs := hs.perm hf.perm
    refine wp_boxO hs fun a0 w' hs => ?_
    refine wp_boxO hs fun a1 w' hs => ?_
    refine wp_newO hs fun a2 w' hs => ?_
    refine wp_ldO hs ?_
    refine wp_ifF ?_ (by simp)
    refine wp_mid (fun q w' => q = ((findE X.l o).isSome, ()) ∧ Sat w' (pt a2 (.cells [.int .i64 (orE (findE X.l o)).offset, .int .i64 (orE (findE X.l o)).place, .int .i64 (orE (findE X.l o)).before].toArray T.index_Entry) :: idxP b X :: r)) ?_ ?_
    rotate_left
    · rintro _ w2 ⟨rfl, hs⟩
      refine wp_ldG hs ?_
      exact ⟨rfl, rfl, hs.tail⟩
    obtain ⟨z, hok, hs⟩ := idx_open (hs.pick [3])
    have hl := hs.slen z (xs := X.l) (enc := encE)
    have hlen := hok.len
    have hpl := hok.place
    refine wp_tk hs fun w' hs => ?_
    refine wp_hdO hs ?_
    refine wp_ldO hs ?_
    refine wp_nn ?_
    refine wp_ldO hs ?_
    rw [hl]
    refine wp_call (search_c X.l.length (by omega) F.index_Index_Find_1 #[.pointer (some ⟨a0, 0, none⟩), .pointer (some ⟨a1, 0, none⟩)] (fun i => decide ((X.l.getD i ⟨0, 0, 0⟩).offset > o)) (by kernel_rfl) (fun i w hi hs => ?_) hs) fun _ w' hs => ?_
    · have e : X.l.getD i ⟨0, 0, 0⟩ = X.l[i] := by rw [List.getD_eq_getElem?_getD, List.getElem?_eq_getElem hi]; rfl
      simp only [e]
      exact find1_c (X := X) i a0 a1 o hi hs
    obtain ⟨i, hi, h1, h2, rfl, hs⟩ := hs
    refine ret_of ?_ (by first | trivial | (repeat (first | exact trivial | exact fun _ => run_ldO hs | exact fun _ => run_ldG hs | refine And.intro ?_ ?_)))
    refine wp_untick ?_
    rw [w64 (by omega) (by omega)]
    replace hs : Sat _ (idxP b X :: pt a2 (.cells [.int .i64 0, .int .i64 0, .int .i64 0].toArray T.index_Entry) :: pt a0 (.cells [.pointer (some ⟨b, 0, none⟩)].toArray T.p_index_Index) :: r) := idx_close X (z := z) hok hs.sub
    refine wp_call (entry_c (b := b) ((i : Int) - 1) (by omega) hs) fun _ w' hs => ?_
    obtain ⟨rfl, hs⟩ := hs
    have hcut : findE X.l o = (X.l.take i).getLast? := by
      unfold findE
      rw [search_cut hi (hm.imp fun {a b} hab => by simp only [decide_eq_true_eq]; omega)]
      · intro h h0
        have := h1 h0
        rw [List.getD_eq_getElem?_getD, List.getElem?_eq_getElem h] at this
        have : decide (X.l[i - 1].offset > o) = false := this
        simpa using this
      · intro h
        have := h2 h
        rw [List.getD_eq_getElem?_getD, List.getElem?_eq_getElem h] at this
        have : decide (X.l[i].offset > o) = true := this
        simpa using this
    obtain ⟨c1_, c2_⟩ := cut_entry (l := X.l) hi
    rw [c1_, c2_, ← hcut]
    refine ⟨((orE (findE X.l o)).offset, (orE (findE X.l o)).place, (orE (findE X.l o)).before, (findE X.l o).isSome, ()), rfl, (by first | trivial | (repeat (first | exact trivial | exact fun _ => run_ldO hs | exact fun _ => run_ldG hs | refine And.intro ?_ ?_))), wp_u4 _ _ _ _ ?_⟩
    refine wp_stG hs fun w' hs => ?_
    refine wp_lt ?_
    refine wp_untick ?_
    exact wp_lv ⟨rfl, hs.sub⟩
end
end Go.Dec
namespace Go.Dec
set_option linter.unusedVariables false
set_option linter.unusedSimpArgs false
structure SegM where
  ix : Nat
  s : SegA
structure LogM where
  d : Nat
  pre : ByteArray
  seg : Int
  gap : Int
  z : Sl
  SM : List (Nat × SegM)
structure LogA where
  d : Nat
  pre : ByteArray
  seg : Int
  gap : Int
  l : List SegA
def LogM.l (M : LogM) : List SegA := M.SM.map fun t => t.2.s
def LogM.A (M : LogM) : LogA := ⟨M.d, M.pre, M.seg, M.gap, M.l⟩
def encP (b : Nat) : List Value := [.pointer (some ⟨b, 0, none⟩)]
instance : Enc1 encP .ptr (fun b => some ⟨b, 0, none⟩) := ⟨fun _ => rfl⟩
instance : EncN encP 1 := ⟨fun _ => rfl, by decide, by simp [encP, Value.oneCell']⟩
def segP (gap : Int) (a : Nat) (t : SegM) : HP := HP.star (pt a (.cells #[.pointer (some ⟨t.ix, 0, none⟩), .int .i64 t.s.base, .int .i64 t.s.fin, .int .i64 (nextG t.s.bs), .int .i64 (lateG (-1) t.s.bs), .int .i64 (t.s.file.length : Nat)] T.seglog_segment)) (idxP t.ix (t.s.idx gap))
structure okM (gap seg : Int) (pre : ByteArray) : Prop where
  gap : 1 ≤ gap ∧ gap ≤ 4194304
  seg : 64 ≤ seg ∧ seg ≤ 4194304
  pre : preS pre = true
def lgQ (lg : Nat) (M : LogM) : HP := HP.and (okM M.gap M.seg M.pre) (HP.star (pt lg (.cells #[.pointer (some ⟨M.d, 0, none⟩), .string M.pre, .int .i64 M.seg, .int .i64 M.gap, .slice M.z.a M.z.len M.z.cap] T.seglog_Log))
  (HP.star (slc T.p_seglog_segment 1 M.z ((M.SM.map Prod.fst).flatMap encP)) (HP.all (M.SM.map fun t => segP M.gap t.1 t.2))))
def lgP (lg : Nat) (A : LogA) : HP := HP.ex fun M : LogM => HP.and (M.A = A) (lgQ lg M)
def ptrO : Option Nat → Option Addr
  | none => none
  | some b => some ⟨b, 0, none⟩
section
variable {w : World} {l r : List HP} {lg : Nat} {M : LogM} {A : LogA} {gap : Int} {a : Nat} {t : SegM}
theorem seg_open (hs : Sat w (segP gap a t :: l)) : Sat w (pt a (.cells #[.pointer (some ⟨t.ix, 0, none⟩), .int .i64 t.s.base, .int .i64 t.s.fin, .int .i64 (nextG t.s.bs), .int .i64 (lateG (-1) t.s.bs), .int .i64 (t.s.file.length : Nat)] T.seglog_segment) :: idxP t.ix (t.s.idx gap) :: l) := hs.star
theorem seg_close (t : SegM) (hs : Sat w (pt a (.cells #[.pointer (some ⟨t.ix, 0, none⟩), .int .i64 t.s.base, .int .i64 t.s.fin, .int .i64 (nextG t.s.bs), .int .i64 (lateG (-1) t.s.bs), .int .i64 (t.s.file.length : Nat)] T.seglog_segment) :: idxP t.ix (t.s.idx gap) :: l)) : Sat w (segP gap a t :: l) := .star_mk hs
theorem lgQ_open (hs : Sat w (lgQ lg M :: l)) : okM M.gap M.seg M.pre ∧ Sat w (pt lg (.cells #[.pointer (some ⟨M.d, 0, none⟩), .string M.pre, .int .i64 M.seg, .int .i64 M.gap, .slice M.z.a M.z.len M.z.cap] T.seglog_Log) :: slc T.p_seglog_segment 1 M.z ((M.SM.map Prod.fst).flatMap encP) :: HP.all (M.SM.map fun t => segP M.gap t.1 t.2) :: l) := by
  obtain ⟨h, hs⟩ := hs.and
  have hs := hs.star
  exact ⟨h, ((hs.pick [1]).star).pick [2]⟩
theorem lgQ_close (M : LogM) (h : okM M.gap M.seg M.pre) (hs : Sat w (pt lg (.cells #[.pointer (some ⟨M.d, 0, none⟩), .string M.pre, .int .i64 M.seg, .int .i64 M.gap, .slice M.z.a M.z.len M.z.cap] T.seglog_Log) :: slc T.p_seglog_segment 1 M.z ((M.SM.map Prod.fst).flatMap encP) :: HP.all (M.SM.map fun t => segP M.gap t.1 t.2) :: l)) : Sat w (lgQ lg M :: l) := by
  refine .and_mk h (.star_mk ?_)
  exact ((hs.pick [1, 1]).star_mk).pick [1]
theorem lgP_open (hs : Sat w (lgP lg A :: l)) : ∃ M : LogM, M.A = A ∧ Sat w (lgQ lg M :: l) := by
  obtain ⟨M, hs⟩ := hs.ex
  obtain ⟨h, hs⟩ := hs.and
  exact ⟨M, h, hs⟩
theorem lgP_close (M : LogM) (hs : Sat w (lgQ lg M :: l)) : Sat w (lgP lg M.A :: l) := .ex_mk M (.and_mk rfl hs)
theorem hexL_cons : ∀ (j n : Nat), hexL (j + 1) n = hexC (n / 16 ^ j % 16) :: hexL j n
  | 0, n => by simp [hexL]
  | j + 1, n => by
    show hexL (j + 1) (n / 16) ++ [hexC (n % 16)] = _
    rw [hexL_cons j (n / 16)]
    have e : n / 16 / 16 ^ j = n / 16 ^ (j + 1) := by rw [Nat.div_div_eq_div_mul, Nat.pow_succ, Nat.mul_comm]
    rw [e]
    rfl
theorem set_rep (k : Nat) (c : UInt8) : ∀ (xs : List UInt8), (List.replicate (k + 1) (0 : UInt8) ++ xs).set k c = List.replicate k 0 ++ c :: xs := by
  induction k with
  | zero => intro xs; rfl
  | succ k ih => intro xs; rw [List.replicate_succ, List.cons_append, List.set_cons_succ, ih, List.replicate_succ, List.cons_append]
theorem and15 (n : Nat) (h : n < 18446744073709551616) : BitVec.toNat (BitVec.ofInt 64 (n : Int) &&& BitVec.ofInt 64 15) = n % 16 := by
  rw [BitVec.ofInt_natCast, BitVec.toNat_and, BitVec.toNat_ofNat, Nat.mod_eq_of_lt h]
  show n &&& 15 = n % 16
  exact Nat.and_two_pow_sub_one_eq_mod n 4
theorem bt_hex {k : Nat} (h : k < 16) : bt (ByteArray.mk #[48, 49, 50, 51, 52, 53, 54, 55, 56, 57, 97, 98, 99, 100, 101, 102]) (k : Int) = (((hexC k).toNat : Nat) : Int) := by
  have : ∀ k : Fin 16, bt (ByteArray.mk #[48, 49, 50, 51, 52, 53, 54, 55, 56, 57, 97, 98, 99, 100, 101, 102]) (k.val : Int) = (((hexC k.val).toNat : Nat) : Int) := by decide +kernel
  exact this ⟨k, h⟩
theorem wp_mkB {P : Program} {t el : TypeId} {bytes : Nat} {Q : Post} {S : World → Prop} {k : Sl → Prog} [ht : SlT P t el 1 bytes] [hz : Zer P el (.int .u8 0)] (n : Nat) (hs : Sat w l) (h : ∀ x w', Sat w' (slc el 1 x ((List.replicate n (0 : UInt8)).flatMap encU) :: l) → (k x).wp P S w' Q) (hb : n * bytes ≤ 281474976710656 ∧ n ≤ 9223372036854775807) (hS : ∀ w', S w' := by exact fun _ => trivial) :
    (Prog.act (Instr.makeSlice t (.int .i64 (n : Int)) (.int .i64 (n : Int))) sL (u1 k)).wp P S w Q := by
  obtain ⟨i, z, hi, h2, h3, h4, h5⟩ := ht.parts
  have hz' : z = .int .u8 0 := by
    have := hz.ok
    unfold zeroOf at this
    rw [hi] at this
    simp only at this
    rw [h4] at this
    exact Option.some.inj this
  have hrun := run_make (P := P) w t el i z ht.ok.1 hi h4 .i64 .i64 n n (by omega) (Int.le_refl _) (by rw [h3, ← Int.natCast_mul, Nat.mul_comm]; omega) (by omega)
  simp only [Int.toNat_natCast] at hrun
  have hp := hs.push (o := .cells (madeCells z.cells (n * i.size)) el) (w' := w.alloc (.cells (madeCells z.cells (n * i.size)) el)) rfl
  refine ⟨(⟨some ⟨w.heap.size, 0, none⟩, n, n⟩, ()), _, hrun, hS _, h ⟨some ⟨w.heap.size, 0, none⟩, n, n⟩ _ ?_⟩
  refine hp.imp fun p hp => .inr ⟨w.heap.size, 0, _, _, rfl, hp, by rw [flat_len, List.length_replicate], Nat.le_refl _, by rw [size_madeCells, h2]; simp, fun j hj => ?_, unfrozen_zero _ _⟩
  rw [flat_len, List.length_replicate, Nat.mul_one] at hj
  rw [h2, Nat.mul_one, Nat.zero_add, flat_encU, hz']
  have e1 : (madeCells (Value.int .u8 0).cells n)[j]? = some (.int .u8 0) := by
    rw [Array.getElem?_eq_getElem (by rw [size_madeCells]; exact hj)]
    simp [madeCells, Value.cells, Nat.mod_one]
  rw [e1, List.getElem?_map, List.getElem?_replicate, if_pos hj]
  rfl
theorem name_c0 (base : Int) (h : 0 ≤ base ∧ base < 17592186044416) (x : ByteArray) (hx : x.size ≤ 100) {d_ : Value} {seg gp : Value} {zz : Value} (pre : ByteArray) (hp : pre.size ≤ 100) [hf : FocB l lg (.cells [d_, .string pre, seg, gp, zz].toArray T.seglog_Log) r] (hs : Sat w l) :
    Ret P F.seglog_Log_name #[.pointer (some ⟨lg, 0, none⟩), .int .i64 base, .string x] w fun vs w' => vs = [.string (nameS pre base (bl x))] ∧ Sat w' l :=
  seglog_Log_name_calls _ base x <| by
    unfold seglog_Log_name
    refine wp_mkB 11 hs (fun z w' hs => ?_) (by omega)
    refine wp_mid (fun _ w' => Sat w' (slc T.uint8 1 z ((hexL 11 base.toNat).flatMap encU) :: l)) ?_ ?_
    · refine wp_loop (fun m v w => ∃ j : Nat, v = (((base.toNat / 16 ^ j : Nat) : Int), ((10 - (j : Int)), ())) ∧ j ≤ 11 ∧ 11 - j = m ∧ Sat w (slc T.uint8 1 z ((List.replicate (11 - j) 0 ++ hexL j base.toNat).flatMap encU) :: l)) 11 ⟨0, by rw [Nat.pow_zero, Nat.div_one, Int.toNat_of_nonneg h.1]; rfl, by omega, rfl, by simpa [hexL] using hs⟩ ?_
      clear hs
      rintro m _ w ⟨j, rfl, hj, hm, hs⟩
      refine wp_on ?_
      refine wp_if (fun hc => ?_) fun hc => ?_
      rotate_left
      · have : j = 11 := by omega
        subst this
        exact wp_pass (wp_lv (by simpa using hs))
      have hj2 : j ≤ 10 := by omega
      have hb : base.toNat / 16 ^ j < 18446744073709551616 := by
        have := Nat.div_le_self base.toNat (16 ^ j)
        omega
      have hmod := Nat.mod_lt (base.toNat / 16 ^ j) (show 0 < 16 by omega)
      rw [and15 _ hb, w64 (by omega) (by omega)]
      refine wp_must (by omega) ?_
      rw [bt_hex hmod]
      refine wp_ixS hs (xs := List.replicate (11 - j) 0 ++ hexL j base.toNat) (enc := encU) (10 - j) (by rw [List.length_append, List.length_replicate]; omega) (hexC (base.toNat / 16 ^ j % 16)) fun w' hs => ?_
      refine wp_ltx (y := ((base.toNat / 16 ^ (j + 1) : Nat) : Int)) ?_ ?_
      · refine wp_ltx (y := 10 - ((j + 1 : Nat) : Int)) ?_ (by rw [w64 (by omega) (by omega)]; omega)
        refine wp_lp (11 - (j + 1)) ⟨j + 1, rfl, by omega, rfl, ?_⟩
        have e := set_rep (10 - j) (hexC (base.toNat / 16 ^ j % 16)) (hexL j base.toNat)
        rw [show 10 - j + 1 = 11 - j by omega] at e
        rw [e, ← hexL_cons] at hs
        rw [show 11 - (j + 1) = 10 - j by omega]
        exact hs
      · rw [fdiv_nat _ (by omega)]
        show ((base.toNat / 16 ^ j / 16 : Nat) : Int) = _
        rw [Nat.div_div_eq_div_mul, ← Nat.pow_succ]
    clear hs
    rintro _ w hs
    refine wp_on ?_
    refine wp_tk hs fun w' hs => ?_
    refine wp_nn ?_
    refine wp_ldO hs ?_
    refine wp_must (by omega) ?_
    refine wp_ofB (bs := hexL 11 base.toNat) hs ?_
    have h11 := hexL_len 11 base.toNat
    have s1 : (pre ++ ByteArray.mk #[45]).size = pre.size + 1 := ByteArray.size_append ..
    have s2 : (ByteArray.mk (hexL 11 base.toNat).toArray).size = 11 := h11
    refine wp_must (by omega) ?_
    have s3 : (pre ++ ByteArray.mk #[45] ++ ByteArray.mk (hexL 11 base.toNat).toArray).size = pre.size + 12 := by rw [ByteArray.size_append, s1, s2]
    refine wp_must (by omega) ?_
    refine wp_lt ?_
    refine wp_untick ?_
    refine ⟨rfl, ?_, hs.tail⟩
    congr 2
    apply bl_ext
    rw [bl_nameS]
    unfold bl
    simp only [ByteArray.data_append, Array.toList_append, List.append_assoc]
    rfl
theorem or16 {a d : Nat} (hd : d < 16) (ha : a < 576460752303423488) : BitVec.toNat (BitVec.ofInt 64 ((a : Int) * 16) ||| BitVec.ofInt 64 (d : Int)) = 16 * a + d := by
  have e : (a : Int) * 16 = ((16 * a : Nat) : Int) := by omega
  rw [e, BitVec.ofInt_natCast, BitVec.ofInt_natCast, BitVec.toNat_or, BitVec.toNat_ofNat, BitVec.toNat_ofNat, Nat.mod_eq_of_lt (show 16 * a < 2 ^ 64 by omega), Nat.mod_eq_of_lt (show d < 2 ^ 64 by omega)]
  exact (Nat.two_pow_add_eq_or_of_lt (i := 4) hd a).symm
theorem hexV_lt : ∀ {r : List UInt8} {x v k : Nat}, hexV x r = some v → x < 16 ^ k → v < 16 ^ (k + r.length)
  | [], x, v, k, h, hx => by simp [hexV] at h; subst h; simpa using hx
  | c :: r, x, v, k, h, hx => by
    unfold hexV at h
    cases hd : hexD c with
    | none => rw [hd] at h; cases h
    | some d =>
      rw [hd] at h
      have hd := (hexC_D hd).2
      have := hexV_lt (k := k + 1) h (by rw [Nat.pow_succ]; omega)
      rw [List.length_cons, show k + (r.length + 1) = k + 1 + r.length by omega]
      exact this
theorem extract_bl (s : ByteArray) (i j : Nat) : bl (s.extract i j) = ((bl s).drop i).take (j - i) := by
  unfold bl
  rw [ByteArray.data_extract, Array.toList_extract, List.extract_eq_take_drop]
theorem base_c0 (n x : ByteArray) (hn : n.size ≤ 1000) (hx : x.size ≤ 100) {d_ : Value} {seg gp : Value} {zz : Value} (pre : ByteArray) (hp : pre.size ≤ 100) [hf : FocB l lg (.cells [d_, .string pre, seg, gp, zz].toArray T.seglog_Log) r] (hs : Sat w l) :
    Ret P F.seglog_Log_base #[.pointer (some ⟨lg, 0, none⟩), .string n, .string x] w fun vs w' => vs = [.int .i64 (((baseN pre n (bl x)).getD 0 : Nat) : Int), .bool (baseN pre n (bl x)).isSome] ∧ Sat w' l :=
  seglog_Log_base_calls _ n x <| by
    unfold seglog_Log_base
    refine wp_nn ?_
    refine wp_ldO hs ?_
    have e1 : IntKind.wrap .i64 (((ByteArray.size pre : Nat) : Int) + 1) = ((pre.size + 1 : Nat) : Int) := by rw [w64 (by omega) (by omega)]; omega
    have e2 : IntKind.wrap .i64 (((pre.size + 1 : Nat) : Int) + 11) = ((pre.size + 12 : Nat) : Int) := by rw [w64 (by omega) (by omega)]; omega
    have e3 : IntKind.wrap .i64 (((pre.size + 12 : Nat) : Int) + ((ByteArray.size x : Nat) : Int)) = ((pre.size + 12 + x.size : Nat) : Int) := by rw [w64 (by omega) (by omega)]; omega
    rw [e1]
    refine wp_lt ?_
    rw [e2, e3]
    refine wp_must ?_ ?_
    · intro h
      have h : ((n.size : Nat) : Int) = ((pre.size + 12 + x.size : Nat) : Int) := by simpa using h
      omega
    have hb : baseN pre n (bl x) = if n.size = pre.size + 12 + x.size ∧ (bl n).drop (pre.size + 12) = bl x then hexV 0 (((bl n).drop (pre.size + 1)).take 11) else none := by
      unfold baseN
      rw [size_bl, size_bl, size_bl]
    refine wp_if (fun h => ?_) fun h => ?_
    · have : baseN pre n (bl x) = none := by
        rw [hb, if_neg]
        rintro ⟨h1, h2⟩
        rcases h with h | h
        · apply h; rw [h1]
        · apply h
          rw [Int.toNat_natCast]
          apply bl_ext
          rw [extract_bl, h2, List.take_of_length_le]
          rw [size_bl]; omega
      rw [this]
      exact ⟨rfl, rfl, hs⟩
    have h1 : n.size = pre.size + 12 + x.size := by
      have : ¬ (((n.size : Nat) : Int) ≠ ((pre.size + 12 + x.size : Nat) : Int)) := fun hh => h (.inl hh)
      omega
    have h2 : (bl n).drop (pre.size + 12) = bl x := by
      have h3 : ByteArray.extract n (pre.size + 12) n.size = x := by
        apply Decidable.byContradiction
        intro hh
        exact h (.inr (by rw [Int.toNat_natCast]; exact hh))
      rw [← h3, extract_bl, List.take_of_length_le]
      rw [List.length_drop, size_bl]; omega
    rw [if_pos ⟨h1, h2⟩] at hb
    refine wp_must (by omega) ?_
    rw [Int.toNat_natCast, Int.toNat_natCast]
    have h4 : (ByteArray.extract n (pre.size + 1) (pre.size + 12)).data.toList = ((bl n).drop (pre.size + 1)).take 11 := by
      have := extract_bl n (pre.size + 1) (pre.size + 12)
      rw [show pre.size + 12 - (pre.size + 1) = 11 by omega] at this
      exact this
    refine wp_toB hs fun y w' hs => ?_
    rw [h4] at hs
    generalize hcs : ((bl n).drop (pre.size + 1)).take 11 = cs at *
    have hcl : cs.length = 11 := by rw [← hcs, List.length_take, List.length_drop, size_bl]; omega
    have hl := hs.slen y (xs := cs) (enc := encU)
    rw [hb]
    refine wp_mid (fun q w' => ∃ v : Nat, hexV 0 cs = some v ∧ q = ((v : Int), ()) ∧ Sat w' l) ?_ ?_
    rotate_left
    · rintro _ w2 ⟨v, hv, rfl, hs⟩
      refine wp_lt ?_
      rw [hv]
      exact ⟨rfl, rfl, hs⟩
    refine wp_loop (fun m q w => ∃ i v : Nat, q = ((v : Int), ((i : Int), ())) ∧ i ≤ 11 ∧ 11 - i = m ∧ hexV 0 (cs.take i) = some v ∧ Sat w (slc T.uint8 1 y (cs.flatMap encU) :: l)) 11 ⟨0, 0, rfl, by omega, rfl, rfl, hs⟩ ?_
    clear hs
    rintro m _ w ⟨i, v, rfl, hi, hm, hv, hs⟩
    refine wp_on ?_
    refine wp_if (fun hc => ?_) fun hc => ?_
    rotate_left
    · refine wp_pass (wp_lv ⟨v, ?_, rfl, hs.tail⟩)
      rwa [List.take_of_length_le (by omega)] at hv
    have hil : i < cs.length := by omega
    have hvl := hexV_lt (k := 0) hv (by omega)
    rw [List.length_take] at hvl
    have hvl2 : v < 1152921504606846976 / 16 := by
      have h5 : 16 ^ (0 + min i cs.length) ≤ 16 ^ 10 := Nat.pow_le_pow_right (by omega) (by omega)
      omega
    have hstep : hexV 0 (cs.take (i + 1)) = (hexD cs[i]).map fun d => 16 * v + d := by
      rw [List.take_succ_eq_append_getElem hil, hexV_app, hv]
      show hexV v [cs[i]] = _
      unfold hexV
      cases hexD cs[i] <;> rfl
    have hcut : ∀ j, hexV 0 (cs.take j) = none → hexV 0 cs = none := fun j hj => by
      rw [← List.take_append_drop j cs, hexV_app, hj]; rfl
    refine wp_ix1 hs (xs := cs) (enc := encU) i hil ?_
    refine wp_lt ?_
    refine wp_lt ?_
    have hgo : ∀ {w : World} (d : Nat), hexD cs[i] = some d → Sat w (slc T.uint8 1 y (cs.flatMap encU) :: l) → ∃ i' v' : Nat, ((((16 * v + d : Nat) : Int), (((i + 1 : Nat) : Int), ())) : Int × Int × Unit) = ((v' : Int), ((i' : Int), ())) ∧ i' ≤ 11 ∧ 11 - i' = 11 - (i + 1) ∧ hexV 0 (cs.take i') = some v' ∧ Sat w (slc T.uint8 1 y (cs.flatMap encU) :: l) := fun d hd hs =>
      ⟨i + 1, 16 * v + d, rfl, by omega, rfl, by rw [hstep, hd]; rfl, hs⟩
    have hcb := (cs[i]).toNat_lt
    have ei : IntKind.wrap .i64 ((i : Int) + 1) = ((i + 1 : Nat) : Int) := by rw [w64 (by omega) (by omega)]; omega
    refine wp_mid (fun q w' => ∃ d : Nat, hexD cs[i] = some d ∧ q = (((16 * v + d : Nat) : Int), ()) ∧ Sat w' (slc T.uint8 1 y (cs.flatMap encU) :: l)) ?_ ?_
    rotate_left
    · rintro _ w2 ⟨d, hd, rfl, hs⟩
      rw [ei]
      exact wp_lp (11 - (i + 1)) (hgo d hd hs)
    have hor : ∀ d : Nat, d < 16 → IntKind.wrap .i64 (((BitVec.toNat (BitVec.ofInt 64 (IntKind.wrap .i64 ((v : Int) * 16)) ||| BitVec.ofInt 64 (d : Int)) : Nat) : Int)) = ((16 * v + d : Nat) : Int) := fun d hd => by
      rw [w64 (x := (v : Int) * 16) (by omega) (by omega), or16 hd (by omega), w64 (by omega) (by omega)]
    refine wp_if (fun h5 => ?_) fun h5 => ?_
    · have hd : hexD cs[i] = some ((cs[i]).toNat - 48) := by unfold hexD; rw [if_pos (by omega)]
      have e5 : IntKind.wrap .i64 (IntKind.wrap .u8 ((((cs[i]).toNat : Nat) : Int) - 48)) = (((cs[i]).toNat - 48 : Nat) : Int) := by
        rw [wu8 (by omega) (by omega), w64 (by omega) (by omega)]; omega
      rw [e5]
      refine wp_ltx (y := ((16 * v + ((cs[i]).toNat - 48) : Nat) : Int)) ?_ (hor _ (by omega))
      exact wp_lv ⟨_, hd, rfl, hs⟩
    refine wp_lt ?_
    refine wp_if (fun h6 => ?_) fun h6 => ?_
    · have hd : hexD cs[i] = some ((cs[i]).toNat - 87) := by unfold hexD; rw [if_neg (by omega), if_pos (by omega)]
      have e5 : IntKind.wrap .i64 (IntKind.wrap .u8 (IntKind.wrap .u8 ((((cs[i]).toNat : Nat) : Int) - 97) + 10)) = (((cs[i]).toNat - 87 : Nat) : Int) := by
        rw [wu8 (x := (((cs[i]).toNat : Nat) : Int) - 97) (by omega) (by omega), wu8 (by omega) (by omega), w64 (by omega) (by omega)]; omega
      rw [e5]
      refine wp_ltx (y := ((16 * v + ((cs[i]).toNat - 87) : Nat) : Int)) ?_ (hor _ (by omega))
      exact wp_lv ⟨_, hd, rfl, hs⟩
    · have hd : hexD cs[i] = none := by unfold hexD; rw [if_neg (by omega), if_neg (by omega)]
      have hno : hexV 0 cs = none := hcut (i + 1) (by rw [hstep, hd]; rfl)
      rw [hno]
      exact wp_pass (wp_pass (wp_pass ⟨rfl, rfl, hs.tail⟩))
theorem head_c (base fin : Int) (hb : 0 ≤ base ∧ base < 9223372036854775808) (hf : 0 ≤ fin ∧ fin < 9223372036854775808) (hs : Sat w l) : Ret P F.seglog_head #[.int .i64 base, .int .i64 fin] w fun vs w' => ∃ z : Sl, vs = [z.v] ∧ Sat w' (slc T.uint8 1 z ((shL base fin).flatMap encU) :: l) :=
  seglog_head_calls base fin <| by
    unfold seglog_head
    refine wp_litx hs (enc := encU) [(83 : UInt8)] fun z1 w' hs => ?_
    refine wp_call (wint_c base hb hs) fun _ w' hs => ?_
    obtain ⟨z2, rfl, hs⟩ := hs
    refine ret_of ?_
    refine wp_call (wint_c fin hf hs) fun _ w' hs => ?_
    obtain ⟨z3, rfl, hs⟩ := hs
    refine ret_of ?_
    refine wp_litx hs (enc := encSl) [z1, z2, z3] fun z4 w' hs => ?_
    have u1_ := uI_len base
    have u2_ := uI_len fin
    have f1 : FocR (slc T.s_uint8 1 z4 ([z1, z2, z3].flatMap encSl) :: slc T.uint8 1 z3 ((uI fin).flatMap encU) :: slc T.uint8 1 z2 ((uI base).flatMap encU) :: slc T.uint8 1 z1 (([83] : List UInt8).flatMap encU) :: l) z1 1 (([83] : List UInt8).flatMap encU) := inferInstance
    have f2 : FocR (slc T.s_uint8 1 z4 ([z1, z2, z3].flatMap encSl) :: slc T.uint8 1 z3 ((uI fin).flatMap encU) :: slc T.uint8 1 z2 ((uI base).flatMap encU) :: slc T.uint8 1 z1 (([83] : List UInt8).flatMap encU) :: l) z2 1 ((uI base).flatMap encU) := inferInstance
    have f3 : FocR (slc T.s_uint8 1 z4 ([z1, z2, z3].flatMap encSl) :: slc T.uint8 1 z3 ((uI fin).flatMap encU) :: slc T.uint8 1 z2 ((uI base).flatMap encU) :: slc T.uint8 1 z1 (([83] : List UInt8).flatMap encU) :: l) z3 1 ((uI fin).flatMap encU) := inferInstance
    refine wp_call (fseal_c z4 [(z1, [83]), (z2, uI base), (z3, uI fin)] (fun p hp => ?_) (by show 3 ≤ 1000000; omega) hs) fun _ w' hs => ?_
    · simp only [List.mem_cons, List.not_mem_nil, or_false] at hp
      rcases hp with rfl | rfl | rfl
      · exact ⟨f1, by show (1 : Nat) ≤ _; omega⟩
      · exact ⟨f2, by show (uI base).length ≤ _; omega⟩
      · exact ⟨f3, by show (uI fin).length ≤ _; omega⟩
    obtain ⟨z5, rfl, hs⟩ := hs
    refine ret_of ?_
    refine ⟨rfl, z5, rfl, ?_⟩
    have e : ([(z1, [83]), (z2, uI base), (z3, uI fin)] : List (Sl × List UInt8)).flatMap Prod.snd = shB base fin := by simp [shB]
    rw [e] at hs
    have hs : Sat _ (slc T.uint8 1 z5 ((shL base fin).flatMap encU) :: _) := hs
    exact hs.sub
theorem headed_c (x : Sl) (body : List UInt8) (base : Int) (hb : 0 ≤ base ∧ base < 9223372036854775808) [hx : FocR l x 1 (body.flatMap encU)] (hn : body.length ≤ 1000000000) (hs : Sat w l) :
    Ret P F.seglog_headed #[x.v, .int .i64 base] w fun vs w' => ∃ v : Int, vs = [.int .i64 v, .bool (headS base body).isSome] ∧ (∀ f, headS base body = some f → v = f) ∧ Sat w' l :=
  seglog_headed_calls x base <| by
    unfold seglog_headed
    refine wp_call (newS_c x body hn hs) fun _ w' hs => ?_
    obtain ⟨p, rfl, hs⟩ := hs
    refine ret_of ?_
    refine wp_call (byteS_c (p := p) hs) fun _ _ hs => ?_
    obtain ⟨rfl, hs⟩ := hs
    refine ret_of ?_
    refine wp_call (uintS_c (p := p) hs) fun _ _ hs => ?_
    obtain ⟨rfl, hs⟩ := hs
    refine ret_of ?_
    refine wp_call (uintS_c (p := p) hs) fun _ _ hs => ?_
    obtain ⟨rfl, hs⟩ := hs
    refine ret_of ?_
    refine wp_lt ?_
    refine wp_lt ?_
    refine wp_lt ?_
    refine wp_call (endS_c (p := p) hs) fun _ w' hs => ?_
    obtain ⟨e, rfl, he, hs⟩ := hs
    refine ret_of ?_
    have eh : headS base body = if (uintS (uintS (byteS (some body)).2).2).2 = some [] ∧ (byteS (some body)).1 = 83 ∧ ((uintS (byteS (some body)).2).1 : Int) = base ∧ base ≤ 1099511627776 ∧ (uintS (uintS (byteS (some body)).2).2).1 ≤ 1099511627776 ∧ ((uintS (uintS (byteS (some body)).2).2).1 = 0 ∨ base < (uintS (uintS (byteS (some body)).2).2).1) then some ((uintS (uintS (byteS (some body)).2).2).1 : Int) else none := rfl
    generalize headS base body = HS at eh he ⊢
    generalize byteS (some body) = k at eh he ⊢
    generalize uintS k.2 = m at eh he ⊢
    generalize uintS m.2 = q at eh he ⊢
    have ew : IntKind.wrap .u64 base = base := wu64 (by omega) (by omega)
    rw [ew]
    refine wp_if (fun h => ?_) fun h => ?_
    · have : HS = none := by
        rw [eh, if_neg]
        rintro ⟨h1, h2, h3, h4, h5, -⟩
        have h6 := he.2 h1
        rcases h with (((h | h) | h) | h) | h
        · exact h h6
        · apply h; rw [h2]; rfl
        · exact h h3
        · omega
        · omega
      rw [this]
      exact ⟨rfl, 0, rfl, (fun f hf => by cases hf), hs⟩
    have h1 : q.2 = some [] := he.1 (Decidable.byContradiction fun hh => h (.inl (.inl (.inl (.inl hh)))))
    have h2 : k.1 = 83 := by
      have : ((k.1 : Nat) : Int) = 83 := Decidable.byContradiction fun hh => h (.inl (.inl (.inl (.inr hh))))
      omega
    have h3 : ((m.1 : Nat) : Int) = base := Decidable.byContradiction fun hh => h (.inl (.inl (.inr hh)))
    have h4 : base ≤ 1099511627776 := by
      apply Decidable.byContradiction; intro hh; exact h (.inl (.inr (by omega)))
    have h5 : q.1 ≤ 1099511627776 := by
      apply Decidable.byContradiction; intro hh; exact h (.inr (by omega))
    rw [w64 (by omega) (by omega)]
    refine wp_lt ?_
    refine wp_lt ?_
    refine ⟨rfl, ((q.1 : Nat) : Int), ?_, ?_, hs⟩
    · congr 2
      rw [eh]
      by_cases h6 : q.1 = 0 ∨ base < q.1
      · rw [if_pos ⟨h1, h2, h3, h4, h5, h6⟩]
        have : (((q.1 : Nat) : Int) == 0 || decide (((q.1 : Nat) : Int) > base)) = true := by
          rw [Bool.or_eq_true, beq_iff_eq, decide_eq_true_eq]; omega
        rw [this]; rfl
      · rw [if_neg fun hh => h6 hh.2.2.2.2.2]
        have : (((q.1 : Nat) : Int) == 0 || decide (((q.1 : Nat) : Int) > base)) = false := by
          rw [Bool.or_eq_false_iff, beq_eq_false_iff_ne, decide_eq_false_iff_not]; omega
        rw [this]; rfl
    · intro f hf
      rw [eh] at hf
      split at hf
      · exact Option.some.inj hf
      · cases hf
theorem timeG_take (x : Int) (rs : List RecM) (i : Nat) (hi : i < rs.length) : timeG x (rs.take (i + 1)) = max (timeG x (rs.take i)) rs[i].time := by
  rw [List.take_succ_eq_append_getElem hi]
  unfold timeG
  rw [List.foldl_append]
  rfl
theorem latest_c (b : BatM) [hb : FocR l b.x 4 (b.rs.flatMap encR)] (hlen : b.rs.length ≤ 1000000000) (hs : Sat w l) : Ret P F.seglog_latest #[.agg (encB7 b).toArray] w fun vs w' => vs = [.int .i64 (lateB b)] ∧ Sat w' l :=
  seglog_latest_calls b.base b.pid b.epoch b.seq b.kind b.time b.x <| by
    unfold seglog_latest
    have hl := hs.slen b.x (xs := b.rs) (enc := encR)
    refine wp_boxO hs fun a0 w' hs => ?_
    refine wp_ldO hs ?_
    refine wp_mid (fun q w' => q = (timeG (-1) b.rs, ()) ∧ Sat w' (pt a0 (.cells (cB b) T.api_Batch) :: l)) ?_ ?_
    · refine wp_loop (fun m v w => ∃ i : Nat, v = (timeG (-1) (b.rs.take i), ((i : Int), ())) ∧ i ≤ b.rs.length ∧ b.rs.length - i = m ∧ Sat w (pt a0 (.cells (cB b) T.api_Batch) :: l)) b.rs.length ⟨0, rfl, by omega, rfl, hs⟩ ?_
      clear hs
      rintro m _ w ⟨i, rfl, hi, hm, hs⟩
      refine wp_on ?_
      refine wp_if (fun hc => ?_) fun hc => ?_
      rotate_left
      · refine wp_pass (wp_lv ⟨?_, hs⟩)
        rw [List.take_of_length_le (by omega)]
      have hil : i < b.rs.length := by omega
      refine wp_ixA hs (xs := b.rs) (enc := encR) i hil ?_
      refine wp_newO hs fun c w' hs => ?_
      refine wp_stG hs fun w' hs => ?_
      refine wp_ldO hs ?_
      refine wp_ltx (y := timeG (-1) (b.rs.take (i + 1))) ?_ (by rw [timeG_take _ _ _ hil]; split <;> omega)
      rw [show IntKind.wrap .i64 ((i : Int) + 1) = ((i + 1 : Nat) : Int) by rw [w64 (by omega) (by omega)]; omega]
      exact wp_lp (b.rs.length - (i + 1)) ⟨i + 1, rfl, by omega, rfl, hs.sub⟩
    clear hs
    rintro _ w ⟨rfl, hs⟩
    refine wp_on ?_
    refine wp_ldO hs ?_
    refine wp_mid (fun q w' => q = (lateB b, ()) ∧ Sat w' (pt a0 (.cells (cB b) T.api_Batch) :: l)) ?_ ?_
    · unfold lateB
      refine wp_if (fun h => ?_) fun h => ?_
      · refine wp_ldO hs ?_
        refine wp_lt ?_
        refine wp_lv ⟨?_, hs⟩
        rw [if_pos (List.length_eq_zero_iff.1 (by omega))]
      · refine wp_lv ⟨?_, hs⟩
        rw [if_neg (by rintro h0; rw [h0] at hl; simp at hl; omega)]
    rintro _ w2 ⟨rfl, hs⟩
    refine wp_lt ?_
    exact ⟨rfl, rfl, hs.tail⟩
theorem lmay_c (seg gap : Int) (hs : Sat w l) : Ret P F.seglog_may #[.agg #[.int .i64 seg, .int .i64 gap]] w fun vs w' => vs = [.bool (decide ((64 ≤ seg ∧ seg ≤ 4194304) ∧ (1 ≤ gap ∧ gap ≤ 4194304)))] ∧ Sat w' l :=
  seglog_may_calls seg gap <| by
    unfold seglog_may
    refine wp_boxO hs fun a0 w' hs => ?_
    refine wp_ldO hs ?_
    refine wp_ldO hs ?_
    refine wp_ldO hs ?_
    refine wp_ldO hs ?_
    refine wp_lt ?_
    refine ⟨rfl, ?_, hs.tail⟩
    congr 2
    rw [Bool.eq_iff_iff, decide_eq_true_iff]
    simp only [Bool.and_eq_true, decide_eq_true_eq]
    omega
theorem prefix_l (s : ByteArray) (hs : Sat w l) : Ret P F.seglog_Prefix #[.string s] w fun vs w' => vs = [.bool (preS s)] ∧ Sat w' l :=
  seglog_Prefix_calls s <| by
    unfold seglog_Prefix
    unfold preS
    refine wp_if (fun h => ?_) fun h => ?_
    · rw [decide_eq_false (by omega), Bool.false_and]
      exact ⟨rfl, rfl, hs⟩
    rw [decide_eq_true (by omega), Bool.true_and]
    refine wp_toB hs fun x w' hs => ?_
    have hl := hs.slen x (xs := bl s) (enc := encU)
    have hsz := size_bl s
    refine wp_mid (fun _ w' => ((bl s).all fun c => (97 ≤ c.toNat && c.toNat ≤ 122) || (48 ≤ c.toNat && c.toNat ≤ 57)) = true ∧ Sat w' l) ?_ ?_
    rotate_left
    · rintro _ w2 ⟨h2, hs⟩
      rw [h2]
      exact ⟨rfl, rfl, hs⟩
    refine wp_loop (fun m v w => ∃ i : Nat, v = ((i : Int), ()) ∧ i ≤ (bl s).length ∧ (bl s).length - i = m ∧ (((bl s).take i).all fun c => (97 ≤ c.toNat && c.toNat ≤ 122) || (48 ≤ c.toNat && c.toNat ≤ 57)) = true ∧ Sat w (slc T.uint8 1 x ((bl s).flatMap encU) :: l)) (bl s).length ⟨0, rfl, by omega, rfl, rfl, hs⟩ ?_
    clear hs
    rintro m _ w ⟨i, rfl, hi, hm, hall, hs⟩
    refine wp_on ?_
    refine wp_if (fun hc => ?_) fun hc => ?_
    rotate_left
    · refine wp_pass (wp_lv ⟨?_, hs.tail⟩)
      rwa [List.take_of_length_le (by omega)] at hall
    have hil : i < (bl s).length := by omega
    refine wp_ix1 hs (xs := bl s) (enc := encU) i hil ?_
    refine wp_lt ?_
    have hstep : (((bl s).take (i + 1)).all fun c => (97 ≤ c.toNat && c.toNat ≤ 122) || (48 ≤ c.toNat && c.toNat ≤ 57)) = ((97 ≤ (bl s)[i].toNat && (bl s)[i].toNat ≤ 122) || (48 ≤ (bl s)[i].toNat && (bl s)[i].toNat ≤ 57)) := by
      rw [List.take_succ_eq_append_getElem hil, List.all_append, hall]
      simp
    refine wp_ite (fun h3 => ?_) fun h3 => ?_
    · refine wp_pass (wp_pass ⟨rfl, ?_, hs.tail⟩)
      have hf : ((97 ≤ (bl s)[i].toNat && (bl s)[i].toNat ≤ 122) || (48 ≤ (bl s)[i].toNat && (bl s)[i].toNat ≤ 57)) = false := by
        rw [Bool.eq_false_iff]
        intro hh
        simp only [Bool.not_eq_true', Bool.or_eq_false_iff, Bool.and_eq_false_iff, decide_eq_false_iff_not] at h3
        simp only [Bool.or_eq_true, Bool.and_eq_true, decide_eq_true_eq] at hh
        omega
      have : ((bl s).all fun c => (97 ≤ c.toNat && c.toNat ≤ 122) || (48 ≤ c.toNat && c.toNat ≤ 57)) = false := by
        rw [← List.take_append_drop (i + 1) (bl s), List.all_append, hstep, hf]
        rfl
      rw [this]
    · rw [show IntKind.wrap .i64 ((i : Int) + 1) = ((i + 1 : Nat) : Int) by rw [w64 (by omega) (by omega)]; omega]
      refine wp_lp ((bl s).length - (i + 1)) ⟨i + 1, rfl, by omega, rfl, ?_, hs⟩
      rw [hstep]
      simp only [Bool.not_eq_false', Bool.or_eq_true, Bool.and_eq_true, decide_eq_true_eq] at h3
      simp only [Bool.or_eq_true, Bool.and_eq_true, decide_eq_true_eq]
      omega
end
end Go.Dec
namespace Go.Dec
set_option linter.unusedVariables false
set_option linter.unusedSimpArgs false
instance (priority := low) AddrIs.adds {a : Addr} {b off n : Nat} [h : AddrIs a b off] : AddrIs (a.add n) b (off + n) := ⟨by rw [h.ok, add_mk]⟩
section
variable {P : Program} {w : World} {Q : Post} {S : World → Prop}
theorem wp_gz {g : Prop} {o : Option Addr} {f : Addr → Prog} (h : (f ⟨0, 0, none⟩).wp P S w Q) (hg : ¬ g) : (Prog.ex [.adr] (c1 fun x => g → o = some x) (u1 f)).wp P S w Q := ⟨(⟨0, 0, none⟩, ()), fun h => absurd h hg, h⟩
theorem wp_gr {g : Prop} {m : Sem Value} {p : Pr} {f : p.D → Prog} (x : p.D) (hg : ¬ g) (h : (f x).wp P S w Q) : (Prog.read g m (.one (.one p)) (u1 f)).wp P S w Q := ⟨(x, ()), fun h => absurd h hg, h⟩
end
def SegA.add (s : SegA) (bs : List BatM) : SegA := ⟨s.base, s.fin, s.bs ++ bs.map BatM.p⟩
theorem add_nil (s : SegA) : s.add [] = s := by unfold SegA.add; simp
theorem add_add (s : SegA) (a b : List BatM) : (s.add a).add b = s.add (a ++ b) := by unfold SegA.add; simp
theorem flat_p (bs : List BatM) : (bs.map BatM.p).flatMap frL = bs.flatMap frL := by
  rw [List.flatMap_map]; rfl
theorem file_add (s : SegA) (bs : List BatM) : (s.add bs).file = s.file ++ bs.flatMap frL := by
  unfold SegA.file SegA.add
  simp only [List.flatMap_append, flat_p, List.append_assoc]
theorem idx_add (gap : Int) (s : SegA) (b : BatM) : (s.add [b]).idx gap = (noteA (s.idx gap) b.base (s.file.length : Nat) (lateB b)).2 := by
  unfold SegA.idx SegA.add
  show idxG (idx0 gap) _ (s.bs ++ [b.p]) = _
  rw [idxG_snoc, file_len]
  rw [show ((((shL s.base s.fin).length + (s.bs.flatMap frL).length : Nat)) : Int) = ((shL s.base s.fin).length : Int) + ((s.bs.flatMap frL).length : Int) by omega]
  rfl
theorem getLast_map {α β : Type} (f : α → β) (l : List α) : (l.map f).getLast? = l.getLast?.map f := by simp
section
variable {w : World} {l r : List HP} {lg : Nat} {M : LogM} {A : LogA} {gap : Int} {a : Nat} {t : SegM}
theorem reach_c [hf : Fo l (segP gap) a t r] (hs : Sat w l) : Ret P F.seglog_segment_reach #[.pointer (some ⟨a, 0, none⟩)] w fun vs w' => vs = [.int .i64 t.s.reach] ∧ Sat w' (segP gap a t :: r) :=
  seglog_segment_reach_calls _ <| by
    unfold seglog_segment_reach
    have hs := seg_open (hs.perm hf.perm)
    refine wp_tk hs fun w' hs => ?_
    refine wp_nn ?_
    refine wp_ldO hs ?_
    refine wp_nn ?_
    refine wp_ldO hs ?_
    refine wp_nn ?_
    refine wp_ldO hs ?_
    refine wp_ltx (y := t.s.reach) ?_ (by unfold SegA.reach; split <;> split <;> omega)
    refine wp_untick ?_
    exact ⟨rfl, rfl, seg_close t hs⟩
theorem newseg_c (base fin : Int) (hb : 0 ≤ base ∧ base < 9223372036854775808) (hf' : 0 ≤ fin ∧ fin < 9223372036854775808) [hf : Fo l lgQ lg M r] (hs : Sat w l) :
    Ret P F.seglog_Log_segment #[.pointer (some ⟨lg, 0, none⟩), .int .i64 base, .int .i64 fin] w fun vs w' => ∃ a ix, vs = [.pointer (some ⟨a, 0, none⟩)] ∧ Sat w' (segP M.gap a ⟨ix, ⟨base, fin, []⟩⟩ :: lgQ lg M :: r) :=
  seglog_Log_segment_calls _ base fin <| by
    unfold seglog_Log_segment
    obtain ⟨hok, hs⟩ := lgQ_open (hs.perm hf.perm)
    refine wp_nn ?_
    refine wp_ldO hs ?_
    refine wp_call (inew_c M.gap hok.gap hs) fun _ w' hs => ?_
    obtain ⟨ix, rfl, hs⟩ := hs
    refine ret_of ?_
    refine wp_lt ?_
    refine wp_call (head_c base fin hb hf' hs) fun _ w' hs => ?_
    obtain ⟨z, rfl, hs⟩ := hs
    refine ret_of ?_
    have hl := hs.slen z (xs := shL base fin) (enc := encU)
    refine wp_boxO hs fun a w' hs => ?_
    refine ⟨rfl, a, ix, rfl, ?_⟩
    have hs : Sat w' (pt a (.cells #[.pointer (some ⟨ix, 0, none⟩), .int .i64 base, .int .i64 fin, .int .i64 (nextG []), .int .i64 (lateG (-1) []), .int .i64 ((SegA.file ⟨base, fin, []⟩).length : Nat)] T.seglog_segment) :: slc T.uint8 1 z ((shL base fin).flatMap encU) :: idxP ix ((SegA.mk base fin []).idx M.gap) :: pt lg (.cells #[.pointer (some ⟨M.d, 0, none⟩), .string M.pre, .int .i64 M.seg, .int .i64 M.gap, .slice M.z.a M.z.len M.z.cap] T.seglog_Log) :: slc T.p_seglog_segment 1 M.z ((M.SM.map Prod.fst).flatMap encP) :: HP.all (M.SM.map fun t => segP M.gap t.1 t.2) :: r) := by
      have e : (SegA.file ⟨base, fin, []⟩).length = z.len := by rw [file_len, hl]; simp
      rw [e]
      exact hs
    have hs := lgQ_close M hok (hs.pick [3, 3, 3])
    exact seg_close ⟨ix, ⟨base, fin, []⟩⟩ (hs.sub)
theorem take_c (b : BatM) (hv : validB b = 0) [hf : Fo l (segP gap) a t r] [hb : FocR r b.x 4 (b.rs.flatMap encR)] (hlen : t.s.file.length + (frL b).length ≤ 1000000000) (hs : Sat w l) :
    Ret P F.seglog_segment_take #[.pointer (some ⟨a, 0, none⟩), .agg (encB7 b).toArray, .int .i64 ((frL b).length : Nat)] w fun vs w' => vs = [] ∧ Sat w' (segP gap a ⟨t.ix, t.s.add [b]⟩ :: r) :=
  seglog_segment_take_calls _ b.base b.pid b.epoch b.seq b.kind b.time b.x _ <| by
    unfold seglog_segment_take
    obtain ⟨h64, -⟩ := valid_recs hv
    obtain ⟨-, -, ⟨-, hba, -⟩, -, -⟩ := span_le b hv
    have hs := seg_open (hs.perm hf.perm)
    refine wp_boxO hs fun a0 w' hs => ?_
    refine wp_ldG hs ?_
    refine wp_call (latest_c b (by omega) hs) fun _ w' hs => ?_
    obtain ⟨rfl, hs⟩ := hs
    refine ret_of ?_
    refine wp_lt ?_
    refine wp_tk hs fun w' hs => ?_
    refine wp_nn ?_
    refine wp_ldO hs ?_
    refine wp_ldO hs ?_
    refine wp_nn ?_
    refine wp_ldO hs ?_
    refine wp_call (note_c (b := t.ix) b.base ((t.s.file.length : Nat) : Int) (lateB b) (by omega) (by omega) hs) fun _ w' hs => ?_
    obtain ⟨rfl, hs⟩ := hs
    refine ret_of ?_
    refine wp_untick ?_
    refine wp_ldG hs ?_
    refine wp_call (next_c_ b hs) fun _ w' hs => ?_
    obtain ⟨rfl, hs⟩ := hs
    refine ret_of ?_
    refine wp_nn ?_
    refine wp_stO hs fun w' hs => ?_
    refine wp_nn ?_
    refine wp_ldO hs ?_
    refine wp_nn ?_
    refine wp_stO hs fun w' hs => ?_
    refine wp_nn ?_
    refine wp_ldO hs ?_
    refine wp_nn ?_
    rw [w64 (by omega) (by omega)]
    refine wp_stO hs fun w' hs => ?_
    refine ⟨rfl, rfl, ?_⟩
    have e1 : nextB b = nextG (t.s.add [b]).bs := by
      show _ = nextG (t.s.bs ++ [b.p])
      rw [nextG_snoc]
      unfold nextB
      rw [if_neg (by rw [hv]; simp)]
      rfl
    have e2 : (if lateB b > lateG (-1) t.s.bs then lateB b else lateG (-1) t.s.bs) = lateG (-1) (t.s.add [b]).bs := by
      show _ = lateG (-1) (t.s.bs ++ [b.p])
      rw [lateG_snoc]
      show _ = max _ (lateB b)
      split <;> omega
    have e3 : ((t.s.file.length : Nat) : Int) + ((frL b).length : Nat) = (((t.s.add [b]).file.length : Nat) : Int) := by
      rw [file_add, List.length_append]; simp
    rw [e1, e2, e3, ← idx_add] at hs
    have hs : Sat w' (pt a (.cells #[.pointer (some ⟨t.ix, 0, none⟩), .int .i64 (t.s.add [b]).base, .int .i64 (t.s.add [b]).fin, .int .i64 (nextG (t.s.add [b]).bs), .int .i64 (lateG (-1) (t.s.add [b]).bs), .int .i64 ((t.s.add [b]).file.length : Nat)] T.seglog_segment) :: _) := hs
    refine seg_close ⟨t.ix, t.s.add [b]⟩ ?_
    exact hs.sub
theorem last_c [hf : Fo l lgQ lg M r] (hlen : M.SM.length ≤ 1000000000) (hs : Sat w l) : Ret P F.seglog_Log_last #[.pointer (some ⟨lg, 0, none⟩)] w fun vs w' => vs = [.pointer (ptrO (M.SM.getLast?.map Prod.fst))] ∧ Sat w' (lgQ lg M :: r) :=
  seglog_Log_last_calls _ <| by
    unfold seglog_Log_last
    obtain ⟨hok, hs⟩ := lgQ_open (hs.perm hf.perm)
    have hl := hs.slen M.z (xs := M.SM.map Prod.fst) (enc := encP)
    rw [List.length_map] at hl
    refine wp_nn ?_
    refine wp_ldO hs ?_
    refine wp_if (fun h => ?_) fun h => ?_
    · have : M.SM = [] := List.length_eq_zero_iff.1 (by omega)
      rw [this]
      rw [this] at hs
      have hs := lgQ_close M hok (by rw [this]; exact hs)
      exact ⟨rfl, rfl, hs⟩
    have h0 : 0 < M.SM.length := by omega
    refine wp_tk hs fun w' hs => ?_
    refine wp_nn ?_
    refine wp_ldO hs ?_
    refine wp_nn ?_
    refine wp_ldO hs ?_
    rw [w64 (by omega) (by omega)]
    refine wp_ix1 hs (xs := M.SM.map Prod.fst) (enc := encP) (M.SM.length - 1) (by rw [List.length_map]; omega) ?_
    refine wp_untick ?_
    refine ⟨rfl, ?_, lgQ_close M hok hs⟩
    have e : M.SM.getLast?.map Prod.fst = some ((M.SM.map Prod.fst)[M.SM.length - 1]'(by rw [List.length_map]; omega)) := by
      rw [List.getLast?_eq_getElem?, List.getElem?_eq_getElem (by omega)]
      simp
    rw [e]
    rfl
/-- One segment's parts. -/
theorem seg_at {SM : List (Nat × SegM)} (hs : Sat w (HP.all (SM.map fun t => segP gap t.1 t.2) :: l)) {i : Nat} (hi : i < SM.length) :
    Sat w (segP gap SM[i].1 SM[i].2 :: HP.all ((SM.eraseIdx i).map fun t => segP gap t.1 t.2) :: l) := by
  exact ((hs.all_perm ((perm_eraseIdx hi).map _))).all_cons
theorem seg_back {SM : List (Nat × SegM)} {i : Nat} (hi : i < SM.length) (hs : Sat w (segP gap SM[i].1 SM[i].2 :: HP.all ((SM.eraseIdx i).map fun t => segP gap t.1 t.2) :: l)) :
    Sat w (HP.all (SM.map fun t => segP gap t.1 t.2) :: l) := by
  have h1 : Sat w (HP.all ((SM[i] :: SM.eraseIdx i).map fun t => segP gap t.1 t.2) :: l) := hs.all_put
  exact h1.all_perm ((perm_eraseIdx hi).symm.map _)
theorem first_c [hf : Fo l lgQ lg M r] (hs : Sat w l) : Ret P F.seglog_Log_First #[.pointer (some ⟨lg, 0, none⟩)] w fun vs w' => vs = [.int .i64 (firstG M.l)] ∧ Sat w' (lgQ lg M :: r) :=
  seglog_Log_First_calls _ <| by
    unfold seglog_Log_First
    obtain ⟨hok, hs⟩ := lgQ_open (hs.perm hf.perm)
    have hl := hs.slen M.z (xs := M.SM.map Prod.fst) (enc := encP)
    rw [List.length_map] at hl
    refine wp_nng ?_
    refine wp_ldO hs ?_
    refine wp_if (fun h => ?_) fun h => ?_
    · have h : M.SM = [] := by
        rcases h with h | h
        · cases h
        · exact List.length_eq_zero_iff.1 (by omega)
      have e : firstG M.l = 0 := by unfold LogM.l; rw [h]; rfl
      rw [e]
      exact ⟨rfl, rfl, lgQ_close M hok hs⟩
    have h0 : 0 < M.SM.length := by
      apply Nat.pos_of_ne_zero
      intro h1
      exact h (.inr (by omega))
    refine wp_nn ?_
    refine wp_ldO hs ?_
    refine wp_ix1c hs (xs := M.SM.map Prod.fst) (enc := encP) 0 (by rw [List.length_map]; exact h0) ?_ rfl rfl
    have e0 : (M.SM.map Prod.fst)[0]'(by rw [List.length_map]; exact h0) = M.SM[0].1 := by simp
    rw [e0]
    refine wp_nn ?_
    have hs := seg_open (seg_at (hs.pick [2]) h0)
    refine wp_ldO hs ?_
    refine wp_lt ?_
    have e : firstG M.l = M.SM[0].2.s.base := by
      obtain ⟨x, xs, hx⟩ := List.exists_cons_of_length_pos h0
      simp only [LogM.l, hx, List.map_cons, firstG, List.getElem_cons_zero]
    rw [e]
    refine ⟨rfl, rfl, ?_⟩
    have hs := seg_back h0 (seg_close M.SM[0].2 hs)
    exact lgQ_close M hok (hs.pick [1, 1])
theorem lnext_c [hf : Fo l lgQ lg M r] (hlen : M.SM.length ≤ 1000000000) (hs : Sat w l) : Ret P F.seglog_Log_Next #[.pointer (some ⟨lg, 0, none⟩)] w fun vs w' => vs = [.int .i64 (nextL M.l)] ∧ Sat w' (lgQ lg M :: r) :=
  seglog_Log_Next_calls _ <| by
    unfold seglog_Log_Next
    obtain ⟨hok, hs⟩ := lgQ_open (hs.perm hf.perm)
    have hl := hs.slen M.z (xs := M.SM.map Prod.fst) (enc := encP)
    rw [List.length_map] at hl
    refine wp_nng ?_
    refine wp_ldO hs ?_
    refine wp_if (fun h => ?_) fun h => ?_
    · have h : M.SM = [] := by
        rcases h with h | h
        · cases h
        · exact List.length_eq_zero_iff.1 (by omega)
      have e : nextL M.l = 0 := by unfold LogM.l; rw [h]; rfl
      rw [e]
      exact ⟨rfl, rfl, lgQ_close M hok hs⟩
    have h0 : 0 < M.SM.length := by
      apply Nat.pos_of_ne_zero
      intro h1
      exact h (.inr (by omega))
    have hs := lgQ_close M hok hs
    refine wp_call (last_c (lg := lg) hlen hs) fun _ w' hs => ?_
    obtain ⟨rfl, hs⟩ := hs
    refine ret_of ?_
    have e1 : M.SM.getLast? = some (M.SM[M.SM.length - 1]'(by omega)) := by
      rw [List.getLast?_eq_getElem?, List.getElem?_eq_getElem (by omega)]
    rw [e1]
    obtain ⟨-, hs⟩ := lgQ_open hs
    have hs := seg_at (hs.pick [2]) (show M.SM.length - 1 < M.SM.length by omega)
    refine wp_call (reach_c (gap := M.gap) (a := M.SM[M.SM.length - 1].1) hs) fun _ w' hs => ?_
    obtain ⟨rfl, hs⟩ := hs
    refine ret_of ?_
    refine wp_lt ?_
    have e : nextL M.l = (M.SM[M.SM.length - 1]'(by omega)).2.s.reach := by
      unfold LogM.l nextL
      rw [getLast_map, e1]
      rfl
    rw [e]
    have hs := seg_back (show M.SM.length - 1 < M.SM.length by omega) hs
    exact ⟨rfl, rfl, lgQ_close M hok (hs.pick [1, 1])⟩
/-- Is there room for so many bytes in the last segment? -/
def roomy (seg : Int) (l : List SegA) (n : Nat) : Bool := match l.getLast? with
  | none => false
  | some s => decide (nextG s.bs = 0) || decide (((s.file.length + n : Nat) : Int) ≤ seg)
theorem fits_l (n : Nat) (hn : n ≤ 1000000000) [hf : Fo l lgQ lg M r] (hlen : M.SM.length ≤ 1000000000) (hfl : ∀ s ∈ M.l, s.file.length ≤ 1000000000) (hs : Sat w l) : Ret P F.seglog_Log_fits #[.pointer (some ⟨lg, 0, none⟩), .int .i64 (n : Int)] w fun vs w' => vs = [.bool (roomy M.seg M.l n)] ∧ Sat w' (lgQ lg M :: r) :=
  seglog_Log_fits_calls _ _ <| by
    unfold seglog_Log_fits
    refine wp_call (last_c (lg := lg) hlen hs) fun _ w' hs => ?_
    obtain ⟨rfl, hs⟩ := hs
    refine ret_of ?_
    refine wp_tk hs fun w' hs => ?_
    by_cases h0 : M.SM = []
    · have e : roomy M.seg M.l n = false := by unfold LogM.l roomy; rw [h0]; rfl
      rw [e, h0]
      refine wp_gz ?_ (fun h => by cases h)
      refine wp_gr (0 : Int) (fun h => by cases h) ?_
      refine wp_gz ?_ (fun h => by cases h.1)
      refine wp_gr (0 : Int) (fun h => by cases h.1) ?_
      refine wp_gz ?_ (fun h => by cases h.1)
      refine wp_gr (0 : Int) (fun h => by cases h.1) ?_
      refine wp_lt ?_
      refine wp_untick ?_
      exact ⟨rfl, rfl, hs⟩
    have hp := List.length_pos_iff.2 h0
    have e1 : M.SM.getLast? = some (M.SM[M.SM.length - 1]'(by omega)) := by
      rw [List.getLast?_eq_getElem?, List.getElem?_eq_getElem (by omega)]
    have e : roomy M.seg M.l n = (decide (nextG (M.SM[M.SM.length - 1]'(by omega)).2.s.bs = 0) || decide ((((M.SM[M.SM.length - 1]'(by omega)).2.s.file.length + n : Nat) : Int) ≤ M.seg)) := by
      unfold LogM.l roomy
      rw [getLast_map, e1]
      rfl
    have hfl' := hfl _ (List.mem_map.2 ⟨_, List.getElem_mem (show M.SM.length - 1 < M.SM.length by omega), rfl⟩)
    rw [e, e1]
    obtain ⟨hok, hs⟩ := lgQ_open hs
    have hs := seg_open (seg_at (hs.pick [2]) (show M.SM.length - 1 < M.SM.length by omega))
    refine wp_nng ?_
    refine wp_ldO hs ?_
    refine wp_nng ?_
    refine wp_ldO hs ?_
    refine wp_nng ?_
    refine wp_ldO hs ?_
    rw [w64 (by omega) (by omega)]
    refine wp_lt ?_
    refine wp_untick ?_
    have hs := seg_back (show M.SM.length - 1 < M.SM.length by omega) (seg_close (M.SM[M.SM.length - 1]'(by omega)).2 hs)
    refine ⟨rfl, ?_, lgQ_close M hok (hs.pick [1, 1])⟩
    rfl
theorem put_c (a : Nat) (t : SegM) {r0 : List HP} [hf : Fo l lgQ lg M r0] [hf2 : Fo r0 (segP M.gap) a t r] (hlen : M.SM.length ≤ 1000000000) (hs : Sat w l) :
    Ret P F.seglog_Log_put #[.pointer (some ⟨lg, 0, none⟩), .pointer (some ⟨a, 0, none⟩)] w fun vs w' => ∃ z : Sl, vs = [] ∧ Sat w' (lgQ lg { M with z := z, SM := M.SM ++ [(a, t)] } :: r) :=
  seglog_Log_put_calls _ _ <| by
    unfold seglog_Log_put
    obtain ⟨hok, hs⟩ := lgQ_open (hs.perm (hf.perm.trans (.cons _ hf2.perm)))
    have hl := hs.slen M.z (xs := M.SM.map Prod.fst) (enc := encP)
    refine wp_nn ?_
    refine wp_ldO hs ?_
    refine wp_ap0 (xs := M.SM.map Prod.fst) (enc := encP) (y := a) hs (fun z w' hs => ?_) rfl (by rw [List.length_map]; omega)
    refine wp_nn ?_
    refine wp_stO hs fun w' hs => ?_
    refine ⟨rfl, z, rfl, ?_⟩
    have hs : Sat w' (pt lg (.cells #[.pointer (some ⟨M.d, 0, none⟩), .string M.pre, .int .i64 M.seg, .int .i64 M.gap, .slice z.a z.len z.cap] T.seglog_Log) :: slc T.p_seglog_segment 1 z ((M.SM.map Prod.fst ++ [a]).flatMap encP) :: HP.all (M.SM.map fun t => segP M.gap t.1 t.2) :: segP M.gap a t :: r) := hs
    have h1 : Sat w' (HP.all (((a, t) :: M.SM).map fun t => segP M.gap t.1 t.2) :: pt lg (.cells #[.pointer (some ⟨M.d, 0, none⟩), .string M.pre, .int .i64 M.seg, .int .i64 M.gap, .slice z.a z.len z.cap] T.seglog_Log) :: slc T.p_seglog_segment 1 z ((M.SM.map Prod.fst ++ [a]).flatMap encP) :: r) := (hs.pick [3, 2]).all_put
    have h2 := h1.all_perm ((List.perm_append_comm (l₁ := [(a, t)]) (l₂ := M.SM)).map fun t => segP M.gap t.1 t.2)
    refine lgQ_close { M with z := z, SM := M.SM ++ [(a, t)] } hok ?_
    have e : (M.SM ++ [(a, t)]).map Prod.fst = M.SM.map Prod.fst ++ [a] := by simp
    show Sat w' (pt lg _ :: slc T.p_seglog_segment 1 z (((M.SM ++ [(a, t)]).map Prod.fst).flatMap encP) :: HP.all ((M.SM ++ [(a, t)]).map fun t => segP M.gap t.1 t.2) :: r)
    rw [e]
    exact h2.pick [1, 1]
theorem segments_c [hf : Fo l lgQ lg M r] (hlen : M.SM.length ≤ 1000000) (hs : Sat w l) : Ret P F.seglog_Log_Segments #[.pointer (some ⟨lg, 0, none⟩)] w fun vs w' => ∃ z : Sl, vs = [z.v] ∧ Sat w' (slc T.int64 1 z ((M.l.map SegA.base).flatMap encI) :: lgQ lg M :: r) :=
  seglog_Log_Segments_calls _ <| by
    unfold seglog_Log_Segments
    obtain ⟨hok, hs⟩ := lgQ_open (hs.perm hf.perm)
    have hl := hs.slen M.z (xs := M.SM.map Prod.fst) (enc := encP)
    rw [List.length_map] at hl
    have hll : M.l.length = M.SM.length := List.length_map ..
    refine wp_ifF ?_ (by simp)
    refine wp_nn ?_
    refine wp_ldO hs ?_
    refine wp_mid (fun q w' => ∃ z : Sl, q = (z, ()) ∧ Sat w' (slc T.int64 1 z ((M.l.map SegA.base).flatMap encI) :: lgQ lg M :: r)) ?_ ?_
    rotate_left
    · rintro _ w2 ⟨z, rfl, hs⟩
      exact ⟨rfl, z, rfl, hs⟩
    refine wp_loop (fun m v w => ∃ (i : Nat) (z : Sl), v = (z, ((i : Int), ())) ∧ i ≤ M.SM.length ∧ M.SM.length - i = m ∧ Sat w (slc T.int64 1 z (((M.l.take i).map SegA.base).flatMap encI) :: pt lg (.cells #[.pointer (some ⟨M.d, 0, none⟩), .string M.pre, .int .i64 M.seg, .int .i64 M.gap, .slice M.z.a M.z.len M.z.cap] T.seglog_Log) :: slc T.p_seglog_segment 1 M.z ((M.SM.map Prod.fst).flatMap encP) :: HP.all (M.SM.map fun t => segP M.gap t.1 t.2) :: r)) M.SM.length ⟨0, ⟨none, 0, 0⟩, rfl, by omega, rfl, hs.slc_nil⟩ ?_
    clear hs
    rintro m _ w ⟨i, z, rfl, hi, hm, hs⟩
    refine wp_on ?_
    refine wp_if (fun hc => ?_) fun hc => ?_
    rotate_left
    · refine wp_pass (wp_lv ⟨z, rfl, ?_⟩)
      rw [List.take_of_length_le (by omega)] at hs
      exact (lgQ_close M hok (hs.pick [1, 1, 1])).pick [1]
    have hil : i < M.SM.length := by omega
    refine wp_ix1 hs (xs := M.SM.map Prod.fst) (enc := encP) i (by rw [List.length_map]; exact hil) ?_
    have e0 : (M.SM.map Prod.fst)[i]'(by rw [List.length_map]; exact hil) = M.SM[i].1 := by simp
    rw [e0]
    refine wp_nn ?_
    have hs := seg_open (seg_at (hs.pick [3]) hil)
    refine wp_ldO hs ?_
    refine wp_ap0 (xs := (M.l.take i).map SegA.base) (enc := encI) (y := M.SM[i].2.s.base) hs (fun z' w' hs => ?_) rfl (by rw [List.length_map, List.length_take]; omega)
    rw [show IntKind.wrap .i64 ((i : Int) + 1) = ((i + 1 : Nat) : Int) by rw [w64 (by omega) (by omega)]; omega]
    refine wp_lp (M.SM.length - (i + 1)) ⟨i + 1, z', rfl, by omega, rfl, ?_⟩
    have e1 : (M.l.take (i + 1)).map SegA.base = (M.l.take i).map SegA.base ++ [M.SM[i].2.s.base] := by
      rw [List.take_succ_eq_append_getElem (by omega), List.map_append]
      unfold LogM.l
      simp
    rw [e1]
    have hs : Sat w' (slc T.int64 1 z' (((M.l.take i).map SegA.base ++ [M.SM[i].2.s.base]).flatMap encI) :: pt M.SM[i].1 _ :: idxP _ _ :: HP.all _ :: pt lg _ :: slc T.p_seglog_segment 1 M.z _ :: r) := hs
    have hs := seg_back hil (seg_close M.SM[i].2 (hs.pick [1, 1, 1]))
    exact hs.pick [1, 1, 1]
end
end Go.Dec
namespace Go.Dec
set_option linter.unusedVariables false
set_option linter.unusedSimpArgs false
theorem SegsOk.mem : ∀ {n : Int} {l : List SegA}, SegsOk n l → ∀ s ∈ l, SegOk s ∧ n ≤ s.base
  | _, a :: l, ⟨h1, h2, h3⟩, s, hs => by
    rcases List.mem_cons.1 hs with rfl | hs
    · exact ⟨h2, h1⟩
    · have := h3.mem s hs
      exact ⟨this.1, by omega⟩
def lsyncA (pre : ByteArray) (l : List SegA) (D : DiskA) : Int × DiskA := match l.getLast? with
  | none => (0, D)
  | some s => syncA D [nameS pre s.base logX]
def BatM.to (b : BatM) (n : Int) : BatM := ⟨n, b.pid, b.epoch, b.seq, b.kind, b.time, b.x, b.rs⟩
def placeL : Int → List BatM → Int × List BatM
  | _, [] => (0, [])
  | n, b :: bs => if validB (b.to n) ≠ 0 then (validB (b.to n), []) else if (placeL (n + spanB b) bs).1 ≠ 0 then ((placeL (n + spanB b) bs).1, []) else (0, b.to n :: (placeL (n + spanB b) bs).2)
def frP (p : Sl × List UInt8) : HP := slc T.uint8 1 p.1 (p.2.flatMap encU)
theorem placeL_ok : ∀ {bs : List BatM} {n : Int}, (placeL n bs).1 = 0 → (placeL n bs).2.length = bs.length ∧ (∀ b ∈ (placeL n bs).2, validB b = 0 ∧ ∃ c ∈ bs, b.x = c.x ∧ b.rs = c.rs) ∧ ∀ b, (placeL n bs).2.head? = some b → b.base = n
  | [], n, _ => ⟨rfl, (fun _ h => by cases h), (fun _ h => by cases h)⟩
  | b :: bs, n, h => by
    unfold placeL at h ⊢
    by_cases h1 : validB (b.to n) ≠ 0
    · rw [if_pos h1] at h; exact absurd h h1
    rw [if_neg h1] at h ⊢
    by_cases h2 : (placeL (n + spanB b) bs).1 ≠ 0
    · rw [if_pos h2] at h; exact absurd h h2
    rw [if_neg h2]
    obtain ⟨i1, i2, -⟩ := placeL_ok (Decidable.not_not.1 h2)
    refine ⟨by simp [i1], fun c hc => ?_, fun c hc => ?_⟩
    · rcases List.mem_cons.1 hc with rfl | hc
      · exact ⟨Decidable.not_not.1 h1, b, List.mem_cons_self .., rfl, rfl⟩
      · obtain ⟨v, d, hd, e⟩ := i2 c hc
        exact ⟨v, d, List.mem_cons_of_mem _ hd, e⟩
    · simp at hc; subst hc; rfl
theorem bat_sum : ∀ {bs : List BatM}, (∀ b ∈ bs, validB b = 0) → (bs.flatMap frL).length ≤ bs.length * 262152
  | [], _ => by simp
  | b :: bs, h => by
    have h1 := frL_len (h b (List.mem_cons_self ..))
    have h2 := batL_len (h b (List.mem_cons_self ..))
    have h3 := bat_sum fun x hx => h x (List.mem_cons_of_mem _ hx)
    rw [List.flatMap_cons, List.length_append, List.length_cons]
    omega
section
variable {w : World} {l r : List HP} {lg : Nat} {M : LogM} {D : DiskA} {gap : Int} {a : Nat} {t : SegM}
theorem all_rd {fs : List (Sl × List UInt8)} {p : Sl × List UInt8} (hp : p ∈ fs) [hf : Foc l (HP.all (fs.map frP)) r] : FocR l p.1 1 (p.2.flatMap encU) := ⟨fun w hs => by
  obtain ⟨L, hs⟩ := (hs.perm hf.perm).all_mem hp
  exact Sat.rd hs⟩
theorem rdAll_of : ∀ {fs gs : List (Sl × List UInt8)}, (∀ p ∈ gs, FocR l p.1 1 (p.2.flatMap encU)) → RdAll l (gs.map Prod.fst) (gs.map Prod.snd)
  | _, [], _ => trivial
  | fs, p :: gs, h => ⟨(h p (List.mem_cons_self ..)).rd, rdAll_of (fs := fs) fun q hq => h q (List.mem_cons_of_mem _ hq)⟩
theorem lsync_c {r1 : List HP} [hf : Fo l lgQ lg M r1] [hf2 : Fo r1 dk M.d D r] (hlen : M.SM.length ≤ 1000000000) (hok : SegsOk 0 M.l) (hs : Sat w l) :
    Ret P F.seglog_Log_Sync #[.pointer (some ⟨lg, 0, none⟩)] w fun vs w' => vs = [.int .i64 (lsyncA M.pre M.l D).1] ∧ Sat w' (lgQ lg M :: dk M.d (lsyncA M.pre M.l D).2 :: r) :=
  seglog_Log_Sync_calls _ <| by
    unfold seglog_Log_Sync
    have hs := hs.perm (hf.perm.trans (.cons _ hf2.perm))
    refine wp_ifF ?_ (by simp)
    refine wp_call (last_c (lg := lg) hlen hs) fun _ w' hs => ?_
    obtain ⟨rfl, hs⟩ := hs
    refine ret_of ?_
    by_cases h0 : M.SM = []
    · have e : lsyncA M.pre M.l D = (0, D) := by unfold LogM.l lsyncA; rw [h0]; rfl
      rw [e, h0]
      refine wp_ifF ?_ (by simp [ptrO])
      exact ⟨rfl, rfl, hs⟩
    have hp := List.length_pos_iff.2 h0
    have hsz : M.SM.length - 1 < M.SM.length := by omega
    have e1 : M.SM.getLast? = some (M.SM[M.SM.length - 1]'hsz) := by
      rw [List.getLast?_eq_getElem?, List.getElem?_eq_getElem (by omega)]
    have e : lsyncA M.pre M.l D = syncA D [nameS M.pre (M.SM[M.SM.length - 1]'hsz).2.s.base logX] := by
      unfold LogM.l lsyncA
      rw [getLast_map, e1]
      rfl
    have hmem : (M.SM[M.SM.length - 1]'hsz).2.s ∈ M.l := List.mem_map.2 ⟨_, List.getElem_mem hsz, rfl⟩
    have hbase := (hok.mem _ hmem).1.base
    rw [e, e1]
    obtain ⟨hokm, hs⟩ := lgQ_open hs
    have hpre : M.pre.size ≤ 100 := by
      have := hokm.pre
      unfold preS at this
      rw [Bool.and_eq_true, decide_eq_true_eq] at this
      omega
    refine wp_ifT ?_ (by simp [ptrO])
    have hs := seg_open (seg_at (hs.pick [2]) hsz)
    refine wp_mid (fun q w' => q = ((syncA D [nameS M.pre (M.SM[M.SM.length - 1]'hsz).2.s.base logX]).1, ()) ∧ Sat w' (lgQ lg M :: dk M.d (syncA D [nameS M.pre (M.SM[M.SM.length - 1]'hsz).2.s.base logX]).2 :: r)) ?_ ?_
    rotate_left
    · rintro _ w2 ⟨rfl, hs⟩
      exact ⟨rfl, rfl, hs⟩
    refine wp_tk hs fun w' hs => ?_
    refine wp_nn ?_
    refine wp_hdO hs ?_
    refine wp_nn ?_
    refine wp_ldO hs ?_
    refine wp_call (name_c0 (lg := lg) _ (by omega) (ByteArray.mk #[46, 108, 111, 103]) (by decide) M.pre hpre hs) fun _ w' hs => ?_
    obtain ⟨rfl, hs⟩ := hs
    refine ret_of ?_ (by first | trivial | (repeat (first | exact trivial | exact fun _ => run_ldO hs | exact fun _ => run_ldG hs | refine And.intro ?_ ?_)))
    refine wp_litS hs (enc := encT) [nameS M.pre (M.SM[M.SM.length - 1]'hsz).2.s.base logX] fun y w' hs => ⟨(by first | trivial | (repeat (first | exact trivial | exact fun _ => run_ldO hs | exact fun _ => run_ldG hs | refine And.intro ?_ ?_))), ?_⟩
    refine wp_untick ?_
    refine wp_call (sync_c (d := M.d) y [nameS M.pre (M.SM[M.SM.length - 1]'hsz).2.s.base logX] (by show 1 ≤ 100000; omega) hs) fun _ w' hs => ?_
    obtain ⟨rfl, hs⟩ := hs
    refine ret_of ?_
    refine wp_lt ?_
    refine wp_untick ?_
    refine wp_lv ⟨rfl, ?_⟩
    replace hs : Sat _ (segP M.gap _ _ :: _) := seg_close (M.SM[M.SM.length - 1]'hsz).2 (hs.pick [2, 2])
    have hs := seg_back hsz (hs.pick [0, 2])
    exact (lgQ_close M hokm (hs.pick [3, 3])).sub
theorem placed_c (x : Sl) (bs : List BatM) [hf : Fo l lgQ lg M r] (hlen : M.SM.length ≤ 1000000000) (hbl : bs.length ≤ 100000) (hx : FocR r x 7 (bs.flatMap encB7)) (hbs : ∀ b ∈ bs, FocR r b.x 4 (b.rs.flatMap encR)) (hs : Sat w l) :
    Ret P F.seglog_Log_placed #[.pointer (some ⟨lg, 0, none⟩), x.v] w fun vs w' =>
      ((placeL (nextL M.l) bs).1 ≠ 0 ∧ vs = [.slice none 0 0, .slice none 0 0, .int .i64 (placeL (nextL M.l) bs).1] ∧ Sat w' (lgQ lg M :: r)) ∨
      ((placeL (nextL M.l) bs).1 = 0 ∧ ∃ (z1 z2 : Sl) (fs : List (Sl × List UInt8)), vs = [z1.v, z2.v, .int .i64 0] ∧ fs.map Prod.snd = (placeL (nextL M.l) bs).2.map frL ∧
        Sat w' (slc T.api_Batch 7 z1 ((placeL (nextL M.l) bs).2.flatMap encB7) :: slc T.s_uint8 1 z2 ((fs.map Prod.fst).flatMap encSl) :: HP.all (fs.map frP) :: lgQ lg M :: r)) :=
  seglog_Log_placed_calls _ x <| by
    unfold seglog_Log_placed
    have hs := hs.perm hf.perm
    have hl := hs.slen x (xs := bs) (enc := encB7)
    refine wp_call (lnext_c (lg := lg) hlen hs) fun _ w' hs => ?_
    obtain ⟨rfl, hs⟩ := hs
    refine ret_of ?_
    refine wp_lt ?_
    generalize nextL M.l = n0
    refine wp_mid (fun q w' => ∃ (z1 z2 : Sl) (fs : List (Sl × List UInt8)), (placeL n0 bs).1 = 0 ∧ q = (z1, z2, ()) ∧ fs.map Prod.snd = (placeL n0 bs).2.map frL ∧
        Sat w' (slc T.api_Batch 7 z1 ((placeL n0 bs).2.flatMap encB7) :: slc T.s_uint8 1 z2 ((fs.map Prod.fst).flatMap encSl) :: HP.all (fs.map frP) :: lgQ lg M :: r)) ?_ ?_
    rotate_left
    · rintro _ w2 ⟨z1, z2, fs, h1, rfl, h2, hs⟩
      exact ⟨rfl, .inr ⟨h1, z1, z2, fs, rfl, h2, hs⟩⟩
    have h0 : Sat w' (slc T.api_Batch 7 ⟨none, 0, 0⟩ (([] : List BatM).flatMap encB7) :: slc T.s_uint8 1 ⟨none, 0, 0⟩ (((([] : List (Sl × List UInt8))).map Prod.fst).flatMap encSl) :: HP.all ((([] : List (Sl × List UInt8))).map frP) :: lgQ lg M :: r) := (Sat.all_nil hs).slc_nil.slc_nil
    refine wp_loop (fun m v w => ∃ (i : Nat) (n : Int) (done : List BatM) (z1 z2 : Sl) (fs : List (Sl × List UInt8)), v = (n, z1, z2, (i : Int), ()) ∧ i ≤ bs.length ∧ bs.length - i = m ∧ done.length = i ∧ fs.length = i ∧
      placeL n0 bs = (if (placeL n (bs.drop i)).1 ≠ 0 then ((placeL n (bs.drop i)).1, []) else (0, done ++ (placeL n (bs.drop i)).2)) ∧ fs.map Prod.snd = done.map frL ∧
      Sat w (slc T.api_Batch 7 z1 (done.flatMap encB7) :: slc T.s_uint8 1 z2 ((fs.map Prod.fst).flatMap encSl) :: HP.all (fs.map frP) :: lgQ lg M :: r)) bs.length
      ⟨0, n0, [], ⟨none, 0, 0⟩, ⟨none, 0, 0⟩, [], rfl, by omega, rfl, rfl, rfl, ?_, rfl, h0⟩ ?_
    · rw [List.drop_zero, List.nil_append]
      by_cases h : (placeL n0 bs).1 ≠ 0
      · rw [if_pos h]
        have : ∀ {bs : List BatM} {n : Int}, (placeL n bs).1 ≠ 0 → (placeL n bs).2 = [] := by
          intro bs
          induction bs with
          | nil => intro n h; exact absurd rfl h
          | cons b bs ih =>
            intro n h
            unfold placeL at h ⊢
            split
            · rfl
            · split
              · rfl
              · rename_i h1 h2
                rw [if_neg h1, if_neg h2] at h
                exact absurd rfl h
        rw [← this h]
      · rw [if_neg h]
        have h := Decidable.not_not.1 h
        rw [← h]
    clear hs h0
    rintro m _ w ⟨i, n, done, z1, z2, fs, rfl, hi, hm, hdl, hfl, hpl, hfs, hs⟩
    refine wp_on ?_
    refine wp_if (fun hc => ?_) fun hc => ?_
    rotate_left
    · have e : bs.drop i = [] := List.drop_eq_nil_of_le (by omega)
      rw [e] at hpl
      simp only [placeL, List.append_nil] at hpl
      have hpl : placeL n0 bs = (0, done) := by rw [hpl]; rfl
      refine wp_pass (wp_lv ⟨z1, z2, fs, by rw [hpl], rfl, by rw [hpl]; exact hfs, ?_⟩)
      rw [hpl]
      exact hs
    have hil : i < bs.length := by omega
    have hdrop : bs.drop i = bs[i] :: bs.drop (i + 1) := List.drop_eq_getElem_cons hil
    rw [hdrop] at hpl
    have hR := hbs bs[i] (List.getElem_mem hil)
    refine wp_ixA hs (xs := bs) (enc := encB7) i hil ?_
    refine wp_newO hs fun a w' hs => ?_
    refine wp_stG hs fun w' hs => ?_
    refine wp_stO hs fun w' hs => ?_
    refine wp_ldG hs ?_
    have hRt : FocR r (bs[i].to n).x 4 ((bs[i].to n).rs.flatMap encR) := hR
    refine wp_call (encode_c (bs[i].to n) hs) fun _ w' hs => ?_
    have hunf : placeL n (bs[i] :: bs.drop (i + 1)) = if validB (bs[i].to n) ≠ 0 then (validB (bs[i].to n), []) else if (placeL (n + spanB bs[i]) (bs.drop (i + 1))).1 ≠ 0 then ((placeL (n + spanB bs[i]) (bs.drop (i + 1))).1, []) else (0, bs[i].to n :: (placeL (n + spanB bs[i]) (bs.drop (i + 1))).2) := rfl
    rcases hs with ⟨hv, rfl, hs⟩ | ⟨hv, y, rfl, hs⟩
    · refine ret_of ?_
      refine wp_lt ?_
      refine wp_ifT ?_ hv
      refine wp_lt ?_
      rw [if_pos hv] at hunf
      have hpl : placeL n0 bs = (validB (bs[i].to n), []) := by rw [hpl, hunf, if_pos hv]
      refine wp_pass (wp_pass ⟨rfl, .inl ⟨by rw [hpl]; exact hv, by rw [hpl], hs.sub⟩⟩)
    · refine ret_of ?_
      refine wp_lt ?_
      refine wp_ifF ?_ (by simp)
      rw [if_neg (by rw [hv]; simp)] at hunf
      have hbl2 := batL_len hv
      have hfrl := frL_len hv
      refine wp_ldG hs ?_
      refine wp_ap0 (xs := done) (enc := encB7) (y := bs[i].to n) hs (fun z1' w' hs => ?_) rfl (by omega)
      refine wp_litx hs (enc := encSl) [y] fun y2 w' hs => ?_
      refine wp_call (fseal1_c y2 y (batL (bs[i].to n)) (by omega) hs) fun _ w' hs => ?_
      obtain ⟨y3, rfl, hs⟩ := hs
      refine ret_of ?_
      refine wp_ap0 (xs := fs.map Prod.fst) (enc := encSl) (y := y3) hs (fun z2' w' hs => ?_) rfl (by rw [List.length_map]; omega)
      refine wp_ldG hs ?_
      refine wp_call (next_c_ (bs[i].to n) hs) fun _ w' hs => ?_
      obtain ⟨rfl, hs⟩ := hs
      refine ret_of ?_
      refine wp_lt ?_
      rw [show IntKind.wrap .i64 ((i : Int) + 1) = ((i + 1 : Nat) : Int) by rw [w64 (by omega) (by omega)]; omega]
      have en : nextB (bs[i].to n) = n + spanB bs[i] := by
        unfold nextB
        rw [if_neg (by rw [hv]; simp)]
        rfl
      rw [en]
      refine wp_lp (bs.length - (i + 1)) ⟨i + 1, n + spanB bs[i], done ++ [bs[i].to n], z1', z2', fs ++ [(y3, frL (bs[i].to n))], rfl, by omega, rfl, by simp [hdl], by simp [hfl], ?_, by simp [hfs], ?_⟩
      · rw [hpl, hunf]
        by_cases h2 : (placeL (n + spanB bs[i]) (bs.drop (i + 1))).1 ≠ 0
        · rw [if_pos h2, if_pos h2, if_pos h2]
        · rw [if_neg h2, if_neg h2, if_neg (by simp), List.append_assoc]
          rfl
      · have e2 : (fs ++ [(y3, frL (bs[i].to n))]).map Prod.fst = fs.map Prod.fst ++ [y3] := by simp
        rw [e2]
        have hs : Sat w' (slc T.s_uint8 1 z2' ((fs.map Prod.fst ++ [y3]).flatMap encSl) :: slc T.uint8 1 y3 ((frL (bs[i].to n)).flatMap encU) :: slc T.s_uint8 1 y2 (([y] : List Sl).flatMap encSl) :: slc T.api_Batch 7 z1' ((done ++ [bs[i].to n]).flatMap encB7) :: _) := hs
        have hs : Sat w' (frP (y3, frL (bs[i].to n)) :: HP.all (fs.map frP) :: slc T.api_Batch 7 z1' ((done ++ [bs[i].to n]).flatMap encB7) :: slc T.s_uint8 1 z2' ((fs.map Prod.fst ++ [y3]).flatMap encSl) :: lgQ lg M :: r) := by
          have h3 : Sat w' (slc T.uint8 1 y3 ((frL (bs[i].to n)).flatMap encU) :: HP.all (fs.map frP) :: slc T.api_Batch 7 z1' ((done ++ [bs[i].to n]).flatMap encB7) :: slc T.s_uint8 1 z2' ((fs.map Prod.fst ++ [y3]).flatMap encSl) :: lgQ lg M :: r) := hs.sub
          exact h3
        have h4 : Sat w' (HP.all (((y3, frL (bs[i].to n)) :: fs).map frP) :: _) := hs.all_put
        have h5 := h4.all_perm ((List.perm_append_comm (l₁ := [(y3, frL (bs[i].to n))]) (l₂ := fs)).map frP)
        exact h5.pick [1, 1]
end
end Go.Dec
namespace Go.Dec
set_option linter.unusedVariables false
set_option linter.unusedSimpArgs false
def baseL (l : List SegA) : Int := match l.getLast? with
  | none => 0
  | some s => s.base
def addLast (l : List SegA) (bs : List BatM) : List SegA := match l.getLast? with
  | none => l
  | some s => l.dropLast ++ [s.add bs]
def lappA (pre : ByteArray) (seg : Int) (l : List SegA) (D : DiskA) (bs : List BatM) : (Int × Int) × List SegA × DiskA :=
  if bs = [] then ((0, 3), l, D) else
  if (placeL (nextL l) bs).1 ≠ 0 then ((0, (placeL (nextL l) bs).1), l, D) else
  if roomy seg l ((placeL (nextL l) bs).2.flatMap frL).length then
    if (appendA D (nameS pre (baseL l) logX) ((placeL (nextL l) bs).2.flatMap frL)).1 ≠ 0 then ((0, (appendA D (nameS pre (baseL l) logX) ((placeL (nextL l) bs).2.flatMap frL)).1), l, (appendA D (nameS pre (baseL l) logX) ((placeL (nextL l) bs).2.flatMap frL)).2)
    else ((nextL l, 0), addLast l (placeL (nextL l) bs).2, (appendA D (nameS pre (baseL l) logX) ((placeL (nextL l) bs).2.flatMap frL)).2)
  else
    if (lsyncA pre l D).1 ≠ 0 then ((0, (lsyncA pre l D).1), l, (lsyncA pre l D).2) else
    if (appendA (lsyncA pre l D).2 (nameS pre (nextL l) logX) (shL (nextL l) 0 ++ (placeL (nextL l) bs).2.flatMap frL)).1 ≠ 0 then ((0, (appendA (lsyncA pre l D).2 (nameS pre (nextL l) logX) (shL (nextL l) 0 ++ (placeL (nextL l) bs).2.flatMap frL)).1), l, (appendA (lsyncA pre l D).2 (nameS pre (nextL l) logX) (shL (nextL l) 0 ++ (placeL (nextL l) bs).2.flatMap frL)).2)
    else ((nextL l, 0), l ++ [(⟨nextL l, 0, []⟩ : SegA).add (placeL (nextL l) bs).2], (appendA (lsyncA pre l D).2 (nameS pre (nextL l) logX) (shL (nextL l) 0 ++ (placeL (nextL l) bs).2.flatMap frL)).2)
def lastNx (l : List SegA) : Int := match l.getLast? with
  | none => 0
  | some s => nextG s.bs
def lrollA (pre : ByteArray) (l : List SegA) (D : DiskA) : Int × List SegA × DiskA :=
  if lastNx l = 0 then (3, l, D) else
  if (lsyncA pre l D).1 ≠ 0 then ((lsyncA pre l D).1, l, (lsyncA pre l D).2) else
  if (appendA (lsyncA pre l D).2 (nameS pre (nextL l) logX) (shL (nextL l) 0)).1 ≠ 0 then ((appendA (lsyncA pre l D).2 (nameS pre (nextL l) logX) (shL (nextL l) 0)).1, l, (appendA (lsyncA pre l D).2 (nameS pre (nextL l) logX) (shL (nextL l) 0)).2)
  else (0, l ++ [⟨nextL l, 0, []⟩], (appendA (lsyncA pre l D).2 (nameS pre (nextL l) logX) (shL (nextL l) 0)).2)
def LogA.set (A : LogA) (l : List SegA) : LogA := ⟨A.d, A.pre, A.seg, A.gap, l⟩
theorem SegsOk.next : ∀ {n : Int} {l : List SegA}, 0 ≤ n → SegsOk n l → 0 ≤ nextL l ∧ nextL l ≤ 1099511627777
  | _, [], _, _ => ⟨by decide, by decide⟩
  | n, [s], hn, ⟨h1, h2, _⟩ => by
    have := reach_le h2
    have := h2.base
    show 0 ≤ s.reach ∧ s.reach ≤ _
    omega
  | n, s :: t :: l, hn, ⟨h1, h2, h3⟩ => by
    have := h2.base
    have := SegsOk.next (by omega) h3
    exact this
instance : EncF encB7 0 (.int .i64) (fun b => b.base) := ⟨fun _ => rfl⟩
section
variable {w : World} {l r : List HP} {lg : Nat} {M : LogM} {A : LogA} {D : DiskA} {gap : Int} {a : Nat} {t : SegM}
theorem lgQ_last_open {SM0 : List (Nat × SegM)} (h : M.SM = SM0 ++ [(a, t)]) (hs : Sat w (lgQ lg M :: l)) : okM M.gap M.seg M.pre ∧
    Sat w (segP M.gap a t :: pt lg (.cells #[.pointer (some ⟨M.d, 0, none⟩), .string M.pre, .int .i64 M.seg, .int .i64 M.gap, .slice M.z.a M.z.len M.z.cap] T.seglog_Log) :: slc T.p_seglog_segment 1 M.z ((SM0.map Prod.fst ++ [a]).flatMap encP) :: HP.all (SM0.map fun t => segP M.gap t.1 t.2) :: l) := by
  obtain ⟨hok, hs⟩ := lgQ_open hs
  rw [h] at hs
  have h1 := (hs.pick [2]).all_perm ((List.perm_append_comm (l₁ := SM0) (l₂ := [(a, t)])).map fun t => segP M.gap t.1 t.2)
  have h2 : Sat w (segP M.gap a t :: HP.all (SM0.map fun t => segP M.gap t.1 t.2) :: _) := h1.all_cons
  rw [List.map_append] at h2
  exact ⟨hok, h2.pick [0, 1, 1]⟩
theorem lgQ_last_close (M : LogM) {SM0 : List (Nat × SegM)} (hok : okM M.gap M.seg M.pre) (hs : Sat w (segP M.gap a t :: pt lg (.cells #[.pointer (some ⟨M.d, 0, none⟩), .string M.pre, .int .i64 M.seg, .int .i64 M.gap, .slice M.z.a M.z.len M.z.cap] T.seglog_Log) :: slc T.p_seglog_segment 1 M.z ((SM0.map Prod.fst ++ [a]).flatMap encP) :: HP.all (SM0.map fun t => segP M.gap t.1 t.2) :: l)) :
    Sat w (lgQ lg { M with SM := SM0 ++ [(a, t)] } :: l) := by
  have h1 : Sat w (HP.all (((a, t) :: SM0).map fun t => segP M.gap t.1 t.2) :: _) := (hs.pick [0, 2]).all_put
  have h2 := h1.all_perm ((List.perm_append_comm (l₁ := [(a, t)]) (l₂ := SM0)).map fun t => segP M.gap t.1 t.2)
  refine lgQ_close { M with SM := SM0 ++ [(a, t)] } hok ?_
  show Sat w (pt lg _ :: slc T.p_seglog_segment 1 M.z (((SM0 ++ [(a, t)]).map Prod.fst).flatMap encP) :: HP.all ((SM0 ++ [(a, t)]).map fun t => segP M.gap t.1 t.2) :: l)
  rw [List.map_append]
  exact h2.pick [1, 1]
theorem snoc_of {α : Type} {l : List α} (h : l ≠ []) : ∃ (l0 : List α) (x : α), l = l0 ++ [x] := ⟨l.dropLast, l.getLast h, (List.dropLast_concat_getLast h).symm⟩
theorem rdAll_fs {fs : List (Sl × List UInt8)} (h : ∀ p ∈ fs, FocR l p.1 1 (p.2.flatMap encU)) : RdAll l (fs.map Prod.fst) (fs.map Prod.snd) := rdAll_of (fs := fs) h
theorem okM.size {g s : Int} {p : ByteArray} (h : okM g s p) : p.size ≤ 100 := by
  have := h.pre
  unfold preS at this
  rw [Bool.and_eq_true, decide_eq_true_eq] at this
  omega
set_option maxHeartbeats 1000000 in
theorem lappend_c (x : Sl) (bs : List BatM) {r1 : List HP} [hf : Fo l lgP lg A r1] [hf2 : Fo r1 dk A.d D r] (hlen : A.l.length ≤ 1000000) (hok : SegsOk 0 A.l) (hfl : ∀ s ∈ A.l, s.file.length ≤ 500000000) (hbl : bs.length ≤ 900)
    (hx : FocR r x 7 (bs.flatMap encB7)) (hbs : ∀ b ∈ bs, FocR r b.x 4 (b.rs.flatMap encR)) (hs : Sat w l) :
    Ret P F.seglog_Log_Append #[.pointer (some ⟨lg, 0, none⟩), x.v] w fun vs w' => vs = [.int .i64 (lappA A.pre A.seg A.l D bs).1.1, .int .i64 (lappA A.pre A.seg A.l D bs).1.2] ∧
      Sat w' (lgP lg (A.set (lappA A.pre A.seg A.l D bs).2.1) :: dk A.d (lappA A.pre A.seg A.l D bs).2.2 :: r) :=
  seglog_Log_Append_calls _ x <| by
    unfold seglog_Log_Append
    have hs := hs.perm (hf.perm.trans (.cons _ hf2.perm))
    clear hf hf2
    obtain ⟨M, rfl, hs⟩ := lgP_open hs
    have hlxs := hs.slen x (xs := bs) (enc := encB7)
    have hMl : M.A.l = M.l := rfl
    have hMpre : M.A.pre = M.pre := rfl
    have hMseg : M.A.seg = M.seg := rfl
    have hMd : M.A.d = M.d := rfl
    rw [hMl] at hlen hok hfl ⊢
    rw [hMpre, hMseg, hMd]
    rw [hMd] at hs
    have hll : M.l.length = M.SM.length := List.length_map ..
    have hnx := hok.next (Int.le_refl 0)
    have hsame : ∀ {w : World} {D' : DiskA}, Sat w (lgQ lg M :: dk M.d D' :: r) → Sat w (lgP lg (M.A.set M.l) :: dk M.d D' :: r) := fun hs => lgP_close M hs
    unfold lappA
    refine wp_ifF ?_ (by simp)
    refine wp_if (fun h => ?_) fun h => ?_
    · have : bs = [] := List.length_eq_zero_iff.1 (by omega)
      rw [if_pos this]
      exact ⟨rfl, rfl, hsame hs⟩
    rw [if_neg (by rintro rfl; simp at hlxs; omega)]
    have hx' : FocR (dk M.d D :: r) x 7 (bs.flatMap encB7) := inferInstance
    refine wp_call (placed_c (lg := lg) x bs (by omega) (by omega) inferInstance (fun b hb => by have := hbs b hb; infer_instance) hs) fun _ w' hs => ?_
    have hplo := placeL_ok (bs := bs) (n := nextL M.l)
    rcases hs with ⟨he, rfl, hs⟩ | ⟨he, z1, z2, fs, rfl, hfs, hs⟩
    · refine ret_of ?_
      refine wp_lt ?_
      refine wp_ifT ?_ he
      refine wp_lt ?_
      rw [if_pos he]
      exact ⟨rfl, rfl, hsame hs⟩
    refine ret_of ?_
    refine wp_lt ?_
    refine wp_ifF ?_ (by simp)
    rw [if_neg (by rw [he]; simp)]
    obtain ⟨hp1, hp2, hp3⟩ := hplo he
    have hbl0 : 0 < bs.length := by
      apply Nat.pos_of_ne_zero
      intro h0
      rw [h0] at hlxs
      omega
    generalize hn0 : nextL M.l = n0 at *
    generalize hPL : placeL n0 bs = PL at *
    obtain ⟨e0, q⟩ := PL
    have he : e0 = 0 := he
    subst he
    dsimp only at hp1 hp2 hp3 hfs hs ⊢
    have hsum := bat_sum fun b hb => (hp2 b hb).1
    have hfsl : fs.length = q.length := by have := congrArg List.length hfs; simpa using this
    have hfl1 := hs.slen z2 (xs := fs.map Prod.fst) (enc := encSl)
    rw [List.length_map] at hfl1
    have hfget : ∀ (i : Nat) (h : i < fs.length), fs[i].2 = frL (q[i]'(by omega)) := fun i h => by
      have := List.getElem_of_eq hfs (i := i) (by rw [List.length_map]; exact h)
      simpa using this
    have hfsum : ∀ i, ((q.take i).flatMap frL).length ≤ (q.flatMap frL).length := fun i => by
      have : (q.flatMap frL) = (q.take i).flatMap frL ++ (q.drop i).flatMap frL := by rw [← List.flatMap_append, List.take_append_drop]
      rw [this, List.length_append]; omega
    -- the frames' bytes
    refine wp_mid (fun v w' => v = (((q.flatMap frL).length : Int), ()) ∧ Sat w' (slc T.api_Batch 7 z1 (q.flatMap encB7) :: slc T.s_uint8 1 z2 ((fs.map Prod.fst).flatMap encSl) :: HP.all (fs.map frP) :: lgQ lg M :: dk M.d D :: r)) ?_ ?_
    · refine wp_loop (fun m v w => ∃ i : Nat, v = ((((q.take i).flatMap frL).length : Int), ((i : Int), ())) ∧ i ≤ q.length ∧ q.length - i = m ∧ Sat w (slc T.api_Batch 7 z1 (q.flatMap encB7) :: slc T.s_uint8 1 z2 ((fs.map Prod.fst).flatMap encSl) :: HP.all (fs.map frP) :: lgQ lg M :: dk M.d D :: r)) q.length ⟨0, rfl, by omega, rfl, hs⟩ ?_
      clear hs
      rintro m _ w ⟨i, rfl, hi, hm, hs⟩
      refine wp_on ?_
      refine wp_if (fun hc => ?_) fun hc => ?_
      rotate_left
      · refine wp_pass (wp_lv ⟨?_, hs⟩)
        rw [List.take_of_length_le (by omega)]
      have hil : i < q.length := by omega
      have hil2 : i < fs.length := by omega
      refine wp_ix1 hs (xs := fs.map Prod.fst) (enc := encSl) i (by rw [List.length_map]; omega) ?_
      have e1 : (fs.map Prod.fst)[i]'(by rw [List.length_map]; omega) = fs[i].1 := by simp
      rw [e1]
      have hR : FocR (HP.all (fs.map frP) :: lgQ lg M :: dk M.d D :: r) fs[i].1 1 (fs[i].2.flatMap encU) := all_rd (List.getElem_mem hil2)
      have hl2 := hs.slen fs[i].1 (xs := fs[i].2) (enc := encU)
      rw [hfget i hil2] at hl2
      have hfi : ((q.take (i + 1)).flatMap frL).length = ((q.take i).flatMap frL).length + (frL q[i]).length := by
        rw [List.take_succ_eq_append_getElem hil, List.flatMap_append, List.length_append]; simp
      have := hfsum (i + 1)
      rw [hl2, w64 (by omega) (by omega)]
      refine wp_lt ?_
      rw [show IntKind.wrap .i64 ((i : Int) + 1) = ((i + 1 : Nat) : Int) by rw [w64 (by omega) (by omega)]; omega]
      have ec : (((q.take i).flatMap frL).length : Int) + ((frL q[i]).length : Nat) = (((q.take (i + 1)).flatMap frL).length : Int) := by rw [hfi]; omega
      rw [ec]
      exact wp_lp (q.length - (i + 1)) ⟨i + 1, rfl, by omega, rfl, hs⟩
    clear hs
    rintro _ w ⟨rfl, hs⟩
    refine wp_on ?_
    refine wp_call (last_c (lg := lg) (by omega) hs) fun _ w' hs => ?_
    obtain ⟨rfl, hs⟩ := hs
    refine ret_of ?_
    refine wp_call (fits_l (lg := lg) (q.flatMap frL).length (by omega) (by omega) (fun s hs' => by have := hfl s hs'; omega) hs) fun _ w' hs => ?_
    obtain ⟨rfl, hs⟩ := hs
    refine ret_of ?_
    generalize hF : q.flatMap frL = Fr at *
    have hbsl : fs.map Prod.snd = q.map frL := hfs
    have hflat : (fs.map Prod.snd).flatten = Fr := by rw [hfs, ← hF, List.flatMap]
    have hlbound : ∀ p ∈ fs, p.2.length ≤ 262152 := fun p hp => by
      obtain ⟨i, hi, rfl⟩ := List.mem_iff_getElem.1 hp
      rw [hfget i hi]
      have := frL_len (hp2 _ (List.getElem_mem (show i < q.length by omega))).1
      have := batL_len (hp2 _ (List.getElem_mem (show i < q.length by omega))).1
      omega
    -- what the disk is told, and the segment that the batches go to
    refine wp_mid (fun v w' => ∃ (M1 : LogM) (SM0 : List (Nat × SegM)) (a : Nat) (t : SegM) (D1 : DiskA), v = (some ⟨a, 0, none⟩, ()) ∧ M1.SM = SM0 ++ [(a, t)] ∧ t.s.file.length ≤ 600000000 ∧
        (if roomy M.seg M.l Fr.length then
          if (appendA D (nameS M.pre (baseL M.l) logX) Fr).1 ≠ 0 then ((0, (appendA D (nameS M.pre (baseL M.l) logX) Fr).1), M.l, (appendA D (nameS M.pre (baseL M.l) logX) Fr).2)
          else ((n0, (0 : Int)), addLast M.l q, (appendA D (nameS M.pre (baseL M.l) logX) Fr).2)
        else
          if (lsyncA M.pre M.l D).1 ≠ 0 then ((0, (lsyncA M.pre M.l D).1), M.l, (lsyncA M.pre M.l D).2) else
          if (appendA (lsyncA M.pre M.l D).2 (nameS M.pre n0 logX) (shL n0 0 ++ Fr)).1 ≠ 0 then ((0, (appendA (lsyncA M.pre M.l D).2 (nameS M.pre n0 logX) (shL n0 0 ++ Fr)).1), M.l, (appendA (lsyncA M.pre M.l D).2 (nameS M.pre n0 logX) (shL n0 0 ++ Fr)).2)
          else ((n0, 0), M.l ++ [(⟨n0, 0, []⟩ : SegA).add q], (appendA (lsyncA M.pre M.l D).2 (nameS M.pre n0 logX) (shL n0 0 ++ Fr)).2)) = ((n0, 0), (SM0.map fun t => t.2.s) ++ [t.s.add q], D1) ∧
        (M1.d = M.d ∧ M1.pre = M.pre ∧ M1.seg = M.seg ∧ M1.gap = M.gap) ∧
        Sat w' (lgQ lg M1 :: dk M.d D1 :: slc T.api_Batch 7 z1 (q.flatMap encB7) :: slc T.s_uint8 1 z2 ((fs.map Prod.fst).flatMap encSl) :: HP.all (fs.map frP) :: r)) ?_ ?_
    · refine wp_if (fun hr => ?_) fun hr => ?_
      · -- a new segment
        have hr : roomy M.seg M.l Fr.length = false := by simpa using hr
        rw [if_neg (by rw [hr]; simp)]
        have hs : Sat w' (lgQ lg M :: slc T.api_Batch 7 z1 (q.flatMap encB7) :: slc T.s_uint8 1 z2 ((fs.map Prod.fst).flatMap encSl) :: HP.all (fs.map frP) :: dk M.d D :: r) := hs
        refine wp_call (lsync_c (lg := lg) (D := D) (by omega) hok hs) fun _ w' hs => ?_
        obtain ⟨rfl, hs⟩ := hs
        refine ret_of ?_
        refine wp_lt ?_
        refine wp_if (fun h2 => ?_) fun h2 => ?_
        · refine wp_lt ?_
          rw [if_pos h2]
          refine wp_pass ⟨rfl, rfl, hsame hs.sub⟩
        rw [if_neg h2]
        generalize (lsyncA M.pre M.l D).2 = D1 at *
        refine wp_call (lnext_c (lg := lg) (by omega) hs) fun _ w' hs => ?_
        obtain ⟨rfl, hs⟩ := hs
        refine ret_of ?_
        rw [hn0]
        refine wp_call (newseg_c (lg := lg) n0 0 (by omega) (by omega) hs) fun _ w' hs => ?_
        obtain ⟨a, ix, rfl, hs⟩ := hs
        refine ret_of ?_
        have hshl := shL_len n0 0
        refine wp_mid (fun v w' => v = ((appendA D1 (nameS M.pre n0 logX) (shL n0 0 ++ Fr)).1, ()) ∧ Sat w' (segP M.gap a ⟨ix, ⟨n0, 0, []⟩⟩ :: lgQ lg M :: dk M.d (appendA D1 (nameS M.pre n0 logX) (shL n0 0 ++ Fr)).2 :: slc T.api_Batch 7 z1 (q.flatMap encB7) :: slc T.s_uint8 1 z2 ((fs.map Prod.fst).flatMap encSl) :: HP.all (fs.map frP) :: r)) ?_ ?_
        · obtain ⟨hokm, hs⟩ := lgQ_open (hs.pick [1])
          have hs := seg_open (hs.pick [3])
          refine wp_tk hs fun w' hs => ?_
          refine wp_nn ?_
          refine wp_hdO hs ?_
          refine wp_nn ?_
          refine wp_ldO hs ?_
          refine wp_nn ?_
          refine wp_hdO hs ?_
          refine wp_call (name_c0 (lg := lg) n0 (by omega) (ByteArray.mk #[46, 108, 111, 103]) (by decide) M.pre hokm.size hs) fun _ w' hs => ?_
          obtain ⟨rfl, hs⟩ := hs
          refine ret_of ?_ (by first | trivial | (repeat (first | exact trivial | exact fun _ => run_ldO hs | exact fun _ => run_ldG hs | refine And.intro ?_ ?_)))
          refine wp_call (head_c n0 0 (by omega) (by omega) hs) fun _ w' hs => ?_
          obtain ⟨y, rfl, hs⟩ := hs
          refine ret_of ?_ (by first | trivial | (repeat (first | exact trivial | exact fun _ => run_ldO hs | exact fun _ => run_ldG hs | refine And.intro ?_ ?_)))
          refine wp_litS hs (enc := encSl) [y] fun y2 w' hs => ⟨(by first | trivial | (repeat (first | exact trivial | exact fun _ => run_ldO hs | exact fun _ => run_ldG hs | refine And.intro ?_ ?_))), ?_⟩
          refine wp_app2 (xs := [y]) (ys := fs.map Prod.fst) (enc := encSl) hs (fun y3 w' hs => ⟨(by first | trivial | (repeat (first | exact trivial | exact fun _ => run_ldO hs | exact fun _ => run_ldG hs | refine And.intro ?_ ?_))), ?_⟩) (by rw [List.length_map]; simp only [List.length_cons, List.length_nil]; omega)
          refine wp_untick ?_
          have hs : Sat w' (dk M.d D1 :: slc T.s_uint8 1 y3 (([y] ++ fs.map Prod.fst).flatMap encSl) :: slc T.uint8 1 y ((shL n0 0).flatMap encU) :: HP.all (fs.map frP) :: pt a (.cells #[.pointer (some ⟨ix, 0, none⟩), .int .i64 n0, .int .i64 0, .int .i64 (nextG []), .int .i64 (lateG (-1) []), .int .i64 ((SegA.file ⟨n0, 0, []⟩).length : Nat)] T.seglog_segment) :: idxP ix ((SegA.mk n0 0 []).idx M.gap) :: pt lg (.cells #[.pointer (some ⟨M.d, 0, none⟩), .string M.pre, .int .i64 M.seg, .int .i64 M.gap, .slice M.z.a M.z.len M.z.cap] T.seglog_Log) :: slc T.p_seglog_segment 1 M.z ((M.SM.map Prod.fst).flatMap encP) :: HP.all (M.SM.map fun t => segP M.gap t.1 t.2) :: slc T.api_Batch 7 z1 (q.flatMap encB7) :: slc T.s_uint8 1 z2 ((fs.map Prod.fst).flatMap encSl) :: r) := hs.sub
          have hall : ∀ p ∈ ((y, shL n0 0) :: fs), FocR (slc T.s_uint8 1 y3 (([y] ++ fs.map Prod.fst).flatMap encSl) :: slc T.uint8 1 y ((shL n0 0).flatMap encU) :: HP.all (fs.map frP) :: pt a (.cells #[.pointer (some ⟨ix, 0, none⟩), .int .i64 n0, .int .i64 0, .int .i64 (nextG []), .int .i64 (lateG (-1) []), .int .i64 ((SegA.file ⟨n0, 0, []⟩).length : Nat)] T.seglog_segment) :: idxP ix ((SegA.mk n0 0 []).idx M.gap) :: pt lg (.cells #[.pointer (some ⟨M.d, 0, none⟩), .string M.pre, .int .i64 M.seg, .int .i64 M.gap, .slice M.z.a M.z.len M.z.cap] T.seglog_Log) :: slc T.p_seglog_segment 1 M.z ((M.SM.map Prod.fst).flatMap encP) :: HP.all (M.SM.map fun t => segP M.gap t.1 t.2) :: slc T.api_Batch 7 z1 (q.flatMap encB7) :: slc T.s_uint8 1 z2 ((fs.map Prod.fst).flatMap encSl) :: r) p.1 1 (p.2.flatMap encU) := fun p hp => by
            rcases List.mem_cons.1 hp with rfl | hp
            · infer_instance
            · have : FocR (HP.all (fs.map frP) :: pt a (.cells #[.pointer (some ⟨ix, 0, none⟩), .int .i64 n0, .int .i64 0, .int .i64 (nextG []), .int .i64 (lateG (-1) []), .int .i64 ((SegA.file ⟨n0, 0, []⟩).length : Nat)] T.seglog_segment) :: idxP ix ((SegA.mk n0 0 []).idx M.gap) :: pt lg (.cells #[.pointer (some ⟨M.d, 0, none⟩), .string M.pre, .int .i64 M.seg, .int .i64 M.gap, .slice M.z.a M.z.len M.z.cap] T.seglog_Log) :: slc T.p_seglog_segment 1 M.z ((M.SM.map Prod.fst).flatMap encP) :: HP.all (M.SM.map fun t => segP M.gap t.1 t.2) :: slc T.api_Batch 7 z1 (q.flatMap encB7) :: slc T.s_uint8 1 z2 ((fs.map Prod.fst).flatMap encSl) :: r) p.1 1 (p.2.flatMap encU) := all_rd hp
              infer_instance
          have hpsF : FocR (slc T.s_uint8 1 y3 (([y] ++ fs.map Prod.fst).flatMap encSl) :: slc T.uint8 1 y ((shL n0 0).flatMap encU) :: HP.all (fs.map frP) :: pt a (.cells #[.pointer (some ⟨ix, 0, none⟩), .int .i64 n0, .int .i64 0, .int .i64 (nextG []), .int .i64 (lateG (-1) []), .int .i64 ((SegA.file ⟨n0, 0, []⟩).length : Nat)] T.seglog_segment) :: idxP ix ((SegA.mk n0 0 []).idx M.gap) :: pt lg (.cells #[.pointer (some ⟨M.d, 0, none⟩), .string M.pre, .int .i64 M.seg, .int .i64 M.gap, .slice M.z.a M.z.len M.z.cap] T.seglog_Log) :: slc T.p_seglog_segment 1 M.z ((M.SM.map Prod.fst).flatMap encP) :: HP.all (M.SM.map fun t => segP M.gap t.1 t.2) :: slc T.api_Batch 7 z1 (q.flatMap encB7) :: slc T.s_uint8 1 z2 ((fs.map Prod.fst).flatMap encSl) :: r) y3 1 ((((y, shL n0 0) :: fs).map Prod.fst).flatMap encL) := (inferInstance : FocR _ y3 1 (([y] ++ fs.map Prod.fst).flatMap encSl))
          refine wp_call (append_c (d := M.d) (A := D1) (nameS M.pre n0 (bl (ByteArray.mk #[46, 108, 111, 103]))) y3 (((y, shL n0 0) :: fs).map Prod.fst) (((y, shL n0 0) :: fs).map Prod.snd) (hps := hpsF) (rdAll_fs hall) (by simp only [List.length_map, List.length_cons]; omega) (fun b hb => ?_) hs) fun _ w' hs => ?_
          · obtain ⟨p, hp, rfl⟩ := List.mem_map.1 hb
            rcases List.mem_cons.1 hp with rfl | hp
            · show (shL n0 0).length ≤ _; omega
            · have := hlbound p hp; omega
          obtain ⟨rfl, hs⟩ := hs
          refine ret_of ?_
          refine wp_lt ?_
          refine wp_untick ?_
          have e2 : (((y, shL n0 0) :: fs).map Prod.snd).flatten = shL n0 0 ++ Fr := by rw [List.map_cons, List.flatten_cons, hflat]
          rw [e2] at hs ⊢
          refine wp_lv ⟨rfl, ?_⟩
          have hs : Sat w' (dk M.d (appendA D1 (nameS M.pre n0 logX) (shL n0 0 ++ Fr)).2 :: slc T.s_uint8 1 y3 _ :: slc T.uint8 1 y _ :: HP.all (fs.map frP) :: pt a _ :: idxP ix _ :: pt lg _ :: slc T.p_seglog_segment 1 M.z _ :: HP.all (M.SM.map fun t => segP M.gap t.1 t.2) :: slc T.api_Batch 7 z1 (q.flatMap encB7) :: slc T.s_uint8 1 z2 ((fs.map Prod.fst).flatMap encSl) :: r) := hs
          have hs := lgQ_close M hokm (hs.pick [6, 6, 6])
          have hs : Sat w' (segP M.gap a ⟨ix, ⟨n0, 0, []⟩⟩ :: lgQ lg M :: dk M.d _ :: slc T.s_uint8 1 y3 _ :: slc T.uint8 1 y _ :: HP.all (fs.map frP) :: slc T.api_Batch 7 z1 (q.flatMap encB7) :: slc T.s_uint8 1 z2 ((fs.map Prod.fst).flatMap encSl) :: r) := seg_close ⟨ix, ⟨n0, 0, []⟩⟩ (hs.pick [5, 5])
          exact hs.sub
        rintro _ w2 ⟨rfl, hs⟩
        refine wp_if (fun h3 => ?_) fun h3 => ?_
        · refine wp_lt ?_
          rw [if_pos h3]
          refine wp_pass ⟨rfl, rfl, hsame hs.sub⟩
        rw [if_neg h3]
        have hs := hs.pick [1]
        refine wp_call (put_c (lg := lg) a ⟨ix, ⟨n0, 0, []⟩⟩ (by omega) hs) fun _ w' hs => ?_
        obtain ⟨z, rfl, hs⟩ := hs
        refine ret_of ?_
        refine wp_lv ⟨{ M with z := z, SM := M.SM ++ [(a, ⟨ix, ⟨n0, 0, []⟩⟩)] }, M.SM, a, ⟨ix, ⟨n0, 0, []⟩⟩, (appendA D1 (nameS M.pre n0 logX) (shL n0 0 ++ Fr)).2, rfl, rfl, ?_, rfl, ⟨rfl, rfl, rfl, rfl⟩, hs⟩
        rw [file_len]
        simp only [List.flatMap_nil, List.length_nil]
        omega
      · -- the last segment
        have hr : roomy M.seg M.l Fr.length = true := by simpa using hr
        rw [if_pos hr]
        have h0 : M.SM ≠ [] := by
          intro h0
          have : M.l = [] := by unfold LogM.l; rw [h0]; rfl
          rw [this] at hr
          cases hr
        obtain ⟨SM0, ⟨a, t⟩, hSM⟩ := snoc_of h0
        have hl1 : M.l = SM0.map (fun t => t.2.s) ++ [t.s] := by unfold LogM.l; rw [hSM]; simp
        have hbase : baseL M.l = t.s.base := by unfold baseL; rw [hl1, getLast_snoc]
        have hadd : addLast M.l q = SM0.map (fun t => t.2.s) ++ [t.s.add q] := by unfold addLast; rw [hl1, getLast_snoc]; simp
        have hlst : M.SM.getLast? = some (a, t) := by rw [hSM, getLast_snoc]
        rw [hlst]
        have htm : t.s ∈ M.l := by rw [hl1]; simp
        have htb := (hok.mem _ htm).1.base
        have htf := hfl _ htm
        refine wp_mid (fun v w' => v = ((appendA D (nameS M.pre (baseL M.l) logX) Fr).1, ()) ∧ Sat w' (lgQ lg M :: dk M.d (appendA D (nameS M.pre (baseL M.l) logX) Fr).2 :: slc T.api_Batch 7 z1 (q.flatMap encB7) :: slc T.s_uint8 1 z2 ((fs.map Prod.fst).flatMap encSl) :: HP.all (fs.map frP) :: r)) ?_ ?_
        · obtain ⟨hokm, hs⟩ := lgQ_last_open hSM hs
          have hs := seg_open hs
          refine wp_tk hs fun w' hs => ?_
          refine wp_nn ?_
          refine wp_hdO hs ?_
          refine wp_nn ?_
          refine wp_ldO hs ?_
          refine wp_call (name_c0 (lg := lg) t.s.base (by omega) (ByteArray.mk #[46, 108, 111, 103]) (by decide) M.pre hokm.size hs) fun _ w' hs => ?_
          obtain ⟨rfl, hs⟩ := hs
          refine ret_of ?_ (by first | trivial | (repeat (first | exact trivial | exact fun _ => run_ldO hs | exact fun _ => run_ldG hs | refine And.intro ?_ ?_)))
          refine wp_untick ?_
          have hs := hs.pick [8]
          have hall : ∀ p ∈ fs, FocR (pt a (.cells #[.pointer (some ⟨t.ix, 0, none⟩), .int .i64 t.s.base, .int .i64 t.s.fin, .int .i64 (nextG t.s.bs), .int .i64 (lateG (-1) t.s.bs), .int .i64 (t.s.file.length : Nat)] T.seglog_segment) :: idxP t.ix (t.s.idx M.gap) :: pt lg (.cells #[.pointer (some ⟨M.d, 0, none⟩), .string M.pre, .int .i64 M.seg, .int .i64 M.gap, .slice M.z.a M.z.len M.z.cap] T.seglog_Log) :: slc T.p_seglog_segment 1 M.z ((SM0.map Prod.fst ++ [a]).flatMap encP) :: HP.all (SM0.map fun t => segP M.gap t.1 t.2) :: slc T.api_Batch 7 z1 (q.flatMap encB7) :: slc T.s_uint8 1 z2 ((fs.map Prod.fst).flatMap encSl) :: HP.all (fs.map frP) :: r) p.1 1 (p.2.flatMap encU) := fun p hp => by
            have : FocR (HP.all (fs.map frP) :: r) p.1 1 (p.2.flatMap encU) := all_rd hp
            infer_instance
          have hpsF : FocR (pt a (.cells #[.pointer (some ⟨t.ix, 0, none⟩), .int .i64 t.s.base, .int .i64 t.s.fin, .int .i64 (nextG t.s.bs), .int .i64 (lateG (-1) t.s.bs), .int .i64 (t.s.file.length : Nat)] T.seglog_segment) :: idxP t.ix (t.s.idx M.gap) :: pt lg (.cells #[.pointer (some ⟨M.d, 0, none⟩), .string M.pre, .int .i64 M.seg, .int .i64 M.gap, .slice M.z.a M.z.len M.z.cap] T.seglog_Log) :: slc T.p_seglog_segment 1 M.z ((SM0.map Prod.fst ++ [a]).flatMap encP) :: HP.all (SM0.map fun t => segP M.gap t.1 t.2) :: slc T.api_Batch 7 z1 (q.flatMap encB7) :: slc T.s_uint8 1 z2 ((fs.map Prod.fst).flatMap encSl) :: HP.all (fs.map frP) :: r) z2 1 ((fs.map Prod.fst).flatMap encL) := (inferInstance : FocR _ z2 1 ((fs.map Prod.fst).flatMap encSl))
          refine wp_call (append_c (d := M.d) (A := D) (nameS M.pre t.s.base (bl (ByteArray.mk #[46, 108, 111, 103]))) z2 (fs.map Prod.fst) (fs.map Prod.snd) (hps := hpsF) (rdAll_fs hall) (by simp only [List.length_map]; omega) (fun b hb => ?_) hs) fun _ w' hs => ?_
          · obtain ⟨p, hp, rfl⟩ := List.mem_map.1 hb
            have := hlbound p hp; omega
          obtain ⟨rfl, hs⟩ := hs
          refine ret_of ?_
          refine wp_lt ?_
          refine wp_untick ?_
          rw [hflat] at hs ⊢
          refine wp_lv ⟨by rw [hbase]; rfl, ?_⟩
          rw [hbase]
          have hs : Sat w' (dk M.d (appendA D (nameS M.pre t.s.base logX) Fr).2 :: pt a _ :: idxP t.ix _ :: pt lg _ :: slc T.p_seglog_segment 1 M.z _ :: HP.all (SM0.map fun t => segP M.gap t.1 t.2) :: slc T.api_Batch 7 z1 (q.flatMap encB7) :: slc T.s_uint8 1 z2 ((fs.map Prod.fst).flatMap encSl) :: HP.all (fs.map frP) :: r) := hs
          have hs := lgQ_last_close M hokm (seg_close t (hs.pick [1, 1]) |>.pick [0, 1, 1, 1])
          have e : { M with SM := SM0 ++ [(a, t)] } = M := by rw [← hSM]
          rw [e] at hs
          exact hs.sub
        rintro _ w2 ⟨rfl, hs⟩
        refine wp_if (fun h3 => ?_) fun h3 => ?_
        · refine wp_lt ?_
          rw [if_pos h3]
          refine wp_pass ⟨rfl, rfl, hsame hs.sub⟩
        rw [if_neg h3]
        refine wp_lv ⟨M, SM0, a, t, (appendA D (nameS M.pre (baseL M.l) logX) Fr).2, rfl, hSM, by omega, by rw [hadd], ⟨rfl, rfl, rfl, rfl⟩, hs⟩
    -- the batches are taken
    rintro _ w2 ⟨M1, SM0, a, t, D1, rfl, hSM, htl, hres, ⟨hd1, hd2, hd3, hd4⟩, hs⟩
    clear hsame
    rw [hres]
    obtain ⟨hokm, hs⟩ := lgQ_last_open hSM hs
    have hF2 : ∀ i, ((q.take i).flatMap frL).length ≤ Fr.length := hfsum
    have hlq := hs.slen z1 (xs := q) (enc := encB7)
    refine wp_mid (fun _ w' => Sat w' (segP M1.gap a ⟨t.ix, t.s.add q⟩ :: pt lg (.cells #[.pointer (some ⟨M1.d, 0, none⟩), .string M1.pre, .int .i64 M1.seg, .int .i64 M1.gap, .slice M1.z.a M1.z.len M1.z.cap] T.seglog_Log) :: slc T.p_seglog_segment 1 M1.z ((SM0.map Prod.fst ++ [a]).flatMap encP) :: HP.all (SM0.map fun t => segP M1.gap t.1 t.2) :: dk M.d D1 :: slc T.api_Batch 7 z1 (q.flatMap encB7) :: slc T.s_uint8 1 z2 ((fs.map Prod.fst).flatMap encSl) :: HP.all (fs.map frP) :: r)) ?_ ?_
    · refine wp_loop (fun m v w => ∃ i : Nat, v = ((i : Int), ()) ∧ i ≤ q.length ∧ q.length - i = m ∧ Sat w (segP M1.gap a ⟨t.ix, t.s.add (q.take i)⟩ :: pt lg (.cells #[.pointer (some ⟨M1.d, 0, none⟩), .string M1.pre, .int .i64 M1.seg, .int .i64 M1.gap, .slice M1.z.a M1.z.len M1.z.cap] T.seglog_Log) :: slc T.p_seglog_segment 1 M1.z ((SM0.map Prod.fst ++ [a]).flatMap encP) :: HP.all (SM0.map fun t => segP M1.gap t.1 t.2) :: dk M.d D1 :: slc T.api_Batch 7 z1 (q.flatMap encB7) :: slc T.s_uint8 1 z2 ((fs.map Prod.fst).flatMap encSl) :: HP.all (fs.map frP) :: r)) q.length ⟨0, rfl, by omega, rfl, by rw [List.take_zero, add_nil]; exact hs⟩ ?_
      clear hs
      rintro m _ w ⟨i, rfl, hi, hm, hs⟩
      refine wp_on ?_
      refine wp_if (fun hc => ?_) fun hc => ?_
      rotate_left
      · refine wp_pass (wp_lv ?_)
        rwa [List.take_of_length_le (by omega)] at hs
      have hil : i < q.length := by omega
      have hil2 : i < fs.length := by omega
      refine wp_ixA hs (xs := q) (enc := encB7) i hil ?_
      refine wp_newO hs fun c w' hs => ?_
      refine wp_lt ?_
      refine wp_stG hs fun w' hs => ?_
      refine wp_tk hs fun w' hs => ?_
      refine wp_ldG hs ?_
      refine wp_ix1 hs (xs := fs.map Prod.fst) (enc := encSl) i (by rw [List.length_map]; omega) ?_
      have e1 : (fs.map Prod.fst)[i]'(by rw [List.length_map]; omega) = fs[i].1 := by simp
      rw [e1]
      have hR : FocR (HP.all (fs.map frP) :: r) fs[i].1 1 (fs[i].2.flatMap encU) := all_rd (List.getElem_mem hil2)
      have hl2 := hs.slen fs[i].1 (xs := fs[i].2) (enc := encU)
      rw [hfget i hil2] at hl2
      rw [hl2]
      obtain ⟨hvq, c0, hc0, hcx, hcr⟩ := hp2 q[i] (List.getElem_mem hil)
      have hRb : FocR r q[i].x 4 (q[i].rs.flatMap encR) := by rw [hcx, hcr]; exact hbs c0 hc0
      have hfi : ((q.take (i + 1)).flatMap frL).length = ((q.take i).flatMap frL).length + (frL q[i]).length := by
        rw [List.take_succ_eq_append_getElem hil, List.flatMap_append, List.length_append]; simp
      have := hF2 (i + 1)
      refine wp_call (take_c (gap := M1.gap) (a := a) q[i] hvq (by show (t.s.add (q.take i)).file.length + _ ≤ _; rw [file_add, List.length_append]; omega) hs) fun _ w' hs => ?_
      obtain ⟨rfl, hs⟩ := hs
      refine ret_of ?_
      refine wp_untick ?_
      rw [show IntKind.wrap .i64 ((i : Int) + 1) = ((i + 1 : Nat) : Int) by rw [w64 (by omega) (by omega)]; omega]
      refine wp_lp (q.length - (i + 1)) ⟨i + 1, rfl, by omega, rfl, ?_⟩
      have e2 : (t.s.add (q.take i)).add [q[i]] = t.s.add (q.take (i + 1)) := by rw [add_add, List.take_succ_eq_append_getElem hil]
      have hs : Sat w' (segP M1.gap a ⟨t.ix, (t.s.add (q.take i)).add [q[i]]⟩ :: _) := hs
      rw [e2] at hs
      exact hs.sub
    clear hs
    rintro _ w3 hs
    refine wp_on ?_
    refine wp_ixF0 hs (xs := q) (enc := encB7) 0 (by omega) ?_
    refine wp_lt ?_
    have hq0 : (q[0]'(by omega)).base = n0 := hp3 _ (by rw [List.head?_eq_getElem?, List.getElem?_eq_getElem])
    rw [hq0]
    refine ⟨rfl, rfl, ?_⟩
    have hs := lgP_close _ (lgQ_last_close M1 hokm hs)
    have eA : LogM.A { M1 with SM := SM0 ++ [(a, (⟨t.ix, t.s.add q⟩ : SegM))] } = M.A.set ((SM0.map fun t => t.2.s) ++ [t.s.add q]) := by
      unfold LogM.A LogM.l LogA.set
      simp only [List.map_append, List.map_cons, List.map_nil, hd1, hd2, hd3, hd4]
    rw [eA] at hs
    exact hs.sub
end
end Go.Dec
namespace Go.Dec
set_option linter.unusedVariables false
set_option linter.unusedSimpArgs false
section
variable {w : World} {l r : List HP} {lg : Nat} {M : LogM} {A : LogA} {D : DiskA} {gap : Int} {a : Nat} {t : SegM}
theorem wp_ix1k {P : Program} {Q : Post} {S : World → Prop} {α : Type} {enc : α → List Value} {xs : List α} {sz m : Nat} {ii : Int} {x : Sl} {T : TypeId} {g g' : Prop} {p : Pr} {dec : α → p.D} {f : p.D → Prog} (hs : Sat w l) [hf : FocR l x sz (xs.flatMap enc)] [hE : EncN enc sz] [hD : Enc1 enc p dec] [hT : One P T]
    (n : Nat) (hn : n < xs.length) (h : (f (dec xs[n])).wp P S w Q) (hm : m = n * sz := by rfl) (hi : ii = n := by rfl) :
    (Prog.ex [.adr] (c1 fun a => g → (0 : Int) ≤ ii ∧ ii < ((x.len : Nat) : Int) ∧ x.a = some a) (u1 fun a => .read g' (ld T (Addr.add a m)) (.one (.one p)) (u1 f))).wp P S w Q := by
  subst hm hi
  have hr := hf.rd w hs
  have hl : x.len = xs.length := hr.len hE.len hE.pos
  obtain ⟨a, ha, he⟩ := hr.el hE.len (by omega)
  refine ⟨(a, ()), fun _ => ⟨by omega, by omega, ha⟩, (dec xs[n], ()), fun _ => ?_, h⟩
  have := he n hn
  rw [hD.ok] at this
  have h2 := At.ld1 (P := P) (T := T) this rfl
  cases p <;> exact h2
theorem lroll_c {r1 : List HP} [hf : Fo l lgP lg A r1] [hf2 : Fo r1 dk A.d D r] (hlen : A.l.length ≤ 1000000) (hok : SegsOk 0 A.l) (hs : Sat w l) :
    Ret P F.seglog_Log_Roll #[.pointer (some ⟨lg, 0, none⟩)] w fun vs w' => vs = [.int .i64 (lrollA A.pre A.l D).1] ∧ Sat w' (lgP lg (A.set (lrollA A.pre A.l D).2.1) :: dk A.d (lrollA A.pre A.l D).2.2 :: r) :=
  seglog_Log_Roll_calls _ <| by
    unfold seglog_Log_Roll
    have hs := hs.perm (hf.perm.trans (.cons _ hf2.perm))
    clear hf hf2
    obtain ⟨M, rfl, hs⟩ := lgP_open hs
    have hMl : M.A.l = M.l := rfl
    have hMpre : M.A.pre = M.pre := rfl
    have hMd : M.A.d = M.d := rfl
    rw [hMl] at hlen hok ⊢
    rw [hMpre, hMd]
    rw [hMd] at hs
    have hll : M.l.length = M.SM.length := List.length_map ..
    have hnx := hok.next (Int.le_refl 0)
    have hsame : ∀ {w : World} {D' : DiskA}, Sat w (lgQ lg M :: dk M.d D' :: r) → Sat w (lgP lg (M.A.set M.l) :: dk M.d D' :: r) := fun hs => lgP_close M hs
    unfold lrollA
    refine wp_ifF ?_ (by simp)
    refine wp_call (last_c (lg := lg) (by omega) hs) fun _ w' hs => ?_
    obtain ⟨rfl, hs⟩ := hs
    refine ret_of ?_
    by_cases h0 : M.SM = []
    · have e : M.l = [] := by unfold LogM.l; rw [h0]; rfl
      have e2 : lastNx M.l = 0 := by rw [e]; rfl
      rw [if_pos e2, h0]
      refine wp_gz ?_ (fun h => by cases h)
      refine wp_gr (0 : Int) (fun h => by cases h) ?_
      refine wp_ifT ?_ (.inl rfl)
      exact ⟨rfl, rfl, hsame hs⟩
    obtain ⟨SM0, ⟨a, t⟩, hSM⟩ := snoc_of h0
    have hl1 : M.l = SM0.map (fun t => t.2.s) ++ [t.s] := by unfold LogM.l; rw [hSM]; simp
    have hlst : M.SM.getLast? = some (a, t) := by rw [hSM, getLast_snoc]
    have e2 : lastNx M.l = nextG t.s.bs := by unfold lastNx; rw [hl1, getLast_snoc]
    rw [e2, hlst]
    obtain ⟨hokm, hs⟩ := lgQ_last_open hSM hs
    have hs := seg_open hs
    refine wp_nng ?_
    refine wp_ldO hs ?_
    have hs := lgQ_last_close M hokm (seg_close t hs)
    have e : { M with SM := SM0 ++ [(a, t)] } = M := by rw [← hSM]
    rw [e] at hs
    refine wp_if (fun h1 => ?_) fun h1 => ?_
    · have h1 : nextG t.s.bs = 0 := by
        rcases h1 with h1 | h1
        · cases h1
        · exact h1
      rw [if_pos h1]
      exact ⟨rfl, rfl, hsame hs⟩
    rw [if_neg fun h => h1 (.inr h)]
    refine wp_call (lsync_c (lg := lg) (D := D) (by omega) hok hs) fun _ w' hs => ?_
    obtain ⟨rfl, hs⟩ := hs
    refine ret_of ?_
    refine wp_lt ?_
    refine wp_if (fun h2 => ?_) fun h2 => ?_
    · refine wp_lt ?_
      rw [if_pos h2]
      exact ⟨rfl, rfl, hsame hs⟩
    rw [if_neg h2]
    generalize (lsyncA M.pre M.l D).2 = D1 at *
    refine wp_call (lnext_c (lg := lg) (by omega) hs) fun _ w' hs => ?_
    obtain ⟨rfl, hs⟩ := hs
    refine ret_of ?_
    generalize hn0 : nextL M.l = n0 at *
    refine wp_call (newseg_c (lg := lg) n0 0 (by omega) (by omega) hs) fun _ w' hs => ?_
    obtain ⟨a, ix, rfl, hs⟩ := hs
    refine ret_of ?_
    have hshl := shL_len n0 0
    refine wp_mid (fun v w' => v = ((appendA D1 (nameS M.pre n0 logX) (shL n0 0)).1, ()) ∧ Sat w' (segP M.gap a ⟨ix, ⟨n0, 0, []⟩⟩ :: lgQ lg M :: dk M.d (appendA D1 (nameS M.pre n0 logX) (shL n0 0)).2 :: r)) ?_ ?_
    · obtain ⟨hokm, hs⟩ := lgQ_open (hs.pick [1])
      have hs := seg_open (hs.pick [3])
      refine wp_tk hs fun w' hs => ?_
      refine wp_nn ?_
      refine wp_hdO hs ?_
      refine wp_nn ?_
      refine wp_ldO hs ?_
      refine wp_nn ?_
      refine wp_hdO hs ?_
      refine wp_call (name_c0 (lg := lg) n0 (by omega) (ByteArray.mk #[46, 108, 111, 103]) (by decide) M.pre hokm.size hs) fun _ w' hs => ?_
      obtain ⟨rfl, hs⟩ := hs
      refine ret_of ?_ (by first | trivial | (repeat (first | exact trivial | exact fun _ => run_ldO hs | exact fun _ => run_ldG hs | refine And.intro ?_ ?_)))
      refine wp_call (head_c n0 0 (by omega) (by omega) hs) fun _ w' hs => ?_
      obtain ⟨y, rfl, hs⟩ := hs
      refine ret_of ?_ (by first | trivial | (repeat (first | exact trivial | exact fun _ => run_ldO hs | exact fun _ => run_ldG hs | refine And.intro ?_ ?_)))
      refine wp_litS hs (enc := encSl) [y] fun y2 w' hs => ⟨(by first | trivial | (repeat (first | exact trivial | exact fun _ => run_ldO hs | exact fun _ => run_ldG hs | refine And.intro ?_ ?_))), ?_⟩
      refine wp_untick ?_
      have hs : Sat w' (dk M.d D1 :: slc T.s_uint8 1 y2 (([y] : List Sl).flatMap encSl) :: slc T.uint8 1 y ((shL n0 0).flatMap encU) :: pt a (.cells #[.pointer (some ⟨ix, 0, none⟩), .int .i64 n0, .int .i64 0, .int .i64 (nextG []), .int .i64 (lateG (-1) []), .int .i64 ((SegA.file ⟨n0, 0, []⟩).length : Nat)] T.seglog_segment) :: idxP ix ((SegA.mk n0 0 []).idx M.gap) :: pt lg (.cells #[.pointer (some ⟨M.d, 0, none⟩), .string M.pre, .int .i64 M.seg, .int .i64 M.gap, .slice M.z.a M.z.len M.z.cap] T.seglog_Log) :: slc T.p_seglog_segment 1 M.z ((M.SM.map Prod.fst).flatMap encP) :: HP.all (M.SM.map fun t => segP M.gap t.1 t.2) :: r) := hs.sub
      have hy : FocR (slc T.s_uint8 1 y2 (([y] : List Sl).flatMap encSl) :: slc T.uint8 1 y ((shL n0 0).flatMap encU) :: pt a (.cells #[.pointer (some ⟨ix, 0, none⟩), .int .i64 n0, .int .i64 0, .int .i64 (nextG []), .int .i64 (lateG (-1) []), .int .i64 ((SegA.file ⟨n0, 0, []⟩).length : Nat)] T.seglog_segment) :: idxP ix ((SegA.mk n0 0 []).idx M.gap) :: pt lg (.cells #[.pointer (some ⟨M.d, 0, none⟩), .string M.pre, .int .i64 M.seg, .int .i64 M.gap, .slice M.z.a M.z.len M.z.cap] T.seglog_Log) :: slc T.p_seglog_segment 1 M.z ((M.SM.map Prod.fst).flatMap encP) :: HP.all (M.SM.map fun t => segP M.gap t.1 t.2) :: r) y 1 ((shL n0 0).flatMap encU) := inferInstance
      have hpsF : FocR (slc T.s_uint8 1 y2 (([y] : List Sl).flatMap encSl) :: slc T.uint8 1 y ((shL n0 0).flatMap encU) :: pt a (.cells #[.pointer (some ⟨ix, 0, none⟩), .int .i64 n0, .int .i64 0, .int .i64 (nextG []), .int .i64 (lateG (-1) []), .int .i64 ((SegA.file ⟨n0, 0, []⟩).length : Nat)] T.seglog_segment) :: idxP ix ((SegA.mk n0 0 []).idx M.gap) :: pt lg (.cells #[.pointer (some ⟨M.d, 0, none⟩), .string M.pre, .int .i64 M.seg, .int .i64 M.gap, .slice M.z.a M.z.len M.z.cap] T.seglog_Log) :: slc T.p_seglog_segment 1 M.z ((M.SM.map Prod.fst).flatMap encP) :: HP.all (M.SM.map fun t => segP M.gap t.1 t.2) :: r) y2 1 (([y] : List Sl).flatMap encL) := (inferInstance : FocR _ y2 1 (([y] : List Sl).flatMap encSl))
      refine wp_call (append_c (d := M.d) (A := D1) (nameS M.pre n0 (bl (ByteArray.mk #[46, 108, 111, 103]))) y2 [y] [shL n0 0] (hps := hpsF) ⟨hy.rd, trivial⟩ (by show 1 ≤ 1000; omega) (fun b hb => ?_) hs) fun _ w' hs => ?_
      · simp only [List.mem_cons, List.not_mem_nil, or_false] at hb
        subst hb
        omega
      obtain ⟨rfl, hs⟩ := hs
      refine ret_of ?_
      refine wp_lt ?_
      refine wp_untick ?_
      have e2 : [shL n0 0].flatten = shL n0 0 := by simp
      rw [e2] at hs ⊢
      refine wp_lv ⟨rfl, ?_⟩
      have hs : Sat w' (dk M.d (appendA D1 (nameS M.pre n0 logX) (shL n0 0)).2 :: slc T.s_uint8 1 y2 _ :: slc T.uint8 1 y _ :: pt a _ :: idxP ix _ :: pt lg _ :: slc T.p_seglog_segment 1 M.z _ :: HP.all (M.SM.map fun t => segP M.gap t.1 t.2) :: r) := hs
      have hs := lgQ_close M hokm (hs.pick [5, 5, 5])
      have hs : Sat w' (segP M.gap a ⟨ix, ⟨n0, 0, []⟩⟩ :: lgQ lg M :: dk M.d _ :: slc T.s_uint8 1 y2 _ :: slc T.uint8 1 y _ :: r) := seg_close ⟨ix, ⟨n0, 0, []⟩⟩ (hs.pick [4, 4])
      exact hs.sub
    rintro _ w2 ⟨rfl, hs⟩
    refine wp_if (fun h3 => ?_) fun h3 => ?_
    · refine wp_lt ?_
      rw [if_pos h3]
      exact ⟨rfl, rfl, hsame hs.sub⟩
    rw [if_neg h3]
    have hs := hs.pick [1]
    refine wp_call (put_c (lg := lg) a ⟨ix, ⟨n0, 0, []⟩⟩ (by omega) hs) fun _ w' hs => ?_
    obtain ⟨z, rfl, hs⟩ := hs
    refine ret_of ?_
    refine ⟨rfl, rfl, ?_⟩
    have hs := lgP_close _ hs
    have eA : LogM.A { M with z := z, SM := M.SM ++ [(a, (⟨ix, ⟨n0, 0, []⟩⟩ : SegM))] } = M.A.set (M.l ++ [⟨n0, 0, []⟩]) := by
      unfold LogM.A LogM.l LogA.set
      simp only [List.map_append, List.map_cons, List.map_nil]
    rw [eA] at hs
    exact hs
end
end Go.Dec
namespace Go.Dec
set_option linter.unusedVariables false
set_option linter.unusedSimpArgs false
def posB (s : SegA) (k : Nat) : Nat := (shL s.base s.fin).length + ((s.bs.take k).flatMap frL).length
def allB (l : List SegA) : List BatM := l.flatMap SegA.bs
def readA (l : List SegA) (off most : Int) : Int × List BatM := if most < 1 then (2, []) else if off < firstG l ∨ off > nextL l then (8, []) else (0, ((allB l).filterMap (fromB off)).take most.toNat)
def placeE (s : SegA) (o : Option EntA) : Int := match o with
  | none => ((shL s.base s.fin).length : Int)
  | some e => e.place
theorem posB_zero (s : SegA) : posB s 0 = (shL s.base s.fin).length := by simp [posB]
theorem posB_all (s : SegA) : posB s s.bs.length = s.file.length := by unfold posB; rw [List.take_length, file_len]
theorem posB_succ (s : SegA) {k : Nat} (hk : k < s.bs.length) : posB s (k + 1) = posB s k + (frL s.bs[k]).length := by
  unfold posB
  rw [List.take_succ_eq_append_getElem hk, List.flatMap_append, List.length_append]
  simp
  omega
theorem posB_le (s : SegA) (k : Nat) : posB s k ≤ s.file.length := by
  unfold posB
  rw [file_len]
  have : (s.bs.flatMap frL) = (s.bs.take k).flatMap frL ++ (s.bs.drop k).flatMap frL := by rw [← List.flatMap_append, List.take_append_drop]
  rw [this, List.length_append]; omega
theorem drop_file (s : SegA) (k : Nat) : s.file.drop (posB s k) = (s.bs.drop k).flatMap frL := by
  have e : s.file = (shL s.base s.fin ++ (s.bs.take k).flatMap frL) ++ (s.bs.drop k).flatMap frL := by
    unfold SegA.file
    rw [List.append_assoc, ← List.flatMap_append, List.take_append_drop]
  rw [e]
  exact List.drop_left' (by rw [List.length_append]; rfl)
theorem first_drop {s : SegA} (h : SegOk s) {k : Nat} (hk : k < s.bs.length) : firstL (s.file.drop (posB s k)) = some (batL s.bs[k], (frL s.bs[k]).length) ∧ decS (batL s.bs[k]) = some s.bs[k] := by
  obtain ⟨hv, hp⟩ := h.bs.valid s.bs[k] (List.getElem_mem hk)
  have hl := batL_len hv
  have hf := frL_len hv
  refine ⟨?_, by rw [decS_tell hv, hp]⟩
  rw [drop_file, List.drop_eq_getElem_cons hk, List.flatMap_cons, hf.2]
  exact first_seal hl.2 _
theorem BsOk.lt : ∀ {n : Int} {bs : List BatM}, BsOk n bs → ∀ (j i : Nat) (hi : i < bs.length) (hj : j < i), n ≤ (bs[j]'(by omega)).base ∧ (bs[j]'(by omega)).base + spanB (bs[j]'(by omega)) ≤ bs[i].base
  | n, b :: bs, ⟨h1, h2, h3, h4⟩, 0, i + 1, hi, hj => by
    refine ⟨h3, ?_⟩
    simp only [List.getElem_cons_zero, List.getElem_cons_succ]
    have hi : i < bs.length := by simpa using hi
    obtain ⟨s1, -, -, -, -⟩ := span_le b h1
    cases i with
    | zero =>
      cases bs with
      | nil => simp at hi
      | cons c cs => exact h4.2.2.1
    | succ i =>
      have := (h4.lt 0 (i + 1) hi (by omega)).1
      have h5 := (h4.lt 0 (i + 1) hi (by omega)).2
      obtain ⟨s2, -, -, -, -⟩ := span_le _ (h4.valid _ (List.getElem_mem (show 0 < bs.length by omega))).1
      omega
  | n, b :: bs, ⟨h1, h2, h3, h4⟩, j + 1, i + 1, hi, hj => by
    simp only [List.getElem_cons_succ]
    have hi : i < bs.length := by simpa using hi
    have := h4.lt j i hi (by omega)
    obtain ⟨s1, -, -, -, -⟩ := span_le b h1
    exact ⟨by omega, this.2⟩
theorem BsOk.le_next {n : Int} {bs : List BatM} (h : BsOk n bs) {b : BatM} (hb : b ∈ bs) : b.base + spanB b ≤ nextG bs := by
  obtain ⟨j, hj, rfl⟩ := List.mem_iff_getElem.1 hb
  have hne : bs ≠ [] := by rintro rfl; simp at hj
  have e : nextG bs = (bs[bs.length - 1]'(by omega)).base + spanB (bs[bs.length - 1]'(by omega)) := by
    unfold nextG
    rw [List.getLast?_eq_getElem?, List.getElem?_eq_getElem (by omega)]
  rw [e]
  by_cases hjl : j = bs.length - 1
  · subst hjl; exact Int.le_refl _
  · have := (h.lt j (bs.length - 1) (by omega) (by omega)).2
    obtain ⟨s1, -, -, -, -⟩ := span_le _ (h.valid _ (List.getElem_mem (show bs.length - 1 < bs.length by omega))).1
    omega
theorem fromB_none {off : Int} {b : BatM} (hv : validB b = 0) (h : b.base + spanB b ≤ off) : fromB off b = none := by
  unfold fromB
  rw [if_pos (.inr (by unfold nextB; rw [if_neg (by rw [hv]; simp)]; exact h))]
theorem fromB_p {off : Int} {b c : BatM} (hp : b.p = b) (h : fromB off b = some c) : c.p = c := by
  have hx : b.x = noSl := by rw [← hp]; rfl
  unfold fromB at h
  split at h
  · cases h
  · split at h
    · simp only [Option.some.injEq] at h; subst h; exact hp
    · simp only [Option.some.injEq] at h; subst h; unfold partB BatM.p; simp only [hx]; rfl
theorem filterMap_none {α β : Type} {f : α → Option β} {l : List α} (h : ∀ x ∈ l, f x = none) : l.filterMap f = [] := by
  rw [List.filterMap_eq_nil_iff]; exact h
theorem find_spec {s : SegA} (h : SegOk s) (hl : s.file.length ≤ 4194304) (gap off : Int) : ∃ k, k ≤ s.bs.length ∧ placeE s (findE (s.idx gap).l off) = ((posB s k : Nat) : Int) ∧ ∀ b ∈ s.bs.take k, b.base + spanB b ≤ off := by
  have hi := idx_ok gap s.bs.length (n := s.base) (q := (shL s.base s.fin).length) rfl h.base.1 (by omega) h.bs (by have := file_len s; omega)
  cases hf : findE (s.idx gap).l off with
  | none => exact ⟨0, Nat.zero_le _, by rw [posB_zero]; rfl, by simp⟩
  | some e =>
    unfold findE at hf
    obtain ⟨a, c, hac, he, -⟩ := last_filter hf
    have he : e.offset ≤ off := by simpa using he
    obtain ⟨i, hil, hie⟩ := hi.ent e (by show e ∈ (s.idx gap).l; rw [hac]; simp)
    refine ⟨i, by omega, ?_, fun b hb => ?_⟩
    · show e.place = _
      rw [hie]
      unfold posB
      simp only
      omega
    · obtain ⟨j, hj, rfl⟩ := List.mem_iff_getElem.1 hb
      rw [List.length_take] at hj
      rw [List.getElem_take]
      have := (h.bs.lt j i hil (by omega)).2
      rw [hie] at he
      simp only at he
      omega
theorem SegsOk.skip : ∀ {n : Int} {l : List SegA}, SegsOk n l → ∀ (i j : Nat) (hj : j < l.length) (hi : i < j), (l[i]'(by omega)).reach ≤ l[j].base ∧ (l[i]'(by omega)).base < l[j].base
  | n, s :: l, ⟨h1, h2, h3⟩, 0, j + 1, hj, _ => by
    have hj : j < l.length := by simpa using hj
    have := (h3.mem l[j] (List.getElem_mem hj)).2
    simp only [List.getElem_cons_zero, List.getElem_cons_succ]
    omega
  | n, s :: l, ⟨h1, h2, h3⟩, i + 1, j + 1, hj, hi => by
    simp only [List.getElem_cons_succ]
    exact h3.skip i j (by simpa using hj) (by omega)
/-- What stands ahead of the segment of an offset is not told. -/
theorem skip_all {l : List SegA} (hok : SegsOk 0 l) {off : Int} {i : Nat} (hi : i < l.length) (hb : l[i].base ≤ off ∨ i = 0) : (allB l).filterMap (fromB off) = (allB (l.drop i)).filterMap (fromB off) := by
  have e : allB l = allB (l.take i) ++ allB (l.drop i) := by unfold allB; rw [← List.flatMap_append, List.take_append_drop]
  rw [e, List.filterMap_append, filterMap_none (l := allB (l.take i)), List.nil_append]
  intro b hb'
  obtain ⟨s, hs, hbs⟩ := List.mem_flatMap.1 hb'
  obtain ⟨j, hj, rfl⟩ := List.mem_iff_getElem.1 hs
  rw [List.length_take] at hj
  rw [List.getElem_take] at hbs
  have h1 := (hok.skip j i hi (by omega)).1
  have hsg := (hok.mem (l[j]'(by omega)) (List.getElem_mem _)).1
  have h2 := hsg.bs.le_next hbs
  have h3 := (reach_le hsg).2.2.1
  refine fromB_none (hsg.bs.valid b hbs).1 ?_
  rcases hb with hb | hb
  · omega
  · omega
theorem file_bs {s : SegA} (h : SegOk s) : s.bs.length * 10 ≤ s.file.length := by
  have := flat_frL_len h.bs
  rw [file_len]; omega
end Go.Dec
namespace Go.Dec
set_option linter.unusedVariables false
set_option linter.unusedSimpArgs false
def filesL (pre : ByteArray) : List ByteArray → DiskA → Int × List Int × DiskA
  | [], D => (0, [], D)
  | n :: ns, D => if (baseN pre n newX).isSome = true ∧ (remA D n).1 ≠ 0 then ((remA D n).1, [], (remA D n).2) else
    ((filesL pre ns (if (baseN pre n newX).isSome then (remA D n).2 else D)).1, (match baseN pre n logX with | some b => [(b : Int)] | none => []) ++ (filesL pre ns (if (baseN pre n newX).isSome then (remA D n).2 else D)).2.1, (filesL pre ns (if (baseN pre n newX).isSome then (remA D n).2 else D)).2.2)
def dropL (pre : ByteArray) : List Int → DiskA → Int × DiskA
  | [], D => (0, D)
  | b :: bs, D => if (remA D (nameS pre b logX)).1 ≠ 0 then remA D (nameS pre b logX) else dropL pre bs (remA D (nameS pre b logX)).2
def scanA (pre : ByteArray) (l : List SegA) (D : DiskA) (base : Int) : (Bool × Int) × List SegA × DiskA := match fileD D.fs (nameS pre base logX) with
  | none => ((false, 3), l, D)
  | some p => match scanL base p.1 with
    | none => ((false, (remA D (nameS pre base logX)).1), l, (remA D (nameS pre base logX)).2)
    | some q => if q.2 = p.1.length then ((true, 0), l ++ [q.1], D) else ((false, (cutA' D (nameS pre base logX) (q.2 : Nat)).1), l ++ [q.1], (cutA' D (nameS pre base logX) (q.2 : Nat)).2)
def openS (pre : ByteArray) : List Int → List SegA → DiskA → Int × List SegA × DiskA
  | [], l, D => (0, l, D)
  | b :: bs, l, D => if b < nextL l then (if (remA D (nameS pre b logX)).1 ≠ 0 then ((remA D (nameS pre b logX)).1, l, (remA D (nameS pre b logX)).2) else openS pre bs l (remA D (nameS pre b logX)).2) else
    if (scanA pre l D b).1.2 ≠ 0 then ((scanA pre l D b).1.2, (scanA pre l D b).2) else
    if (scanA pre l D b).1.1 = true then openS pre bs (scanA pre l D b).2.1 (scanA pre l D b).2.2 else ((dropL pre bs (scanA pre l D b).2.2).1, (scanA pre l D b).2.1, (dropL pre bs (scanA pre l D b).2.2).2)
def lopenA (pre : ByteArray) (D : DiskA) : Int × List SegA × DiskA :=
  if (filesL pre (namesF (dashN pre) D.fs) D).1 ≠ 0 then ((filesL pre (namesF (dashN pre) D.fs) D).1, [], (filesL pre (namesF (dashN pre) D.fs) D).2.2) else
    openS pre (filesL pre (namesF (dashN pre) D.fs) D).2.1 [] (filesL pre (namesF (dashN pre) D.fs) D).2.2
theorem dash_eq (pre : ByteArray) : pre ++ ByteArray.mk #[45] = dashN pre := by
  apply bl_ext
  rw [bl_dash]
  unfold bl
  simp
theorem baseN_lt {pre n : ByteArray} {x : List UInt8} {v : Nat} (h : baseN pre n x = some v) : v < 17592186044416 := by
  unfold baseN at h
  split at h
  · have := hexV_lt (k := 0) h (by omega)
    have h2 : 16 ^ (0 + (((bl n).drop ((bl pre).length + 1)).take 11).length) ≤ 16 ^ 11 := Nat.pow_le_pow_right (by omega) (by rw [List.length_take]; omega)
    omega
  · cases h
theorem filesL_lt {pre : ByteArray} : ∀ {ns : List ByteArray} {D : DiskA}, ∀ b ∈ (filesL pre ns D).2.1, 0 ≤ b ∧ b < 17592186044416
  | [], D, b, h => by cases h
  | n :: ns, D, b, h => by
    unfold filesL at h
    split at h
    · cases h
    · simp only at h
      rcases List.mem_append.1 h with h | h
      · cases hb : baseN pre n logX with
        | none => rw [hb] at h; cases h
        | some v =>
          rw [hb] at h
          simp only [List.mem_cons, List.not_mem_nil, or_false] at h
          have := baseN_lt hb
          omega
      · exact filesL_lt b h
theorem filesL_len {pre : ByteArray} : ∀ {ns : List ByteArray} {D : DiskA}, (filesL pre ns D).2.1.length ≤ ns.length
  | [], D => Nat.le_refl _
  | n :: ns, D => by
    unfold filesL
    split
    · exact Nat.zero_le _
    · simp only [List.length_append, List.length_cons]
      have := filesL_len (pre := pre) (ns := ns) (D := if (baseN pre n newX).isSome then (remA D n).2 else D)
      split <;> simp <;> omega
section
variable {w : World} {l r : List HP} {lg : Nat} {M : LogM} {A : LogA} {D : DiskA} {gap : Int} {a : Nat} {t : SegM}
/-- The log's own cells and the rest of it. -/
def lgR (M : LogM) : HP := HP.star (slc T.p_seglog_segment 1 M.z ((M.SM.map Prod.fst).flatMap encP)) (HP.all (M.SM.map fun t => segP M.gap t.1 t.2))
theorem lgQ_cell (hs : Sat w (lgQ lg M :: l)) : okM M.gap M.seg M.pre ∧ Sat w (pt lg (.cells #[.pointer (some ⟨M.d, 0, none⟩), .string M.pre, .int .i64 M.seg, .int .i64 M.gap, .slice M.z.a M.z.len M.z.cap] T.seglog_Log) :: lgR M :: l) := by
  obtain ⟨h, hs⟩ := hs.and
  exact ⟨h, hs.star⟩
theorem lgQ_uncell (M : LogM) (h : okM M.gap M.seg M.pre) (hs : Sat w (pt lg (.cells #[.pointer (some ⟨M.d, 0, none⟩), .string M.pre, .int .i64 M.seg, .int .i64 M.gap, .slice M.z.a M.z.len M.z.cap] T.seglog_Log) :: lgR M :: l)) : Sat w (lgQ lg M :: l) := .and_mk h (.star_mk hs)
theorem files_c {r1 : List HP} [hf : Fo l lgQ lg M r1] [hf2 : Fo r1 dk M.d D r] (hs : Sat w l) :
    Ret P F.seglog_Log_files #[.pointer (some ⟨lg, 0, none⟩)] w fun vs w' =>
      ((filesL M.pre (namesF (dashN M.pre) D.fs) D).1 ≠ 0 ∧ vs = [.slice none 0 0, .int .i64 (filesL M.pre (namesF (dashN M.pre) D.fs) D).1] ∧ Sat w' (lgQ lg M :: dk M.d (filesL M.pre (namesF (dashN M.pre) D.fs) D).2.2 :: r)) ∨
      ((filesL M.pre (namesF (dashN M.pre) D.fs) D).1 = 0 ∧ ∃ z : Sl, vs = [z.v, .int .i64 0] ∧ Sat w' (slc T.int64 1 z ((filesL M.pre (namesF (dashN M.pre) D.fs) D).2.1.flatMap encI) :: lgQ lg M :: dk M.d (filesL M.pre (namesF (dashN M.pre) D.fs) D).2.2 :: r)) :=
  seglog_Log_files_calls _ <| by
    unfold seglog_Log_files
    have hs := hs.perm (hf.perm.trans (.cons _ hf2.perm))
    clear hf hf2
    obtain ⟨hokm, hs⟩ := lgQ_cell hs
    have hsz := hokm.size
    refine wp_tk hs fun w' hs => ?_
    refine wp_nn ?_
    refine wp_ldO hs ?_
    refine wp_nn ?_
    refine wp_ldO hs ?_
    refine wp_must (by omega) ?_
    rw [dash_eq]
    obtain ⟨m_, FS_, -, hokD, -⟩ := dk_open (hs.pick [2])
    have hok24 : ∀ n ∈ namesF (dashN M.pre) D.fs, n.size ≤ 24 := fun n hn => by
      unfold namesF at hn
      obtain ⟨f, hf, rfl⟩ := List.mem_map.1 (List.mem_filter.1 hn).1
      exact hokD.names f hf
    have hnl : (namesF (dashN M.pre) D.fs).length ≤ 128 := by
      unfold namesF
      exact Nat.le_trans (List.length_filter_le _ _) (by rw [List.length_map]; exact hokD.many)
    refine wp_call (names_c (d := M.d) (A := D) (dashN M.pre) hs) fun _ w' hs => ?_
    obtain ⟨x, rfl, hs⟩ := hs
    refine ret_of ?_
    refine wp_untick ?_
    generalize namesF (dashN M.pre) D.fs = ns at *
    have hl := hs.slen x (xs := ns) (enc := encT)
    refine wp_mid (fun q w' => ∃ z : Sl, q = (z, ()) ∧ (filesL M.pre ns D).1 = 0 ∧ Sat w' (slc T.int64 1 z ((filesL M.pre ns D).2.1.flatMap encI) :: lgQ lg M :: dk M.d (filesL M.pre ns D).2.2 :: r)) ?_ ?_
    rotate_left
    · rintro _ w2 ⟨z, rfl, h1, hs⟩
      exact ⟨rfl, .inr ⟨h1, z, rfl, hs⟩⟩
    have hs : Sat w' (slc T.int64 1 ⟨none, 0, 0⟩ (([] : List Int).flatMap encI) :: dk M.d D :: pt lg (.cells #[.pointer (some ⟨M.d, 0, none⟩), .string M.pre, .int .i64 M.seg, .int .i64 M.gap, .slice M.z.a M.z.len M.z.cap] T.seglog_Log) :: lgR M :: slc T.string 1 x (ns.flatMap encT) :: r) := by
      have h1 : Sat w' (slc T.int64 1 ⟨none, 0, 0⟩ (([] : List Int).flatMap encI) :: _) := hs.slc_nil
      exact h1.sub
    refine wp_loop (fun m v w => ∃ (i : Nat) (z : Sl) (done : List Int) (D' : DiskA), v = (z, ((i : Int), ())) ∧ i ≤ ns.length ∧ ns.length - i = m ∧ done.length ≤ i ∧
      ((filesL M.pre ns D).1 = (filesL M.pre (ns.drop i) D').1 ∧ (filesL M.pre ns D).2.2 = (filesL M.pre (ns.drop i) D').2.2 ∧ ((filesL M.pre (ns.drop i) D').1 = 0 → (filesL M.pre ns D).2.1 = done ++ (filesL M.pre (ns.drop i) D').2.1)) ∧
      Sat w (slc T.int64 1 z (done.flatMap encI) :: dk M.d D' :: pt lg (.cells #[.pointer (some ⟨M.d, 0, none⟩), .string M.pre, .int .i64 M.seg, .int .i64 M.gap, .slice M.z.a M.z.len M.z.cap] T.seglog_Log) :: lgR M :: slc T.string 1 x (ns.flatMap encT) :: r)) ns.length
      ⟨0, ⟨none, 0, 0⟩, [], D, rfl, by omega, rfl, by simp, ⟨rfl, rfl, fun _ => rfl⟩, hs⟩ ?_
    clear hs
    rintro m _ w ⟨i, z, done, D', rfl, hi, hm, hdl, ⟨hq1, hq2, hq3⟩, hs⟩
    refine wp_on ?_
    refine wp_if (fun hc => ?_) fun hc => ?_
    rotate_left
    · have e : ns.drop i = [] := List.drop_eq_nil_of_le (by omega)
      rw [e] at hq1 hq2 hq3
      have hq3 := hq3 rfl
      have e2 : (filesL M.pre [] D').2.1 = [] := rfl
      rw [e2, List.append_nil] at hq3
      refine wp_pass (wp_lv ⟨z, rfl, hq1, ?_⟩)
      have e3 : (filesL M.pre [] D').2.2 = D' := rfl
      rw [hq2, hq3, e3]
      have hs := lgQ_uncell M hokm (hs.pick [2, 2])
      exact hs.sub
    have hil : i < ns.length := by omega
    have hdrop : ns.drop i = ns[i] :: ns.drop (i + 1) := List.drop_eq_getElem_cons hil
    rw [hdrop] at hq1 hq2 hq3
    have hn24 := hok24 ns[i] (List.getElem_mem hil)
    refine wp_ix1 hs (xs := ns) (enc := encT) i hil ?_
    refine wp_lt ?_
    refine wp_call (base_c0 (lg := lg) ns[i] (ByteArray.mk #[46, 108, 111, 103]) (by omega) (by decide) M.pre hsz hs) fun _ w' hs => ?_
    obtain ⟨rfl, hs⟩ := hs
    refine ret_of ?_
    refine wp_lt ?_
    refine wp_lt ?_
    have eb : baseN M.pre ns[i] (bl (ByteArray.mk #[46, 108, 111, 103])) = baseN M.pre ns[i] logX := rfl
    rw [eb]
    refine wp_mid (fun q w' => ∃ z' : Sl, q = (z', ()) ∧ Sat w' (slc T.int64 1 z' ((done ++ (match baseN M.pre ns[i] logX with | some b => [(b : Int)] | none => [])).flatMap encI) :: dk M.d D' :: pt lg (.cells #[.pointer (some ⟨M.d, 0, none⟩), .string M.pre, .int .i64 M.seg, .int .i64 M.gap, .slice M.z.a M.z.len M.z.cap] T.seglog_Log) :: lgR M :: slc T.string 1 x (ns.flatMap encT) :: r)) ?_ ?_
    · cases hb : baseN M.pre ns[i] logX with
      | none =>
        refine wp_ifF ?_ (by simp)
        refine wp_lv ⟨z, rfl, ?_⟩
        rw [List.append_nil]
        exact hs
      | some b =>
        refine wp_ifT ?_ (by rfl)
        refine wp_ap0 (xs := done) (enc := encI) (y := (b : Int)) hs (fun z' w' hs => ?_) rfl (by omega)
        exact wp_lv ⟨z', rfl, hs⟩
    rintro _ w2 ⟨z', rfl, hs⟩
    have hdl2 : (done ++ (match baseN M.pre ns[i] logX with | some b => [(b : Int)] | none => [])).length ≤ i + 1 := by
      rw [List.length_append]
      split <;> simp <;> omega
    refine wp_call (base_c0 (lg := lg) ns[i] (ByteArray.mk #[46, 110, 101, 119]) (by omega) (by decide) M.pre hsz hs) fun _ w' hs => ?_
    obtain ⟨rfl, hs⟩ := hs
    refine ret_of ?_
    refine wp_lt ?_
    refine wp_lt ?_
    have eb2 : baseN M.pre ns[i] (bl (ByteArray.mk #[46, 110, 101, 119])) = baseN M.pre ns[i] newX := rfl
    rw [eb2]
    have hun : filesL M.pre (ns[i] :: ns.drop (i + 1)) D' = if (baseN M.pre ns[i] newX).isSome = true ∧ (remA D' ns[i]).1 ≠ 0 then ((remA D' ns[i]).1, [], (remA D' ns[i]).2) else
      ((filesL M.pre (ns.drop (i + 1)) (if (baseN M.pre ns[i] newX).isSome then (remA D' ns[i]).2 else D')).1, (match baseN M.pre ns[i] logX with | some b => [(b : Int)] | none => []) ++ (filesL M.pre (ns.drop (i + 1)) (if (baseN M.pre ns[i] newX).isSome then (remA D' ns[i]).2 else D')).2.1, (filesL M.pre (ns.drop (i + 1)) (if (baseN M.pre ns[i] newX).isSome then (remA D' ns[i]).2 else D')).2.2) := rfl
    refine wp_mid (fun q w' => ¬ ((baseN M.pre ns[i] newX).isSome = true ∧ (remA D' ns[i]).1 ≠ 0) ∧ Sat w' (slc T.int64 1 z' ((done ++ (match baseN M.pre ns[i] logX with | some b => [(b : Int)] | none => [])).flatMap encI) :: dk M.d (if (baseN M.pre ns[i] newX).isSome then (remA D' ns[i]).2 else D') :: pt lg (.cells #[.pointer (some ⟨M.d, 0, none⟩), .string M.pre, .int .i64 M.seg, .int .i64 M.gap, .slice M.z.a M.z.len M.z.cap] T.seglog_Log) :: lgR M :: slc T.string 1 x (ns.flatMap encT) :: r)) ?_ ?_
    · refine wp_if (fun h => ?_) fun h => ?_
      rotate_left
      · refine wp_lv ⟨fun hh => h hh.1, ?_⟩
        rw [if_neg h]
        exact hs
      refine wp_nn ?_
      refine wp_ldO hs ?_
      refine wp_call (remove_c (d := M.d) (A := D') ns[i] hs) fun _ w' hs => ?_
      obtain ⟨rfl, hs⟩ := hs
      refine ret_of ?_
      refine wp_lt ?_
      refine wp_if (fun h2 => ?_) fun h2 => ?_
      · refine wp_lt ?_
        rw [if_pos ⟨h, h2⟩] at hun
        rw [hun] at hq1 hq2
        have hs := lgQ_uncell M hokm (hs.pick [2, 2])
        refine wp_pass (wp_pass (wp_pass ⟨rfl, .inl ⟨by rw [hq1]; exact h2, by rw [hq1], ?_⟩⟩))
        rw [hq2]
        exact hs.sub
      · refine wp_lv ⟨fun hh => h2 hh.2, ?_⟩
        rw [if_pos h]
        exact hs.sub
    rintro _ w3 ⟨hno, hs⟩
    rw [if_neg hno] at hun
    rw [hun] at hq1 hq2 hq3
    refine wp_on ?_
    rw [show IntKind.wrap .i64 ((i : Int) + 1) = ((i + 1 : Nat) : Int) by rw [w64 (by omega) (by omega)]; omega]
    refine wp_lp (ns.length - (i + 1)) ⟨i + 1, z', done ++ (match baseN M.pre ns[i] logX with | some b => [(b : Int)] | none => []), _, rfl, by omega, rfl, hdl2, ⟨hq1, hq2, fun h => ?_⟩, hs⟩
    rw [hq3 h, List.append_assoc]
theorem drop_c6 (x : Sl) (bs : List Int) (hb : ∀ b ∈ bs, 0 ≤ b ∧ b < 17592186044416) {r1 : List HP} [hf : Fo l lgQ lg M r1] [hf2 : Fo r1 dk M.d D r] (hx : FocR r x 1 (bs.flatMap encI)) (hlen : bs.length ≤ 1000000) (hs : Sat w l) :
    Ret P F.seglog_Log_drop #[.pointer (some ⟨lg, 0, none⟩), x.v] w fun vs w' => vs = [.int .i64 (dropL M.pre bs D).1] ∧ Sat w' (lgQ lg M :: dk M.d (dropL M.pre bs D).2 :: r) :=
  seglog_Log_drop_calls _ x <| by
    unfold seglog_Log_drop
    have hs := hs.perm (hf.perm.trans (.cons _ hf2.perm))
    clear hf hf2
    obtain ⟨hokm, hs⟩ := lgQ_cell hs
    have hsz := hokm.size
    have hl := hs.slen x (xs := bs) (enc := encI)
    refine wp_mid (fun _ w' => (dropL M.pre bs D).1 = 0 ∧ Sat w' (lgQ lg M :: dk M.d (dropL M.pre bs D).2 :: r)) ?_ ?_
    rotate_left
    · rintro _ w2 ⟨h1, hs⟩
      rw [h1]
      exact ⟨rfl, rfl, hs⟩
    refine wp_loop (fun m v w => ∃ (i : Nat) (D' : DiskA), v = ((i : Int), ()) ∧ i ≤ bs.length ∧ bs.length - i = m ∧ dropL M.pre bs D = dropL M.pre (bs.drop i) D' ∧
      Sat w (pt lg (.cells #[.pointer (some ⟨M.d, 0, none⟩), .string M.pre, .int .i64 M.seg, .int .i64 M.gap, .slice M.z.a M.z.len M.z.cap] T.seglog_Log) :: lgR M :: dk M.d D' :: r)) bs.length ⟨0, D, rfl, by omega, rfl, rfl, hs⟩ ?_
    clear hs
    rintro m _ w ⟨i, D', rfl, hi, hm, hq, hs⟩
    refine wp_on ?_
    refine wp_if (fun hc => ?_) fun hc => ?_
    rotate_left
    · have e : bs.drop i = [] := List.drop_eq_nil_of_le (by omega)
      rw [e] at hq
      refine wp_pass (wp_lv ⟨by rw [hq]; rfl, ?_⟩)
      rw [hq]
      exact lgQ_uncell M hokm hs
    have hil : i < bs.length := by omega
    rw [List.drop_eq_getElem_cons hil] at hq
    have hbb := hb bs[i] (List.getElem_mem hil)
    refine wp_ix1 hs (xs := bs) (enc := encI) i hil ?_
    refine wp_lt ?_
    have hun : dropL M.pre (bs[i] :: bs.drop (i + 1)) D' = if (remA D' (nameS M.pre bs[i] logX)).1 ≠ 0 then remA D' (nameS M.pre bs[i] logX) else dropL M.pre (bs.drop (i + 1)) (remA D' (nameS M.pre bs[i] logX)).2 := rfl
    refine wp_mid (fun v w' => v = ((remA D' (nameS M.pre bs[i] logX)).1, ()) ∧ Sat w' (pt lg (.cells #[.pointer (some ⟨M.d, 0, none⟩), .string M.pre, .int .i64 M.seg, .int .i64 M.gap, .slice M.z.a M.z.len M.z.cap] T.seglog_Log) :: lgR M :: dk M.d (remA D' (nameS M.pre bs[i] logX)).2 :: r)) ?_ ?_
    · refine wp_tk hs fun w' hs => ?_
      refine wp_nn ?_
      refine wp_hdO hs ?_
      refine wp_call (name_c0 (lg := lg) bs[i] hbb (ByteArray.mk #[46, 108, 111, 103]) (by decide) M.pre hsz hs) fun _ w' hs => ?_
      obtain ⟨rfl, hs⟩ := hs
      refine ret_of ?_ (by first | trivial | (repeat (first | exact trivial | exact fun _ => run_ldO hs | exact fun _ => run_ldG hs | refine And.intro ?_ ?_)))
      refine wp_untick ?_
      refine wp_call (remove_c (d := M.d) (A := D') (nameS M.pre bs[i] (bl (ByteArray.mk #[46, 108, 111, 103]))) hs) fun _ w' hs => ?_
      obtain ⟨rfl, hs⟩ := hs
      refine ret_of ?_
      refine wp_lt ?_
      refine wp_untick ?_
      have hs : Sat w' (dk M.d (remA D' (nameS M.pre bs[i] logX)).2 :: _) := hs
      exact wp_lv ⟨rfl, hs.sub⟩
    rintro _ w2 ⟨rfl, hs⟩
    refine wp_if (fun h => ?_) fun h => ?_
    · refine wp_lt ?_
      rw [if_pos h] at hun
      rw [hun] at hq
      rw [hq]
      exact wp_pass (wp_pass ⟨rfl, rfl, lgQ_uncell M hokm hs⟩)
    · rw [if_neg h] at hun
      rw [hun] at hq
      rw [show IntKind.wrap .i64 ((i : Int) + 1) = ((i + 1 : Nat) : Int) by rw [w64 (by omega) (by omega)]; omega]
      exact wp_lp (bs.length - (i + 1)) ⟨i + 1, _, rfl, by omega, rfl, hq, hs⟩
end
end Go.Dec
namespace Go.Dec
set_option linter.unusedVariables false
set_option linter.unusedSimpArgs false
theorem takeF_succ (k : Nat) (n : Int) (raw : List UInt8) : takeF (k + 1) n raw = match firstL raw with
    | none => ([], 0)
    | some (body, m) => match decS body with
      | none => ([], 0)
      | some b => if b.base < n then ([], 0) else (b :: (takeF k (b.base + spanB b) (raw.drop m)).1, m + (takeF k (b.base + spanB b) (raw.drop m)).2) := rfl
theorem used_file {fs : List FileA} {n : ByteArray} {p : List UInt8 × Nat} (h : fileD fs n = some p) : p.1.length ≤ used fs := used_mem (fileD_some h)
section
variable {w : World} {l r : List HP} {lg : Nat} {M : LogM} {A : LogA} {D : DiskA} {gap : Int} {a : Nat} {t : SegM}
theorem take_raw (b : BatM) (z : Sl) (hv : validB b = 0) (hp : b.p = b) [hf : Fo l (segP gap) a t r] [hb : FocR r z 4 (b.rs.flatMap encR)] (hlen : t.s.file.length + (frL b).length ≤ 1000000000) (hs : Sat w l) :
    Ret P F.seglog_segment_take #[.pointer (some ⟨a, 0, none⟩), .agg (encB7 (b.at z)).toArray, .int .i64 ((frL b).length : Nat)] w fun vs w' => vs = [] ∧ Sat w' (segP gap a ⟨t.ix, t.s.add [b]⟩ :: r) := by
  have hb' : FocR r (b.at z).x 4 ((b.at z).rs.flatMap encR) := hb
  have h := take_c (gap := gap) (a := a) (b.at z) hv hlen hs
  have e : t.s.add [b.at z] = t.s.add [b] := by
    unfold SegA.add
    have : (b.at z).p = b.p := rfl
    simp only [List.map_cons, List.map_nil, this]
  rw [e] at h
  exact h
set_option maxHeartbeats 1000000 in
theorem scan_c (base : Int) (hb : 0 ≤ base ∧ base < 17592186044416) {r1 : List HP} [hf : Fo l lgQ lg M r1] [hf2 : Fo r1 dk M.d D r] (hlen : M.SM.length ≤ 1000000) (hs : Sat w l) :
    Ret P F.seglog_Log_scan #[.pointer (some ⟨lg, 0, none⟩), .int .i64 base] w fun vs w' => vs = [.bool (scanA M.pre M.l D base).1.1, .int .i64 (scanA M.pre M.l D base).1.2] ∧
      ∃ M' : LogM, (M'.d = M.d ∧ M'.pre = M.pre ∧ M'.seg = M.seg ∧ M'.gap = M.gap) ∧ M'.l = (scanA M.pre M.l D base).2.1 ∧ M'.SM.length ≤ M.SM.length + 1 ∧ Sat w' (lgQ lg M' :: dk M.d (scanA M.pre M.l D base).2.2 :: r) :=
  seglog_Log_scan_calls _ base <| by
    unfold seglog_Log_scan
    have hs := hs.perm (hf.perm.trans (.cons _ hf2.perm))
    clear hf hf2
    obtain ⟨hokm, hs⟩ := lgQ_cell hs
    have hsz := hokm.size
    obtain ⟨m_, FS_, -, hokD, -⟩ := dk_open (hs.pick [2])
    refine wp_call (name_c0 (lg := lg) base hb (ByteArray.mk #[46, 108, 111, 103]) (by decide) M.pre hsz hs) fun _ w' hs => ?_
    obtain ⟨rfl, hs⟩ := hs
    refine ret_of ?_
    have en : nameS M.pre base (bl (ByteArray.mk #[46, 108, 111, 103])) = nameS M.pre base logX := rfl
    rw [en]
    generalize hnm : nameS M.pre base logX = nm at *
    refine wp_lt ?_
    refine wp_nn ?_
    refine wp_ldO hs ?_
    have hsame : ∀ {w : World} {D' : DiskA}, Sat w (pt lg (.cells #[.pointer (some ⟨M.d, 0, none⟩), .string M.pre, .int .i64 M.seg, .int .i64 M.gap, .slice M.z.a M.z.len M.z.cap] T.seglog_Log) :: lgR M :: dk M.d D' :: r) → ∃ M' : LogM, (M'.d = M.d ∧ M'.pre = M.pre ∧ M'.seg = M.seg ∧ M'.gap = M.gap) ∧ M'.l = M.l ∧ M'.SM.length ≤ M.SM.length + 1 ∧ Sat w (lgQ lg M' :: dk M.d D' :: r) := fun hs => ⟨M, ⟨rfl, rfl, rfl, rfl⟩, rfl, by omega, lgQ_uncell M hokm hs⟩
    unfold scanA
    rw [hnm]
    refine wp_call (read_c (d := M.d) (A := D) nm hs) fun _ w' hs => ?_
    rcases hs with ⟨f, hff, hfn, x, rfl, hs⟩ | ⟨hno, rfl, hs⟩
    rotate_left
    · refine ret_of ?_
      refine wp_lt ?_
      refine wp_ifT ?_ (by decide)
      refine wp_lt ?_
      rw [fileD_none.2 hno]
      exact ⟨rfl, rfl, hsame hs.sub⟩
    refine ret_of ?_
    refine wp_lt ?_
    refine wp_ifF ?_ (by simp)
    have hfd : fileD D.fs nm = some (f.b, f.kept) := by rw [← hfn]; exact fileD_mem (names_nodup hokD.sorted) hff
    have hrl : f.b.length ≤ 4194304 := Nat.le_trans (used_mem hff) hokD.used
    rw [hfd]
    simp only
    generalize f.b = raw at *
    have hl := hs.slen x (xs := raw) (enc := encU)
    have hcap := hs.slc_cap
    refine wp_call (ffirst_c x raw hcap (by omega) hs) fun _ w' hs => ?_
    obtain ⟨y, rfl, hs⟩ := hs
    refine ret_of ?_
    refine wp_lt ?_
    refine wp_lt ?_
    refine wp_mid (fun q w' => ∃ v : Int, q = (v, (scanL base raw).isSome, ()) ∧ (∀ s, scanL base raw = some s → v = s.1.fin) ∧ Sat w' (slc T.uint8 1 x (raw.flatMap encU) :: pt lg (.cells #[.pointer (some ⟨M.d, 0, none⟩), .string M.pre, .int .i64 M.seg, .int .i64 M.gap, .slice M.z.a M.z.len M.z.cap] T.seglog_Log) :: lgR M :: dk M.d D :: r)) ?_ ?_
    · cases hfr : firstL raw with
      | none =>
        rw [hfr] at hs
        have e : scanL base raw = none := by unfold scanL; rw [hfr]
        rw [e]
        refine wp_ifF ?_ (by simp)
        exact wp_lv ⟨0, rfl, (fun s h => by cases h), hs.sub⟩
      | some q =>
        obtain ⟨body, m⟩ := q
        rw [hfr] at hs
        have hs : Sat w' (slc T.uint8 1 y (body.flatMap encU) :: _) := hs
        obtain ⟨-, -, hbd, -⟩ := first_inv hfr
        refine wp_ifT ?_ (by rfl)
        refine wp_call (headed_c y body base (by omega) (by omega) hs) fun _ w' hs => ?_
        obtain ⟨v, rfl, hv, hs⟩ := hs
        refine ret_of ?_
        refine wp_lt ?_
        refine wp_lt ?_
        have e : scanL base raw = match headS base body with
            | none => none
            | some fin => some (⟨base, fin, (takeF raw.length base (raw.drop m)).1⟩, m + (takeF raw.length base (raw.drop m)).2) := by simp only [scanL, hfr]; cases headS base body <;> rfl
        rw [e]
        cases hh : headS base body with
        | none => exact wp_lv ⟨v, rfl, (fun s h => by cases h), hs.sub⟩
        | some fin =>
          have := hv fin hh
          subst this
          exact wp_lv ⟨v, rfl, (fun s h => by simp only [Option.some.injEq] at h; subst h; rfl), hs.sub⟩
    rintro _ w2 ⟨v, rfl, hv, hs⟩
    cases hsc : scanL base raw with
    | none =>
      refine wp_ifT ?_ (by simp)
      refine wp_nn ?_
      refine wp_ldO hs ?_
      refine wp_call (remove_c (d := M.d) (A := D) nm hs) fun _ w' hs => ?_
      obtain ⟨rfl, hs⟩ := hs
      refine ret_of ?_
      refine wp_lt ?_
      exact ⟨rfl, rfl, hsame hs.sub⟩
    | some q =>
      obtain ⟨s, mm⟩ := q
      dsimp only
      have hv := hv _ hsc
      have hv : v = s.fin := hv
      subst hv
      obtain ⟨hsok, hsb, hst, hsm, hsml⟩ := scan_inv hsc
      refine wp_ifF ?_ (by simp)
      obtain ⟨m0, hm0, htk⟩ : ∃ m0, ((firstL raw).getD ([], 0)).2 = m0 ∧ m0 ≤ raw.length ∧ m0 = (shL s.base s.fin).length ∧ s.bs = (takeF raw.length base (raw.drop m0)).1 ∧ mm = m0 + (takeF raw.length base (raw.drop m0)).2 := by
        unfold scanL at hsc
        cases hfr : firstL raw with
        | none => rw [hfr] at hsc; cases hsc
        | some q =>
          obtain ⟨body, m⟩ := q
          rw [hfr] at hsc
          simp only at hsc
          cases hh : headS base body with
          | none => rw [hh] at hsc; cases hsc
          | some fin =>
            rw [hh] at hsc
            simp only [Option.some.injEq, Prod.mk.injEq] at hsc
            obtain ⟨e1, e2⟩ := hsc
            obtain ⟨f1, f2, f3, f4⟩ := first_inv hfr
            obtain ⟨-, -, hb3⟩ := headS_inv hh
            refine ⟨m, rfl, f2, ?_, by rw [← e1], e2.symm⟩
            rw [← e1]
            show m = (shL base fin).length
            unfold shL
            rw [seal_len (by have := shB_len base fin; omega), ← hb3, f1]
      obtain ⟨h1, h2, h3, h4⟩ := htk
      rw [hm0]
      have hbase0 := hsok.base
      have hfin0 : 0 ≤ s.fin ∧ s.fin < 9223372036854775808 := by have := hsok.fin; omega
      have hs := lgQ_uncell M hokm (hs.pick [1, 1])
      refine wp_call (newseg_c (lg := lg) base s.fin (by omega) hfin0 hs) fun _ w' hs => ?_
      obtain ⟨a, ix, rfl, hs⟩ := hs
      refine ret_of ?_
      refine wp_lt ?_
      -- the batches
      refine wp_mid (fun q w' => q = ((mm : Int), ()) ∧ Sat w' (segP M.gap a ⟨ix, s⟩ :: lgQ lg M :: slc T.uint8 1 x (raw.flatMap encU) :: dk M.d D :: r)) ?_ ?_
      · refine wp_loop (fun k q w => ∃ (at_ : Nat) (n : Int) (done : List BatM), q = ((at_ : Int), (n, ())) ∧ at_ ≤ raw.length ∧ raw.length - at_ ≤ k ∧
          s.bs = done ++ (takeF k n (raw.drop at_)).1 ∧ mm = at_ + (takeF k n (raw.drop at_)).2 ∧ at_ = ((⟨base, s.fin, []⟩ : SegA).add done).file.length ∧
          Sat w (segP M.gap a ⟨ix, (⟨base, s.fin, []⟩ : SegA).add done⟩ :: lgQ lg M :: slc T.uint8 1 x (raw.flatMap encU) :: dk M.d D :: r)) raw.length
          ⟨m0, base, [], rfl, h1, by omega, by rw [List.nil_append]; exact h3, h4, by rw [add_nil, file_len]; simp only [List.flatMap_nil, List.length_nil]; rw [h2, hsb]; omega, by rw [add_nil]; exact hs⟩ ?_
        clear hs
        rintro k _ w ⟨at_, n, done, rfl, ha1, ha2, ha3, ha4, ha5, hs⟩
        have hend : takeF k n (raw.drop at_) = ([], 0) → ∀ {w : World}, Sat w (segP M.gap a ⟨ix, (⟨base, s.fin, []⟩ : SegA).add done⟩ :: lgQ lg M :: slc T.uint8 1 x (raw.flatMap encU) :: dk M.d D :: r) → at_ = mm ∧ Sat w (segP M.gap a ⟨ix, s⟩ :: lgQ lg M :: slc T.uint8 1 x (raw.flatMap encU) :: dk M.d D :: r) := by
          intro he w hs
          rw [he] at ha3 ha4
          simp only [List.append_nil] at ha3
          have hpp : done.map BatM.p = done := by
            rw [List.map_congr_left (g := id) fun b hb => ((hsok.bs.valid b (by rw [ha3]; exact hb)).2), List.map_id]
          have es : (⟨base, s.fin, []⟩ : SegA).add done = s := by
            unfold SegA.add
            rw [hpp, ← ha3, ← hsb]
            rfl
          rw [es] at hs
          exact ⟨ha4.symm, hs⟩
        refine wp_on ?_
        refine wp_must (by omega) ?_
        rw [Int.toNat_natCast]
        have hxc : FocR (segP M.gap a ⟨ix, (⟨base, s.fin, []⟩ : SegA).add done⟩ :: lgQ lg M :: slc T.uint8 1 x (raw.flatMap encU) :: dk M.d D :: r) ⟨cutA x.a 1 at_ x.cap, x.len - at_, x.cap - at_⟩ 1 ((raw.drop at_).flatMap encU) := FocR.post hcap
        refine wp_call (ffirst_c ⟨cutA x.a 1 at_ x.cap, x.len - at_, x.cap - at_⟩ (raw.drop at_) (by show x.len - at_ ≤ x.cap - at_; omega) (by rw [List.length_drop]; omega) hs) fun _ w' hs => ?_
        obtain ⟨y, rfl, hs⟩ := hs
        refine ret_of ?_
        refine wp_lt ?_
        refine wp_lt ?_
        cases hfr : firstL (raw.drop at_) with
        | none =>
          rw [hfr] at hs
          refine wp_ifT ?_ (by simp)
          have he : takeF k n (raw.drop at_) = ([], 0) := by
            cases k with
            | zero => rfl
            | succ k => rw [takeF_succ, hfr]
          obtain ⟨e1, hs⟩ := hend he hs.tail
          refine wp_pass (wp_lv ⟨by rw [e1], hs⟩)
        | some q =>
          obtain ⟨body, m⟩ := q
          rw [hfr] at hs
          have hs : Sat w' (slc T.uint8 1 y (body.flatMap encU) :: _) := hs
          obtain ⟨f1, f2, hbd, f4⟩ := first_inv hfr
          rw [List.length_drop] at f2
          dsimp only [Option.getD, Option.isSome]
          refine wp_ifF ?_ (by simp)
          obtain ⟨k, rfl⟩ : ∃ k', k = k' + 1 := ⟨k - 1, by omega⟩
          rw [takeF_succ, hfr] at ha3 ha4 hend
          refine wp_call (decode_c y body (by omega) hs) fun _ w' hs => ?_
          rcases hs with ⟨b, z, hdec, rfl, hs⟩ | ⟨hdec, rfl, hs⟩
          rotate_left
          · refine ⟨(0, 0, 0, 0, 0, 0, noSl, 6, ()), rfl, trivial, wp_u8 _ _ _ _ _ _ _ _ ?_⟩
            refine wp_newO hs fun c w' hs => ?_
            refine wp_stG hs fun w' hs => ?_
            refine wp_lt ?_
            refine wp_ldO hs ?_
            refine wp_ifT ?_ (.inl (by decide))
            obtain ⟨e1, hs⟩ := hend (by simp only [hdec]) hs.tail.tail
            exact wp_pass (wp_lv ⟨by show ((at_ : Int), ()) = _; rw [e1], hs⟩)
          · obtain ⟨d1, d2, d3⟩ := decS_inv hdec
            have hfrb : (frL b).length = m := by rw [(frL_len d1).2, d2, f1]
            refine ⟨(b.base, b.pid, b.epoch, b.seq, b.kind, b.time, z, 0, ()), rfl, trivial, wp_u8 _ _ _ _ _ _ _ _ ?_⟩
            refine wp_newO hs fun c w' hs => ?_
            refine wp_stG hs fun w' hs => ?_
            refine wp_lt ?_
            refine wp_ldO hs ?_
            simp only [hdec] at ha3 ha4 hend
            refine wp_if (fun hc => ?_) fun hc => ?_
            · have hc : b.base < n := by
                rcases hc with hc | hc
                · exact absurd rfl hc
                · exact hc
              obtain ⟨e1, hs⟩ := hend (by rw [if_pos hc]) hs.tail.tail.tail
              exact wp_pass (wp_lv ⟨by show ((at_ : Int), ()) = _; rw [e1], hs⟩)
            have hc : ¬ b.base < n := fun h => hc (.inr h)
            rw [if_neg hc] at ha3 ha4
            simp only at ha3 ha4
            refine wp_ldG hs ?_
            have hz : FocR (pt c (.cells #[.int .i64 b.base, .int .i64 b.pid, .int .i64 b.epoch, .int .i64 b.seq, .int .i64 b.kind, .int .i64 b.time, .slice z.a z.len z.cap] T.api_Batch) :: slc T.api_Record 4 z (b.rs.flatMap encR) :: slc T.uint8 1 y (body.flatMap encU) :: lgQ lg M :: slc T.uint8 1 x (raw.flatMap encU) :: dk M.d D :: r) z 4 (b.rs.flatMap encR) := inferInstance
            have hs : Sat w' (pt c (.cells #[.int .i64 b.base, .int .i64 b.pid, .int .i64 b.epoch, .int .i64 b.seq, .int .i64 b.kind, .int .i64 b.time, .slice z.a z.len z.cap] T.api_Batch) :: slc T.api_Record 4 z (b.rs.flatMap encR) :: slc T.uint8 1 y (body.flatMap encU) :: segP M.gap a ⟨ix, (⟨base, s.fin, []⟩ : SegA).add done⟩ :: lgQ lg M :: slc T.uint8 1 x (raw.flatMap encU) :: dk M.d D :: r) := hs
            have hml : ((m : Nat) : Int) = ((frL b).length : Nat) := by rw [hfrb]
            show (Prog.call F.seglog_segment_take [_, .agg _, .int .i64 ((m : Nat) : Int)] _ _).wp P _ _ _
            rw [hml]
            refine wp_call (take_raw (gap := M.gap) (a := a) (t := ⟨ix, (⟨base, s.fin, []⟩ : SegA).add done⟩) b z d1 d3 (by show ((⟨base, s.fin, []⟩ : SegA).add done).file.length + _ ≤ _; rw [← ha5]; omega) hs) fun _ w' hs => ?_
            obtain ⟨rfl, hs⟩ := hs
            refine ret_of ?_
            have e6 : ((⟨base, s.fin, []⟩ : SegA).add done).add [b] = (⟨base, s.fin, []⟩ : SegA).add (done ++ [b]) := add_add _ _ _
            have hs : Sat w' (segP M.gap a ⟨ix, ((⟨base, s.fin, []⟩ : SegA).add done).add [b]⟩ :: _) := hs
            rw [e6] at hs
            have hs := seg_open hs
            refine wp_nn ?_
            refine wp_ldO hs ?_
            refine wp_lt ?_
            rw [w64 (by omega) (by omega)]
            refine wp_lt ?_
            have en2 : nextG ((⟨base, s.fin, []⟩ : SegA).add (done ++ [b])).bs = b.base + spanB b := by
              show nextG ([] ++ (done ++ [b]).map BatM.p) = _
              rw [List.nil_append, List.map_append]
              exact nextG_snoc _ _
            rw [show nextG (SegM.s ⟨ix, (⟨base, s.fin, []⟩ : SegA).add (done ++ [b])⟩).bs = b.base + spanB b from en2]
            have hs := seg_close ⟨ix, (⟨base, s.fin, []⟩ : SegA).add (done ++ [b])⟩ hs
            have ec : (at_ : Int) + ((frL b).length : Nat) = ((at_ + m : Nat) : Int) := by rw [hfrb]; omega
            rw [ec]
            refine wp_lp k ⟨at_ + m, b.base + spanB b, done ++ [b], rfl, by omega, by omega, ?_, ?_, ?_, hs.sub⟩
            · rw [ha3, List.append_assoc, List.drop_drop]; rfl
            · rw [ha4, List.drop_drop]; omega
            · rw [← e6, file_add, List.length_append, ← ha5]
              simp only [List.flatMap_cons, List.flatMap_nil, List.append_nil]
              omega
      clear hs
      rintro _ w3 ⟨rfl, hs⟩
      refine wp_on ?_
      have hs := hs.pick [1]
      refine wp_call (put_c (lg := lg) a ⟨ix, s⟩ (by omega) hs) fun _ w' hs => ?_
      obtain ⟨z, rfl, hs⟩ := hs
      refine ret_of ?_
      have hfin2 : ∀ {w : World} {D' : DiskA}, Sat w (lgQ lg { M with z := z, SM := M.SM ++ [(a, ⟨ix, s⟩)] } :: dk M.d D' :: r) → ∃ M' : LogM, (M'.d = M.d ∧ M'.pre = M.pre ∧ M'.seg = M.seg ∧ M'.gap = M.gap) ∧ M'.l = M.l ++ [s] ∧ M'.SM.length ≤ M.SM.length + 1 ∧ Sat w (lgQ lg M' :: dk M.d D' :: r) := fun hs =>
        ⟨{ M with z := z, SM := M.SM ++ [(a, ⟨ix, s⟩)] }, ⟨rfl, rfl, rfl, rfl⟩, by unfold LogM.l; simp, by simp, hs⟩
      refine wp_if (fun hc => ?_) fun hc => ?_
      · have hc : mm = raw.length := by omega
        rw [if_pos hc]
        exact ⟨rfl, rfl, hfin2 hs.sub⟩
      · rw [if_neg (show ¬ mm = raw.length by omega)]
        refine wp_nn ?_
        obtain ⟨hokm2, hs⟩ := lgQ_cell hs
        refine wp_ldO hs ?_
        refine wp_call (cut_c (d := M.d) (A := D) nm ((mm : Nat) : Int) hs) fun _ w' hs => ?_
        obtain ⟨rfl, hs⟩ := hs
        refine ret_of ?_
        refine wp_lt ?_
        have hs := lgQ_uncell { M with z := z, SM := M.SM ++ [(a, ⟨ix, s⟩)] } hokm2 (hs.pick [1, 1])
        exact ⟨rfl, rfl, hfin2 hs.sub⟩
end
end Go.Dec
namespace Go.Dec
set_option linter.unusedVariables false
set_option linter.unusedSimpArgs false
def outP (a : Nat) (outs : List BatM) : HP := HP.ex fun z : Sl => HP.star (pt a (.cells #[.slice z.a z.len z.cap] T.s_api_Batch)) (HP.star (slc T.api_Batch 7 z (outs.flatMap encB7)) (batsP outs))
section
variable {w : World} {l r r1 r2 : List HP} {lg ao : Nat} {M : LogM} {A : LogA} {D : DiskA} {gap : Int} {a : Nat} {t : SegM} {outs : List BatM}
theorem out_open (hs : Sat w (outP ao outs :: l)) : ∃ z : Sl, Sat w (pt ao (.cells #[.slice z.a z.len z.cap] T.s_api_Batch) :: slc T.api_Batch 7 z (outs.flatMap encB7) :: batsP outs :: l) := by
  obtain ⟨z, hs⟩ := hs.ex
  have hs := hs.star
  exact ⟨z, ((hs.pick [1]).star).pick [2]⟩
theorem out_close {z : Sl} (hs : Sat w (pt ao (.cells #[.slice z.a z.len z.cap] T.s_api_Batch) :: slc T.api_Batch 7 z (outs.flatMap encB7) :: batsP outs :: l)) : Sat w (outP ao outs :: l) :=
  .ex_mk z (.star_mk (((hs.pick [1, 1]).star_mk).pick [1]))
theorem bats_put {b : BatM} (hs : Sat w (slc T.api_Record 4 b.x (b.rs.flatMap encR) :: batsP outs :: l)) : Sat w (batsP (outs ++ [b]) :: l) := by
  have h1 : Sat w (HP.all ((b :: outs).map rsP) :: l) := by
    have h2 : Sat w (rsP b :: HP.all (outs.map rsP) :: l) := hs
    exact h2.all_put
  exact h1.all_perm ((List.perm_append_comm (l₁ := [b]) (l₂ := outs)).map rsP)
theorem bats_nil (hs : Sat w l) : Sat w (batsP [] :: l) := hs.all_nil
theorem bats_rd {b : BatM} (hb : b ∈ outs) : FocR (batsP outs :: l) b.x 4 (b.rs.flatMap encR) := ⟨fun w hs => by
  obtain ⟨L, hs⟩ := hs.all_mem (f := rsP) hb
  exact Sat.rd hs⟩
theorem told_c (b : BatM) (off most : Int) (a1 a2 : Nat) (ho : -9223372036854775808 ≤ off ∧ off < 9223372036854775808) (hcap : b.x.len ≤ b.x.cap) (hol : outs.length ≤ 2000000) [hf : Fo l outP ao outs r] [h1 : FocB r a1 (.cells [.int .i64 off].toArray T.int64) r1] [h2 : FocB r a2 (.cells [.int .i64 most].toArray T.int) r2] [hb : FocR r b.x 4 (b.rs.flatMap encR)] (hs : Sat w l) :
    Ret P F.seglog_Log_Read_2 #[.agg (encB7 b).toArray, .pointer (some ⟨a1, 0, none⟩), .pointer (some ⟨ao, 0, none⟩), .pointer (some ⟨a2, 0, none⟩)] w fun vs w' => ∃ outs' : List BatM, vs = [.bool (decide ((outs'.length : Int) < most))] ∧ outs'.map BatM.p = outs.map BatM.p ++ (fromB off b).toList.map BatM.p ∧ Sat w' (outP ao outs' :: r) :=
  seglog_Log_Read_2_calls b.base b.pid b.epoch b.seq b.kind b.time b.x _ _ _ <| by
    unfold seglog_Log_Read_2
    obtain ⟨z, hs⟩ := out_open (hs.perm hf.perm)
    have hl := hs.slen z (xs := outs) (enc := encB7)
    refine wp_boxO hs fun a0 w' hs => ?_
    refine wp_ldG hs ?_
    refine wp_ldO hs ?_
    refine wp_call (from_c6 b off ho hcap hs) fun _ w' hs => ?_
    rcases hs with ⟨hn, rfl, hs⟩ | ⟨c, zc, hc, rfl, hs⟩
    · refine ⟨(0, 0, 0, 0, 0, 0, noSl, false, ()), rfl, trivial, wp_u8 _ _ _ _ _ _ _ _ ?_⟩
      refine wp_newO hs fun a3 w' hs => ?_
      refine wp_stG hs fun w' hs => ?_
      refine wp_lt ?_
      refine wp_bind ?_
      refine wp_ifF ?_ (by simp)
      refine wp_go ?_
      refine wp_ldO hs ?_
      refine wp_ldO hs ?_
      refine wp_lt ?_
      refine ⟨rfl, outs, by rw [hl], by rw [hn]; simp, out_close (z := z) hs.sub⟩
    · refine ⟨(c.base, c.pid, c.epoch, c.seq, c.kind, c.time, zc, true, ()), rfl, trivial, wp_u8 _ _ _ _ _ _ _ _ ?_⟩
      refine wp_newO hs fun a3 w' hs => ?_
      refine wp_stG hs fun w' hs => ?_
      refine wp_lt ?_
      refine wp_bind ?_
      refine wp_ifT ?_ (by trivial)
      refine wp_ldO hs ?_
      refine wp_ldG hs ?_
      refine wp_ap0 (xs := outs) (enc := encB7) (y := c.at zc) hs (fun z' w' hs => ?_) rfl (by omega)
      refine wp_stO hs fun w' hs => ?_
      refine wp_go ?_
      refine wp_ldO hs ?_
      refine wp_ldO hs ?_
      refine wp_lt ?_
      have hs : Sat w' (pt ao (.cells #[.slice z'.a z'.len z'.cap] T.s_api_Batch) :: slc T.api_Batch 7 z' ((outs ++ [c.at zc]).flatMap encB7) :: pt a3 _ :: slc T.api_Record 4 (c.at zc).x ((c.at zc).rs.flatMap encR) :: pt a0 _ :: batsP outs :: r) := hs
      have hl' := hs.slen z' (xs := outs ++ [c.at zc]) (enc := encB7)
      refine ⟨rfl, outs ++ [c.at zc], by rw [hl'], by rw [hc]; simp; rfl, ?_⟩
      have hs := bats_put (hs.pick [3, 4])
      exact out_close (z := z') (hs.pick [1, 1, 0]).sub
/-- The place from which a segment's batches are read. -/
theorem sfrom_c (off : Int) (hok : SegOk t.s) (hfl : t.s.file.length ≤ 4194304) [hf : Fo l (segP gap) a t r] (hs : Sat w l) : Ret P F.seglog_segment_from #[.pointer (some ⟨a, 0, none⟩), .int .i64 off] w fun vs w' => vs = [.int .i64 (placeE t.s (findE (t.s.idx gap).l off))] ∧ Sat w' (segP gap a t :: r) :=
  seglog_segment_from_calls _ off <| by
    unfold seglog_segment_from
    have hi : IdxOk gap (shL t.s.base t.s.fin).length t.s.bs (t.s.idx gap) := idx_ok gap t.s.bs.length (n := t.s.base) (q := (shL t.s.base t.s.fin).length) rfl hok.base.1 (by omega) hok.bs (by have := file_len t.s; omega)
    have hs := seg_open (hs.perm hf.perm)
    refine wp_nn ?_
    refine wp_ldO hs ?_
    refine wp_call (find_c (b := t.ix) off hi.offs hs) fun _ w' hs => ?_
    obtain ⟨rfl, hs⟩ := hs
    refine ⟨((orE (findE (t.s.idx gap).l off)).offset, (orE (findE (t.s.idx gap).l off)).place, (orE (findE (t.s.idx gap).l off)).before, (findE (t.s.idx gap).l off).isSome, ()), rfl, trivial, wp_u4 _ _ _ _ ?_⟩
    refine wp_newO hs fun c w' hs => ?_
    refine wp_stG hs fun w' hs => ?_
    refine wp_lt ?_
    cases hfe : findE (t.s.idx gap).l off with
    | some e =>
      refine wp_ifT ?_ (by rfl)
      rw [hfe] at hs
      refine wp_ldO hs ?_
      refine wp_lt ?_
      exact ⟨rfl, rfl, seg_close t hs.sub⟩
    | none =>
      refine wp_ifF ?_ (by simp)
      refine wp_tk hs fun w' hs => ?_
      refine wp_nn ?_
      refine wp_ldO hs ?_
      refine wp_nn ?_
      refine wp_ldO hs ?_
      have hb := hok.base
      have hfn : 0 ≤ t.s.fin ∧ t.s.fin < 9223372036854775808 := by have := hok.fin; omega
      refine wp_call (head_c t.s.base t.s.fin (by omega) hfn hs) fun _ w' hs => ?_
      obtain ⟨y, rfl, hs⟩ := hs
      refine ret_of ?_
      have hl := hs.slen y (xs := shL t.s.base t.s.fin) (enc := encU)
      refine wp_lt ?_
      refine wp_untick ?_
      refine ⟨rfl, ?_, seg_close t hs.sub⟩
      rw [hl]
      rfl
set_option maxHeartbeats 1000000 in
theorem walk_c (off : Int) (most : Nat) (a1 a2 : Nat) (ho : -9223372036854775808 ≤ off ∧ off < 9223372036854775808) {i k kp : Nat} (hsi : i < M.SM.length) (hok : SegOk M.SM[i].2.s) (hfile : fileD D.fs (nameS M.pre M.SM[i].2.s.base logX) = some (M.SM[i].2.s.file, kp)) (hk : k ≤ M.SM[i].2.s.bs.length) (hout : outs.length < most) (hol : outs.length + M.SM[i].2.s.bs.length ≤ 2000000)
    (hs : Sat w (outP ao outs :: lgQ lg M :: dk M.d D :: pt a1 (.cells [.int .i64 off].toArray T.int64) :: pt a2 (.cells [.int .i64 (most : Int)].toArray T.int) :: r)) :
    Ret P F.seglog_Log_walk #[.pointer (some ⟨lg, 0, none⟩), .pointer (some ⟨M.SM[i].1, 0, none⟩), .int .i64 (posB M.SM[i].2.s k : Nat), .func (.func F.seglog_Log_Read_2) #[] #[.pointer (some ⟨a1, 0, none⟩), .pointer (some ⟨ao, 0, none⟩), .pointer (some ⟨a2, 0, none⟩)]] w fun vs w' =>
      ∃ outs' : List BatM, vs = [.bool (decide (outs.length + ((M.SM[i].2.s.bs.drop k).filterMap (fromB off)).length < most))] ∧ outs'.map BatM.p = (outs.map BatM.p ++ (M.SM[i].2.s.bs.drop k).filterMap (fromB off)).take most ∧ outs'.length ≤ outs.length + M.SM[i].2.s.bs.length ∧
        Sat w' (outP ao outs' :: lgQ lg M :: dk M.d D :: pt a1 (.cells [.int .i64 off].toArray T.int64) :: pt a2 (.cells [.int .i64 (most : Int)].toArray T.int) :: r) :=
  seglog_Log_walk_calls _ _ _ _ <| by
    unfold seglog_Log_walk
    obtain ⟨m_, FS_, -, hokD, -⟩ := dk_open (hs.pick [2])
    obtain ⟨hokm, hs⟩ := lgQ_open (hs.pick [1])
    have hs := seg_open (seg_at (hs.pick [2]) hsi)
    generalize hT : M.SM[i] = T0 at *
    obtain ⟨a, t⟩ := T0
    dsimp only at hok hfile hk hol hs ⊢
    have hrl : t.s.file.length ≤ 4194304 := Nat.le_trans (used_file hfile) hokD.used
    have hbl := file_bs hok
    have hb0 := hok.base
    refine wp_mid (fun q w' => ∃ x : Sl, q = (x, ()) ∧ x.len ≤ x.cap ∧ Sat w' (slc T.uint8 1 x (t.s.file.flatMap encU) :: pt a (.cells #[.pointer (some ⟨t.ix, 0, none⟩), .int .i64 t.s.base, .int .i64 t.s.fin, .int .i64 (nextG t.s.bs), .int .i64 (lateG (-1) t.s.bs), .int .i64 (t.s.file.length : Nat)] T.seglog_segment) :: idxP t.ix (t.s.idx M.gap) :: HP.all ((M.SM.eraseIdx i).map fun t => segP M.gap t.1 t.2) :: pt lg (.cells #[.pointer (some ⟨M.d, 0, none⟩), .string M.pre, .int .i64 M.seg, .int .i64 M.gap, .slice M.z.a M.z.len M.z.cap] T.seglog_Log) :: slc T.p_seglog_segment 1 M.z ((M.SM.map Prod.fst).flatMap encP) :: outP ao outs :: dk M.d D :: pt a1 (.cells [.int .i64 off].toArray T.int64) :: pt a2 (.cells [.int .i64 (most : Int)].toArray T.int) :: r)) ?_ ?_
    · refine wp_tk hs fun w' hs => ?_
      refine wp_nn ?_
      refine wp_hdO hs ?_
      refine wp_nn ?_
      refine wp_ldO hs ?_
      refine wp_call (name_c0 (lg := lg) t.s.base (by omega) (ByteArray.mk #[46, 108, 111, 103]) (by decide) M.pre hokm.size hs) fun _ w' hs => ?_
      obtain ⟨rfl, hs⟩ := hs
      refine ret_of ?_ (by first | trivial | (repeat (first | exact trivial | exact fun _ => run_ldO hs | exact fun _ => run_ldG hs | refine And.intro ?_ ?_)))
      refine wp_untick ?_
      have en : nameS M.pre t.s.base (bl (ByteArray.mk #[46, 108, 111, 103])) = nameS M.pre t.s.base logX := rfl
      rw [en]
      refine wp_call (read_c (d := M.d) (A := D) (nameS M.pre t.s.base logX) hs) fun _ w' hs => ?_
      rcases hs with ⟨f, hff, hfn, x, rfl, hs⟩ | ⟨hno, rfl, hs⟩
      · refine ret_of ?_
        refine wp_lt ?_
        refine wp_untick ?_
        have hfd : fileD D.fs f.name = some (f.b, f.kept) := fileD_mem (names_nodup hokD.sorted) hff
        rw [hfn, hfile] at hfd
        simp only [Option.some.injEq, Prod.mk.injEq] at hfd
        rw [← hfd.1] at hs
        have hcap := hs.slc_cap
        exact wp_lv ⟨x, rfl, hcap, hs.sub⟩
      · rw [fileD_none.2 hno] at hfile
        cases hfile
    clear hs
    rintro _ w ⟨x, rfl, hcap, hs⟩
    refine wp_on ?_
    refine wp_lt ?_
    have hl := hs.slen x (xs := t.s.file) (enc := encU)
    have hfin : ∀ {w : World} {outs' : List BatM}, Sat w (slc T.uint8 1 x (t.s.file.flatMap encU) :: pt a (.cells #[.pointer (some ⟨t.ix, 0, none⟩), .int .i64 t.s.base, .int .i64 t.s.fin, .int .i64 (nextG t.s.bs), .int .i64 (lateG (-1) t.s.bs), .int .i64 (t.s.file.length : Nat)] T.seglog_segment) :: idxP t.ix (t.s.idx M.gap) :: HP.all ((M.SM.eraseIdx i).map fun t => segP M.gap t.1 t.2) :: pt lg (.cells #[.pointer (some ⟨M.d, 0, none⟩), .string M.pre, .int .i64 M.seg, .int .i64 M.gap, .slice M.z.a M.z.len M.z.cap] T.seglog_Log) :: slc T.p_seglog_segment 1 M.z ((M.SM.map Prod.fst).flatMap encP) :: outP ao outs' :: dk M.d D :: pt a1 (.cells [.int .i64 off].toArray T.int64) :: pt a2 (.cells [.int .i64 (most : Int)].toArray T.int) :: r) →
        Sat w (outP ao outs' :: lgQ lg M :: dk M.d D :: pt a1 (.cells [.int .i64 off].toArray T.int64) :: pt a2 (.cells [.int .i64 (most : Int)].toArray T.int) :: r) := by
      intro w outs' hs
      have h1 : Sat w (segP M.gap M.SM[i].1 M.SM[i].2 :: HP.all ((M.SM.eraseIdx i).map fun t => segP M.gap t.1 t.2) :: pt lg (.cells #[.pointer (some ⟨M.d, 0, none⟩), .string M.pre, .int .i64 M.seg, .int .i64 M.gap, .slice M.z.a M.z.len M.z.cap] T.seglog_Log) :: slc T.p_seglog_segment 1 M.z ((M.SM.map Prod.fst).flatMap encP) :: outP ao outs' :: dk M.d D :: pt a1 (.cells [.int .i64 off].toArray T.int64) :: pt a2 (.cells [.int .i64 (most : Int)].toArray T.int) :: r) := by
        rw [hT]
        exact seg_close t hs.tail
      have h2 := seg_back hsi h1
      exact (lgQ_close M hokm (h2.pick [1, 1])).sub
    have hfull : ∀ {outs' : List BatM} {j : Nat}, outs'.map BatM.p = outs.map BatM.p ++ ((t.s.bs.drop k).take j).filterMap (fromB off) → outs'.length = outs.length + (((t.s.bs.drop k).take j).filterMap (fromB off)).length := fun h => by
      have := congrArg List.length h
      simpa using this
    refine wp_mid (fun _ w' => ∃ outs' : List BatM, outs'.map BatM.p = outs.map BatM.p ++ (t.s.bs.drop k).filterMap (fromB off) ∧ outs'.length < most ∧ outs'.length ≤ outs.length + t.s.bs.length ∧ Sat w' (slc T.uint8 1 x (t.s.file.flatMap encU) :: pt a (.cells #[.pointer (some ⟨t.ix, 0, none⟩), .int .i64 t.s.base, .int .i64 t.s.fin, .int .i64 (nextG t.s.bs), .int .i64 (lateG (-1) t.s.bs), .int .i64 (t.s.file.length : Nat)] T.seglog_segment) :: idxP t.ix (t.s.idx M.gap) :: HP.all ((M.SM.eraseIdx i).map fun t => segP M.gap t.1 t.2) :: pt lg (.cells #[.pointer (some ⟨M.d, 0, none⟩), .string M.pre, .int .i64 M.seg, .int .i64 M.gap, .slice M.z.a M.z.len M.z.cap] T.seglog_Log) :: slc T.p_seglog_segment 1 M.z ((M.SM.map Prod.fst).flatMap encP) :: outP ao outs' :: dk M.d D :: pt a1 (.cells [.int .i64 off].toArray T.int64) :: pt a2 (.cells [.int .i64 (most : Int)].toArray T.int) :: r)) ?_ ?_
    rotate_left
    · rintro _ w2 ⟨outs', h1, h2, h3, hs⟩
      have h4 := congrArg List.length h1
      simp only [List.length_map, List.length_append] at h4
      refine ⟨rfl, outs', by rw [decide_eq_true (by omega)], ?_, h3, hfin hs⟩
      rw [← h1, List.take_of_length_le]
      rw [List.length_map]; omega
    refine wp_loop (fun m v w => ∃ (j : Nat) (outs' : List BatM), v = (((posB t.s (k + j) : Nat) : Int), ()) ∧ k + j ≤ t.s.bs.length ∧ t.s.bs.length - (k + j) = m ∧ outs'.map BatM.p = outs.map BatM.p ++ ((t.s.bs.drop k).take j).filterMap (fromB off) ∧ outs'.length < most ∧ outs'.length ≤ outs.length + j ∧ Sat w (slc T.uint8 1 x (t.s.file.flatMap encU) :: pt a (.cells #[.pointer (some ⟨t.ix, 0, none⟩), .int .i64 t.s.base, .int .i64 t.s.fin, .int .i64 (nextG t.s.bs), .int .i64 (lateG (-1) t.s.bs), .int .i64 (t.s.file.length : Nat)] T.seglog_segment) :: idxP t.ix (t.s.idx M.gap) :: HP.all ((M.SM.eraseIdx i).map fun t => segP M.gap t.1 t.2) :: pt lg (.cells #[.pointer (some ⟨M.d, 0, none⟩), .string M.pre, .int .i64 M.seg, .int .i64 M.gap, .slice M.z.a M.z.len M.z.cap] T.seglog_Log) :: slc T.p_seglog_segment 1 M.z ((M.SM.map Prod.fst).flatMap encP) :: outP ao outs' :: dk M.d D :: pt a1 (.cells [.int .i64 off].toArray T.int64) :: pt a2 (.cells [.int .i64 (most : Int)].toArray T.int) :: r)) (t.s.bs.length - k)
      ⟨0, outs, rfl, by omega, by omega, by simp, hout, by omega, hs⟩ ?_
    clear hs
    rintro m _ w ⟨j, outs', rfl, hj, hm, hmap, hlt, hol', hs⟩
    refine wp_on ?_
    refine wp_nng ?_
    refine wp_ldO hs ?_
    have hple := posB_le t.s (k + j)
    refine wp_if (fun hc => ?_) fun hc => ?_
    rotate_left
    · have hend : k + j = t.s.bs.length := by
        apply Decidable.byContradiction
        intro hne
        have hlt2 : k + j < t.s.bs.length := by omega
        have h1 := posB_succ t.s hlt2
        have h2 := posB_le t.s (k + j + 1)
        have h3 := frL_len (hok.bs.valid _ (List.getElem_mem hlt2)).1
        exact hc ⟨by omega, by omega⟩
      refine wp_pass (wp_lv ⟨outs', ?_, hlt, by omega, hs⟩)
      rw [hmap, List.take_of_length_le (by rw [List.length_drop]; omega)]
    have hjl : k + j < t.s.bs.length := by
      apply Decidable.byContradiction
      intro hne
      have he : k + j = t.s.bs.length := by omega
      have h1 := posB_all t.s
      rw [he] at hc
      have hc1 : ((posB t.s t.s.bs.length : Nat) : Int) < (x.len : Nat) := hc.1
      omega
    obtain ⟨hfst, hdec⟩ := first_drop hok hjl
    obtain ⟨hvb, hpb⟩ := hok.bs.valid _ (List.getElem_mem hjl)
    have hblen := batL_len hvb
    have hxl : posB t.s (k + j) ≤ x.len := by omega
    refine wp_must (by omega) ?_
    rw [Int.toNat_natCast]
    have hxc : FocR (slc T.uint8 1 x (t.s.file.flatMap encU) :: pt a (.cells #[.pointer (some ⟨t.ix, 0, none⟩), .int .i64 t.s.base, .int .i64 t.s.fin, .int .i64 (nextG t.s.bs), .int .i64 (lateG (-1) t.s.bs), .int .i64 (t.s.file.length : Nat)] T.seglog_segment) :: idxP t.ix (t.s.idx M.gap) :: HP.all ((M.SM.eraseIdx i).map fun t => segP M.gap t.1 t.2) :: pt lg (.cells #[.pointer (some ⟨M.d, 0, none⟩), .string M.pre, .int .i64 M.seg, .int .i64 M.gap, .slice M.z.a M.z.len M.z.cap] T.seglog_Log) :: slc T.p_seglog_segment 1 M.z ((M.SM.map Prod.fst).flatMap encP) :: outP ao outs' :: dk M.d D :: pt a1 (.cells [.int .i64 off].toArray T.int64) :: pt a2 (.cells [.int .i64 (most : Int)].toArray T.int) :: r) ⟨cutA x.a 1 (posB t.s (k + j)) x.cap, x.len - posB t.s (k + j), x.cap - posB t.s (k + j)⟩ 1 ((t.s.file.drop (posB t.s (k + j))).flatMap encU) := FocR.post hcap
    refine wp_call (ffirst_c ⟨cutA x.a 1 (posB t.s (k + j)) x.cap, x.len - posB t.s (k + j), x.cap - posB t.s (k + j)⟩ (t.s.file.drop (posB t.s (k + j))) (by show x.len - _ ≤ x.cap - _; omega) (by rw [List.length_drop]; omega) hs) fun _ w' hs => ?_
    obtain ⟨y, rfl, hs⟩ := hs
    rw [hfst] at hs ⊢
    refine ret_of ?_
    refine wp_lt ?_
    refine wp_lt ?_
    dsimp only [Option.getD, Option.isSome]
    have hs : Sat w' (slc T.uint8 1 y ((batL t.s.bs[k + j]).flatMap encU) :: _) := hs
    refine wp_ifF ?_ (by simp)
    refine wp_call (decode_c y (batL t.s.bs[k + j]) (by omega) hs) fun _ w' hs => ?_
    rcases hs with ⟨b, z, hdec2, rfl, hs⟩ | ⟨hdec2, rfl, hs⟩
    rotate_left
    · rw [hdec] at hdec2; cases hdec2
    rw [hdec] at hdec2
    simp only [Option.some.injEq] at hdec2
    subst hdec2
    generalize hbb : t.s.bs[k + j] = b at *
    refine ⟨(b.base, b.pid, b.epoch, b.seq, b.kind, b.time, z, 0, ()), rfl, trivial, wp_u8 _ _ _ _ _ _ _ _ ?_⟩
    refine wp_newO hs fun c w' hs => ?_
    refine wp_stG hs fun w' hs => ?_
    refine wp_lt ?_
    have hzc : z.len ≤ z.cap := (hs.pick [1]).slc_cap
    have htk : (t.s.bs.drop k).take (j + 1) = (t.s.bs.drop k).take j ++ [b] := by
      rw [List.take_succ_eq_append_getElem (by rw [List.length_drop]; omega), List.getElem_drop, hbb]
    have hfp : (fromB off b).toList.map BatM.p = (fromB off b).toList := by
      cases hfb : fromB off b with
      | none => rfl
      | some c => simp [fromB_p hpb hfb]
    have hfm : ((t.s.bs.drop k).take (j + 1)).filterMap (fromB off) = ((t.s.bs.drop k).take j).filterMap (fromB off) ++ (fromB off b).toList := by
      rw [htk, List.filterMap_append]
      congr 1
    have hpos := posB_succ t.s hjl
    rw [hbb] at hpos
    have hple2 := posB_le t.s (k + j + 1)
    refine wp_bind ?_
    refine wp_ldG hs ?_
    refine wp_ifF ?_ (by simp)
    have hzb : FocR (pt c (.cells #[.int .i64 b.base, .int .i64 b.pid, .int .i64 b.epoch, .int .i64 b.seq, .int .i64 b.kind, .int .i64 b.time, .slice z.a z.len z.cap] T.api_Batch) :: slc T.api_Record 4 z (b.rs.flatMap encR) :: slc T.uint8 1 y ((batL b).flatMap encU) :: slc T.uint8 1 x (t.s.file.flatMap encU) :: pt a (.cells #[.pointer (some ⟨t.ix, 0, none⟩), .int .i64 t.s.base, .int .i64 t.s.fin, .int .i64 (nextG t.s.bs), .int .i64 (lateG (-1) t.s.bs), .int .i64 (t.s.file.length : Nat)] T.seglog_segment) :: idxP t.ix (t.s.idx M.gap) :: HP.all ((M.SM.eraseIdx i).map fun t => segP M.gap t.1 t.2) :: pt lg (.cells #[.pointer (some ⟨M.d, 0, none⟩), .string M.pre, .int .i64 M.seg, .int .i64 M.gap, .slice M.z.a M.z.len M.z.cap] T.seglog_Log) :: slc T.p_seglog_segment 1 M.z ((M.SM.map Prod.fst).flatMap encP) :: dk M.d D :: pt a1 (.cells [.int .i64 off].toArray T.int64) :: pt a2 (.cells [.int .i64 (most : Int)].toArray T.int) :: r) (b.at z).x 4 ((b.at z).rs.flatMap encR) := (inferInstance : FocR (pt c (.cells #[.int .i64 b.base, .int .i64 b.pid, .int .i64 b.epoch, .int .i64 b.seq, .int .i64 b.kind, .int .i64 b.time, .slice z.a z.len z.cap] T.api_Batch) :: slc T.api_Record 4 z (b.rs.flatMap encR) :: _) z 4 (b.rs.flatMap encR))
    have hs : Sat w' (outP ao outs' :: pt c (.cells #[.int .i64 b.base, .int .i64 b.pid, .int .i64 b.epoch, .int .i64 b.seq, .int .i64 b.kind, .int .i64 b.time, .slice z.a z.len z.cap] T.api_Batch) :: slc T.api_Record 4 z (b.rs.flatMap encR) :: slc T.uint8 1 y ((batL b).flatMap encU) :: slc T.uint8 1 x (t.s.file.flatMap encU) :: pt a (.cells #[.pointer (some ⟨t.ix, 0, none⟩), .int .i64 t.s.base, .int .i64 t.s.fin, .int .i64 (nextG t.s.bs), .int .i64 (lateG (-1) t.s.bs), .int .i64 (t.s.file.length : Nat)] T.seglog_segment) :: idxP t.ix (t.s.idx M.gap) :: HP.all ((M.SM.eraseIdx i).map fun t => segP M.gap t.1 t.2) :: pt lg (.cells #[.pointer (some ⟨M.d, 0, none⟩), .string M.pre, .int .i64 M.seg, .int .i64 M.gap, .slice M.z.a M.z.len M.z.cap] T.seglog_Log) :: slc T.p_seglog_segment 1 M.z ((M.SM.map Prod.fst).flatMap encP) :: dk M.d D :: pt a1 (.cells [.int .i64 off].toArray T.int64) :: pt a2 (.cells [.int .i64 (most : Int)].toArray T.int) :: r) := hs.sub
    have htold := told_c (ao := ao) (outs := outs') (b.at z) off (most : Int) a1 a2 ho hzc (by omega) hs
    refine ⟨F.seglog_Log_Read_2, #[], #[.pointer (some ⟨a1, 0, none⟩), .pointer (some ⟨ao, 0, none⟩), .pointer (some ⟨a2, 0, none⟩)], rfl, by kernel_rfl, ?_⟩
    refine Calls.mono htold fun e w' ⟨vs, he, outs2, hvs, hmap2, hs⟩ => ⟨(decide ((outs2.length : Int) < (most : Int)), ()), by rw [he, hvs]; rfl, trivial, ?_⟩
    refine wp_go ?_
    have hfe : (fromB off (b.at z)).toList.map BatM.p = (fromB off b).toList := by
      have hpz : b = { (b.at z) with x := noSl } := by rw [← hpb]; rfl
      have e2 : fromB off (b.at z) = (fromB off b).map fun c => c.at z := by
        unfold fromB
        have ev : validB (b.at z) = validB b := rfl
        have en : nextB (b.at z) = nextB b := rfl
        have em : markB (b.at z) = markB b := rfl
        rw [ev, en, em]
        split
        · rfl
        · show (if markB b = true ∨ off ≤ b.base then _ else _) = _
          split <;> rfl
      rw [e2]
      cases hfb : fromB off b with
      | none => rfl
      | some c =>
        have := fromB_p hpb hfb
        show [(c.at z).p] = [c]
        have e3 : (c.at z).p = c.p := rfl
        rw [e3, this]
    rw [hfe, hmap, List.append_assoc, ← hfm] at hmap2
    have hlen2 := hfull hmap2
    have hfl1 : (fromB off b).toList.length ≤ 1 := by cases fromB off b <;> simp
    have hlen1 := hfull hmap
    rw [hfm, List.length_append] at hlen2
    have hback : ∀ {w : World}, Sat w (outP ao outs2 :: pt c (.cells #[.int .i64 b.base, .int .i64 b.pid, .int .i64 b.epoch, .int .i64 b.seq, .int .i64 b.kind, .int .i64 b.time, .slice z.a z.len z.cap] T.api_Batch) :: slc T.api_Record 4 z (b.rs.flatMap encR) :: slc T.uint8 1 y ((batL b).flatMap encU) :: slc T.uint8 1 x (t.s.file.flatMap encU) :: pt a (.cells #[.pointer (some ⟨t.ix, 0, none⟩), .int .i64 t.s.base, .int .i64 t.s.fin, .int .i64 (nextG t.s.bs), .int .i64 (lateG (-1) t.s.bs), .int .i64 (t.s.file.length : Nat)] T.seglog_segment) :: idxP t.ix (t.s.idx M.gap) :: HP.all ((M.SM.eraseIdx i).map fun t => segP M.gap t.1 t.2) :: pt lg (.cells #[.pointer (some ⟨M.d, 0, none⟩), .string M.pre, .int .i64 M.seg, .int .i64 M.gap, .slice M.z.a M.z.len M.z.cap] T.seglog_Log) :: slc T.p_seglog_segment 1 M.z ((M.SM.map Prod.fst).flatMap encP) :: dk M.d D :: pt a1 (.cells [.int .i64 off].toArray T.int64) :: pt a2 (.cells [.int .i64 (most : Int)].toArray T.int) :: r) →
        Sat w (slc T.uint8 1 x (t.s.file.flatMap encU) :: pt a (.cells #[.pointer (some ⟨t.ix, 0, none⟩), .int .i64 t.s.base, .int .i64 t.s.fin, .int .i64 (nextG t.s.bs), .int .i64 (lateG (-1) t.s.bs), .int .i64 (t.s.file.length : Nat)] T.seglog_segment) :: idxP t.ix (t.s.idx M.gap) :: HP.all ((M.SM.eraseIdx i).map fun t => segP M.gap t.1 t.2) :: pt lg (.cells #[.pointer (some ⟨M.d, 0, none⟩), .string M.pre, .int .i64 M.seg, .int .i64 M.gap, .slice M.z.a M.z.len M.z.cap] T.seglog_Log) :: slc T.p_seglog_segment 1 M.z ((M.SM.map Prod.fst).flatMap encP) :: outP ao outs2 :: dk M.d D :: pt a1 (.cells [.int .i64 off].toArray T.int64) :: pt a2 (.cells [.int .i64 (most : Int)].toArray T.int) :: r) := fun hs => hs.sub
    have hs := hback hs
    refine wp_if (fun h5 => ?_) fun h5 => ?_
    · have h5 : most ≤ outs2.length := by
        have : ¬ ((outs2.length : Int) < (most : Int)) := by simpa using h5
        omega
      have h6 : outs2.length = most := by omega
      have h7 : ((t.s.bs.drop k).filterMap (fromB off)) = ((t.s.bs.drop k).take (j + 1)).filterMap (fromB off) ++ ((t.s.bs.drop k).drop (j + 1)).filterMap (fromB off) := by
        rw [← List.filterMap_append, List.take_append_drop]
      have h8 := congrArg List.length hmap2
      simp only [List.length_map, List.length_append] at h8
      refine wp_pass (wp_pass ⟨rfl, outs2, ?_, ?_, by omega, hfin hs⟩)
      · rw [decide_eq_false]
        rw [h7, List.length_append]
        omega
      · rw [h7, ← List.append_assoc, ← hmap2]
        rw [List.take_append_of_le_length (by rw [List.length_map]; omega), List.take_of_length_le (by rw [List.length_map]; omega)]
    · have h5 : outs2.length < most := by
        have : ((outs2.length : Int) < (most : Int)) := by simpa using h5
        omega
      have ew : IntKind.wrap .i64 (((posB t.s (k + j) : Nat) : Int) + ((frL b).length : Nat)) = ((posB t.s (k + (j + 1)) : Nat) : Int) := by
        rw [show k + (j + 1) = k + j + 1 by omega, hpos, w64 (by omega) (by omega)]; omega
      refine wp_ltx (y := ((posB t.s (k + (j + 1)) : Nat) : Int)) ?_ ew
      exact wp_lp (t.s.bs.length - (k + (j + 1))) ⟨j + 1, outs2, rfl, by omega, rfl, hmap2, h5, by omega, hs⟩
end
end Go.Dec
namespace Go.Dec
set_option linter.unusedVariables false
set_option linter.unusedSimpArgs false
/-- Each segment's file stands on the disk. -/
def HasL (pre : ByteArray) (l : List SegA) (D : DiskA) : Prop := ∀ s ∈ l, ∃ k, fileD D.fs (nameS pre s.base logX) = some (s.file, k)
theorem firstG_le {l : List SegA} (hok : SegsOk 0 l) : ∀ s ∈ l, firstG l ≤ s.base := by
  cases l with
  | nil => intro s hs; cases hs
  | cons a l =>
    intro s hs
    show a.base ≤ s.base
    rcases List.mem_cons.1 hs with rfl | hs
    · exact Int.le_refl _
    · have := (hok.2.2.mem s hs).2
      omega
theorem first_next {l : List SegA} (hok : SegsOk 0 l) : firstG l ≤ nextL l := by
  by_cases h : l = []
  · subst h; decide
  · obtain ⟨l0, s, rfl⟩ := snoc_of h
    have h1 := firstG_le hok s (by simp)
    have h2 := (reach_le (hok.mem s (by simp)).1).1
    unfold nextL
    rw [getLast_snoc]
    simp only
    omega
theorem bs_base {n : Int} {bs : List BatM} (h : BsOk n bs) : ∀ b ∈ bs, n ≤ b.base := by
  intro b hb
  obtain ⟨j, hj, rfl⟩ := List.mem_iff_getElem.1 hb
  cases j with
  | zero =>
    cases bs with
    | nil => simp at hj
    | cons c cs => exact h.2.2.1
  | succ j =>
    have h1 := h.lt 0 (j + 1) hj (by omega)
    obtain ⟨s1, -, -, -, -⟩ := span_le _ (h.valid _ (List.getElem_mem (show 0 < bs.length by omega))).1
    omega
theorem fromB_all {off : Int} {b : BatM} (hv : validB b = 0) (h : off ≤ b.base) : fromB off b = some b := by
  obtain ⟨s1, -, -, -, -⟩ := span_le b hv
  unfold fromB
  rw [if_neg, if_pos (.inr h)]
  rintro (hh | hh)
  · exact hh hv
  · unfold nextB at hh; rw [if_neg (by rw [hv]; simp)] at hh; omega
theorem filterMap_id {α : Type} {f : α → Option α} {l : List α} (h : ∀ x ∈ l, f x = some x) : l.filterMap f = l := by
  induction l with
  | nil => rfl
  | cons a l ih => rw [List.filterMap_cons, h a (List.mem_cons_self ..)]; simp only; rw [ih fun x hx => h x (List.mem_cons_of_mem _ hx)]
theorem read_all {l : List SegA} (hok : SegsOk 0 l) {n : Int} (hn : (allB l).length ≤ n) (h1 : 1 ≤ n) : readA l (firstG l) n = (0, allB l) := by
  have := first_next hok
  unfold readA
  rw [if_neg (by omega), if_neg (by omega), filterMap_id, List.take_of_length_le (by omega)]
  intro b hb
  obtain ⟨s, hs, hbs⟩ := List.mem_flatMap.1 hb
  have h2 := hok.mem s hs
  exact fromB_all (h2.1.bs.valid b hbs).1 (by have := firstG_le hok s hs; have := bs_base h2.1.bs b hbs; omega)
section
variable {w : World} {l r r1 r2 : List HP} {lg ao : Nat} {M : LogM} {A : LogA} {D : DiskA} {gap : Int} {a : Nat} {t : SegM} {outs : List BatM}
theorem read1_cl (i : Nat) (a0 a1 : Nat) (off : Int) (hi : i < M.SM.length)
    (hs : Sat w (pt a0 (.cells [.pointer (some ⟨lg, 0, none⟩)].toArray T.p_seglog_Log) :: pt a1 (.cells [.int .i64 off].toArray T.int64) :: lgQ lg M :: r)) :
    Ret P F.seglog_Log_Read_1 #[.int .i64 (i : Int), .pointer (some ⟨a0, 0, none⟩), .pointer (some ⟨a1, 0, none⟩)] w fun vs w' => vs = [.bool (decide (M.SM[i].2.s.base > off))] ∧ Sat w' (pt a0 (.cells [.pointer (some ⟨lg, 0, none⟩)].toArray T.p_seglog_Log) :: pt a1 (.cells [.int .i64 off].toArray T.int64) :: lgQ lg M :: r) :=
  seglog_Log_Read_1_calls _ _ _ <| by
    unfold seglog_Log_Read_1
    obtain ⟨hokm, hs⟩ := lgQ_open (hs.pick [2])
    refine wp_tk hs fun w' hs => ?_
    refine wp_ldO hs ?_
    refine wp_nn ?_
    refine wp_ldO hs ?_
    refine wp_ix1 hs (xs := M.SM.map Prod.fst) (enc := encP) i (by rw [List.length_map]; exact hi) ?_
    have e0 : (M.SM.map Prod.fst)[i]'(by rw [List.length_map]; exact hi) = M.SM[i].1 := by simp
    rw [e0]
    refine wp_nn ?_
    have hs := seg_open (seg_at (hs.pick [2]) hi)
    refine wp_ldO hs ?_
    refine wp_ldO hs ?_
    refine wp_lt ?_
    refine wp_untick ?_
    have hs := seg_back hi (seg_close M.SM[i].2 hs)
    have hs := lgQ_close M hokm (hs.pick [1, 1])
    exact ⟨rfl, rfl, hs.sub⟩
set_option maxHeartbeats 1000000 in
theorem lread_c (off most : Int) (ho : -9223372036854775808 ≤ off ∧ off < 9223372036854775808) (hmo : most ≤ 1099511627776) {r1 : List HP} [hf : Fo l lgP lg A r1] [hf2 : Fo r1 dk A.d D r] (hok : SegsOk 0 A.l) (hhas : HasL A.pre A.l D) (hlen : A.l.length ≤ 1000000) (hall : (allB A.l).length ≤ 1000000) (hs : Sat w l) :
    Ret P F.seglog_Log_Read #[.pointer (some ⟨lg, 0, none⟩), .int .i64 off, .int .i64 most] w fun vs w' => ∃ (z : Sl) (outs : List BatM), vs = [z.v, .int .i64 (readA A.l off most).1] ∧ outs.map BatM.p = (readA A.l off most).2 ∧ Sat w' (slc T.api_Batch 7 z (outs.flatMap encB7) :: batsP outs :: lgP lg A :: dk A.d D :: r) :=
  seglog_Log_Read_calls _ off most <| by
    unfold seglog_Log_Read
    have hs := hs.perm (hf.perm.trans (.cons _ hf2.perm))
    clear hf hf2
    obtain ⟨M, rfl, hs⟩ := lgP_open hs
    have hMl : M.A.l = M.l := rfl
    have hMpre : M.A.pre = M.pre := rfl
    have hMd : M.A.d = M.d := rfl
    rw [hMl] at hlen hok hhas hall ⊢
    rw [hMpre] at hhas
    rw [hMd] at hs ⊢
    have hll : M.l.length = M.SM.length := List.length_map ..
    have hget : ∀ (i : Nat) (h : i < M.SM.length), M.SM[i].2.s = M.l[i]'(by omega) := fun i h => by unfold LogM.l; simp
    obtain ⟨m_, FS_, -, hokD, -⟩ := dk_open (hs.pick [1])
    refine wp_boxO hs fun a0 w' hs => ?_
    refine wp_boxO hs fun a1 w' hs => ?_
    refine wp_boxO hs fun a2 w' hs => ?_
    refine wp_ldO hs ?_
    refine wp_lt ?_
    refine wp_ifF ?_ (by simp)
    refine wp_ldO hs ?_
    refine wp_lt ?_
    have hfin0 : ∀ {w : World} {L : List HP}, Sat w (lgQ lg M :: dk M.d D :: r) → Sat w (slc T.api_Batch 7 ⟨none, 0, 0⟩ (([] : List BatM).flatMap encB7) :: batsP [] :: lgP lg M.A :: dk M.d D :: r) := fun hs => (bats_nil (lgP_close M hs)).slc_nil
    unfold readA
    refine wp_if (fun h => ?_) fun h => ?_
    · rw [if_pos (show most < 1 by omega)]
      have hs : Sat w' (lgQ lg M :: dk M.d D :: r) := hs.sub
      exact ⟨rfl, ⟨none, 0, 0⟩, [], rfl, rfl, hfin0 (L := []) hs⟩
    rw [if_neg (show ¬ most < 1 by omega)]
    refine wp_mid (fun q w' => q = (decide (off < firstG M.l ∨ off > nextL M.l), ()) ∧ Sat w' (pt a2 (.cells [.int .i64 most].toArray T.int) :: pt a1 (.cells [.int .i64 off].toArray T.int64) :: pt a0 (.cells [.pointer (some ⟨lg, 0, none⟩)].toArray T.p_seglog_Log) :: lgQ lg M :: dk M.d D :: r)) ?_ ?_
    · refine wp_tk hs fun w' hs => ?_
      refine wp_hdO hs ?_
      refine wp_ldO hs ?_
      refine wp_call (first_c (lg := lg) hs) fun _ w' hs => ?_
      obtain ⟨rfl, hs⟩ := hs
      refine ret_of ?_ (by first | trivial | (repeat (first | exact trivial | exact fun _ => run_ldO hs | exact fun _ => run_ldG hs | refine And.intro ?_ ?_)))
      refine wp_hdO hs ?_
      refine wp_ldO hs ?_
      refine wp_if (fun h1 => ?_) fun h1 => ?_
      · refine wp_untick ?_
        exact wp_lv ⟨by rw [decide_eq_true (.inl h1)], hs.sub⟩
      · refine wp_call (lnext_c (lg := lg) (by omega) hs) fun _ w' hs => ?_
        obtain ⟨rfl, hs⟩ := hs
        refine ret_of ?_ (by first | trivial | (repeat (first | exact trivial | exact fun _ => run_ldO hs | exact fun _ => run_ldG hs | refine And.intro ?_ ?_)))
        refine wp_lt ?_
        refine wp_untick ?_
        refine wp_lv ⟨?_, hs.sub⟩
        rw [decide_eq_decide.2 (show (off < firstG M.l ∨ off > nextL M.l) ↔ off > nextL M.l from ⟨fun hh => hh.resolve_left h1, .inr⟩)]
    rintro _ w2 ⟨rfl, hs⟩
    refine wp_if (fun h1 => ?_) fun h1 => ?_
    · have h1 : off < firstG M.l ∨ off > nextL M.l := by simpa using h1
      rw [if_pos h1]
      have hs : Sat w2 (lgQ lg M :: dk M.d D :: r) := hs.sub
      exact ⟨rfl, ⟨none, 0, 0⟩, [], rfl, rfl, hfin0 (L := []) hs⟩
    have h1 : ¬ (off < firstG M.l ∨ off > nextL M.l) := by simpa using h1
    rw [if_neg h1]
    obtain ⟨mN, rfl⟩ : ∃ mN : Nat, most = (mN : Int) := ⟨most.toNat, by omega⟩
    rw [Int.toNat_natCast]
    refine wp_newO hs fun ao w' hs => ?_
    refine wp_ldO hs ?_
    refine wp_nn ?_
    obtain ⟨hokm, hs⟩ := lgQ_open (hs.pick [4])
    refine wp_ldO hs ?_
    have hl := hs.slen M.z (xs := M.SM.map Prod.fst) (enc := encP)
    rw [List.length_map] at hl
    have hs := lgQ_close M hokm hs
    have hs : Sat w' (pt a0 (.cells [.pointer (some ⟨lg, 0, none⟩)].toArray T.p_seglog_Log) :: pt a1 (.cells [.int .i64 off].toArray T.int64) :: lgQ lg M :: pt ao (.cells #[.slice none 0 0] T.s_api_Batch) :: pt a2 (.cells [.int .i64 (mN : Int)].toArray T.int) :: dk M.d D :: r) := hs.sub
    rw [hl]
    refine wp_call (search_c M.SM.length (by omega) F.seglog_Log_Read_1 #[.pointer (some ⟨a0, 0, none⟩), .pointer (some ⟨a1, 0, none⟩)] (fun i => decide (((M.l.map SegA.base).getD i 0) > off)) (by kernel_rfl) (fun i w hi hs => ?_) hs) fun _ w' hs => ?_
    · have e : (M.l.map SegA.base).getD i 0 = M.SM[i].2.s.base := by
        rw [List.getD_eq_getElem?_getD, List.getElem?_map, List.getElem?_eq_getElem (by omega), hget i hi]; rfl
      simp only [e]
      exact read1_cl (M := M) i a0 a1 off hi hs
    obtain ⟨i0, hi0, hs1, hs2, rfl, hs⟩ := hs
    refine ret_of ?_
    refine wp_ltx (y := (i0 : Int) - 1) ?_ (by rw [w64 (by omega) (by omega)])
    refine wp_ltx (y := ((i0 - 1 : Nat) : Int)) ?_ (by split <;> omega)
    -- what is skipped tells nothing
    have hskip : i0 - 1 < M.SM.length → (allB M.l).filterMap (fromB off) = (allB (M.l.drop (i0 - 1))).filterMap (fromB off) := fun hlt => by
      refine skip_all hok (i := i0 - 1) (by omega) ?_
      by_cases h0 : i0 = 0
      · right; omega
      · left
        have h2 := hs1 (by omega)
        rw [List.getD_eq_getElem?_getD, List.getElem?_map, List.getElem?_eq_getElem (by omega)] at h2
        have h2 : decide ((M.l[i0 - 1]'(by omega)).base > off) = false := h2
        simpa using h2
    have hs : Sat w' (outP ao [] :: lgQ lg M :: dk M.d D :: pt a1 (.cells [.int .i64 off].toArray T.int64) :: pt a2 (.cells [.int .i64 (mN : Int)].toArray T.int) :: pt a0 (.cells [.pointer (some ⟨lg, 0, none⟩)].toArray T.p_seglog_Log) :: r) := by
      have h3 : Sat w' (slc T.api_Batch 7 ⟨none, 0, 0⟩ (([] : List BatM).flatMap encB7) :: batsP [] :: _) := (bats_nil hs).slc_nil
      have h4 : Sat w' (pt ao (.cells #[.slice none 0 0] T.s_api_Batch) :: slc T.api_Batch 7 ⟨none, 0, 0⟩ (([] : List BatM).flatMap encB7) :: batsP [] :: lgQ lg M :: dk M.d D :: pt a1 (.cells [.int .i64 off].toArray T.int64) :: pt a2 (.cells [.int .i64 (mN : Int)].toArray T.int) :: pt a0 (.cells [.pointer (some ⟨lg, 0, none⟩)].toArray T.p_seglog_Log) :: r) := h3.sub
      exact out_close (z := ⟨none, 0, 0⟩) h4
    refine wp_mid (fun _ w' => ∃ outs : List BatM, outs.map BatM.p = ((allB M.l).filterMap (fromB off)).take mN ∧ Sat w' (outP ao outs :: lgQ lg M :: dk M.d D :: pt a1 (.cells [.int .i64 off].toArray T.int64) :: pt a2 (.cells [.int .i64 (mN : Int)].toArray T.int) :: pt a0 (.cells [.pointer (some ⟨lg, 0, none⟩)].toArray T.p_seglog_Log) :: r)) ?_ ?_
    rotate_left
    · rintro _ w3 ⟨outs, h4, hs⟩
      obtain ⟨z, hs⟩ := out_open hs
      refine wp_ldO hs ?_
      refine ⟨rfl, z, outs, rfl, h4, ?_⟩
      have hs : Sat w3 (lgQ lg M :: slc T.api_Batch 7 z (outs.flatMap encB7) :: batsP outs :: dk M.d D :: r) := hs.sub
      have hs := lgP_close M hs
      exact hs.sub
    have hpre : ∀ (j : Nat), i0 - 1 ≤ j → j ≤ M.l.length → (allB ((M.l.drop (i0 - 1)).take (j - (i0 - 1)))).length ≤ 1000000 := fun j h1 h2 => by
      refine Nat.le_trans ?_ hall
      have : ∀ (a b : List SegA), a.Sublist b → (allB a).length ≤ (allB b).length := fun a b h => by
        induction h with
        | slnil => exact Nat.le_refl _
        | cons x _ ih => unfold allB at *; rw [List.flatMap_cons, List.length_append]; omega
        | cons_cons x _ ih => unfold allB at *; rw [List.flatMap_cons, List.flatMap_cons, List.length_append, List.length_append]; omega
      exact this _ _ ((List.take_sublist _ _).trans (List.drop_sublist _ _))
    refine wp_loop (fun m v w => ∃ (j : Nat) (outs : List BatM), v = ((j : Int), ()) ∧ i0 - 1 ≤ j ∧ (j ≤ M.SM.length ∨ j = i0 - 1) ∧ M.SM.length - j = m ∧ outs.map BatM.p = (allB ((M.l.drop (i0 - 1)).take (j - (i0 - 1)))).filterMap (fromB off) ∧ outs.length < mN ∧
      Sat w (outP ao outs :: lgQ lg M :: dk M.d D :: pt a1 (.cells [.int .i64 off].toArray T.int64) :: pt a2 (.cells [.int .i64 (mN : Int)].toArray T.int) :: pt a0 (.cells [.pointer (some ⟨lg, 0, none⟩)].toArray T.p_seglog_Log) :: r)) (M.SM.length - (i0 - 1))
      ⟨i0 - 1, [], rfl, Nat.le_refl _, .inr rfl, rfl, by simp [allB], by show 0 < mN; omega, hs⟩ ?_
    clear hs
    rintro m _ w ⟨j, outs, rfl, hj1, hj2, hm, hmap, hlt, hs⟩
    refine wp_on ?_
    refine wp_ldO hs ?_
    refine wp_nn ?_
    obtain ⟨hokm, hs⟩ := lgQ_open (hs.pick [1])
    refine wp_ldO hs ?_
    refine wp_if (fun hc => ?_) fun hc => ?_
    rotate_left
    · have hs := lgQ_close M hokm hs
      refine wp_pass (wp_lv ⟨outs, ?_, hs.sub⟩)
      by_cases hlt2 : i0 - 1 < M.SM.length
      · have hje : j = M.SM.length := by omega
        rw [hskip hlt2, hmap, hje]
        rw [List.take_of_length_le (l := M.l.drop (i0 - 1)) (by rw [List.length_drop]; omega)] at hmap ⊢
        have := congrArg List.length hmap
        rw [List.length_map] at this
        rw [List.take_of_length_le (by omega)]
      · have h0 : M.l = [] := List.length_eq_zero_iff.1 (by omega)
        rw [hmap, h0]
        simp [allB]
    have hjl : j < M.SM.length := by omega
    refine wp_ldO hs ?_
    refine wp_nn ?_
    refine wp_ldO hs ?_
    refine wp_ix1 hs (xs := M.SM.map Prod.fst) (enc := encP) j (by rw [List.length_map]; exact hjl) ?_
    have e0 : (M.SM.map Prod.fst)[j]'(by rw [List.length_map]; exact hjl) = M.SM[j].1 := by simp
    rw [e0]
    have hmem : M.SM[j].2.s ∈ M.l := List.mem_map.2 ⟨_, List.getElem_mem hjl, rfl⟩
    have hsok := (hok.mem _ hmem).1
    obtain ⟨kp, hfile⟩ := hhas _ hmem
    have hrl : M.SM[j].2.s.file.length ≤ 4194304 := Nat.le_trans (used_file hfile) hokD.used
    have hbl := file_bs hsok
    obtain ⟨k, hk, hpl, hskp⟩ := find_spec hsok hrl M.gap off
    have hlt2 : i0 - 1 < M.SM.length := by omega
    have hstep : (M.l.drop (i0 - 1)).take (j + 1 - (i0 - 1)) = (M.l.drop (i0 - 1)).take (j - (i0 - 1)) ++ [M.SM[j].2.s] := by
      rw [show j + 1 - (i0 - 1) = (j - (i0 - 1)) + 1 by omega, List.take_succ_eq_append_getElem (by rw [List.length_drop]; omega), List.getElem_drop, hget j hjl]
      congr 3
      omega
    have hnone : (M.SM[j].2.s.bs).filterMap (fromB off) = (M.SM[j].2.s.bs.drop k).filterMap (fromB off) := by
      have e : M.SM[j].2.s.bs = M.SM[j].2.s.bs.take k ++ M.SM[j].2.s.bs.drop k := (List.take_append_drop _ _).symm
      calc (M.SM[j].2.s.bs).filterMap (fromB off) = (M.SM[j].2.s.bs.take k ++ M.SM[j].2.s.bs.drop k).filterMap (fromB off) := by rw [← e]
        _ = (M.SM[j].2.s.bs.drop k).filterMap (fromB off) := by
          rw [List.filterMap_append, filterMap_none (l := M.SM[j].2.s.bs.take k), List.nil_append]
          intro b hb
          exact fromB_none (hsok.bs.valid b (List.mem_of_mem_take hb)).1 (hskp b hb)
    have hall2 : (allB ((M.l.drop (i0 - 1)).take (j + 1 - (i0 - 1)))).filterMap (fromB off) = (allB ((M.l.drop (i0 - 1)).take (j - (i0 - 1)))).filterMap (fromB off) ++ (M.SM[j].2.s.bs.drop k).filterMap (fromB off) := by
      rw [hstep]
      unfold allB
      rw [List.flatMap_append, List.filterMap_append, ← hnone]
      simp
    have hol : outs.length ≤ 1000000 := by
      have := congrArg List.length hmap
      rw [List.length_map] at this
      rw [this]
      exact Nat.le_trans (List.length_filterMap_le _ _) (hpre j hj1 (by omega))
    refine wp_mid (fun q w' => ∃ outs' : List BatM, q = (decide (outs.length + ((M.SM[j].2.s.bs.drop k).filterMap (fromB off)).length < mN), ()) ∧ outs'.map BatM.p = (outs.map BatM.p ++ (M.SM[j].2.s.bs.drop k).filterMap (fromB off)).take mN ∧
        Sat w' (outP ao outs' :: lgQ lg M :: dk M.d D :: pt a1 (.cells [.int .i64 off].toArray T.int64) :: pt a2 (.cells [.int .i64 (mN : Int)].toArray T.int) :: pt a0 (.cells [.pointer (some ⟨lg, 0, none⟩)].toArray T.p_seglog_Log) :: r)) ?_ ?_
    · refine wp_tk hs fun w' hs => ?_
      refine wp_hdO hs ?_
      refine wp_ldO hs ?_
      have hs := seg_at (hs.pick [2]) hjl
      refine wp_call (sfrom_c (gap := M.gap) (a := M.SM[j].1) (t := M.SM[j].2) off hsok hrl hs) fun _ w' hs => ?_
      obtain ⟨rfl, hs⟩ := hs
      refine ret_of ?_ (by first | trivial | (repeat (first | exact trivial | exact fun _ => run_ldO hs | exact fun _ => run_ldG hs | refine And.intro ?_ ?_)))
      refine wp_untick ?_
      have hs := seg_back hjl hs
      have hs := lgQ_close M hokm (hs.pick [1, 1])
      have hs : Sat w' (outP ao outs :: lgQ lg M :: dk M.d D :: pt a1 (.cells [.int .i64 off].toArray T.int64) :: pt a2 (.cells [.int .i64 (mN : Int)].toArray T.int) :: pt a0 (.cells [.pointer (some ⟨lg, 0, none⟩)].toArray T.p_seglog_Log) :: r) := hs.sub
      rw [hpl]
      refine wp_call (walk_c off mN a1 a2 ho hjl hsok hfile hk hlt (by omega) hs) fun _ w' hs => ?_
      obtain ⟨outs', rfl, hm2, -, hs⟩ := hs
      refine ret_of ?_
      refine wp_lt ?_
      refine wp_untick ?_
      exact wp_lv ⟨outs', rfl, hm2, hs⟩
    clear hs
    rintro _ w3 ⟨outs', rfl, hm2, hs⟩
    rw [hmap, ← hall2] at hm2
    have hlm := congrArg List.length hmap
    rw [List.length_map] at hlm
    refine wp_if (fun h5 => ?_) fun h5 => ?_
    · have h5 : ¬ (outs.length + ((M.SM[j].2.s.bs.drop k).filterMap (fromB off)).length < mN) := by simpa using h5
      refine wp_pass (wp_lv ⟨outs', ?_, hs⟩)
      rw [hm2, hskip hlt2]
      have e : allB (M.l.drop (i0 - 1)) = allB ((M.l.drop (i0 - 1)).take (j + 1 - (i0 - 1))) ++ allB ((M.l.drop (i0 - 1)).drop (j + 1 - (i0 - 1))) := by
        unfold allB; rw [← List.flatMap_append, List.take_append_drop]
      rw [e, List.filterMap_append, List.take_append_of_le_length]
      rw [hall2, List.length_append]
      omega
    · have h5 : (outs.length + ((M.SM[j].2.s.bs.drop k).filterMap (fromB off)).length < mN) := by simpa using h5
      refine wp_ltx (y := ((j + 1 : Nat) : Int)) ?_ (by rw [w64 (by omega) (by omega)]; omega)
      have hll2 : ((allB ((M.l.drop (i0 - 1)).take (j + 1 - (i0 - 1)))).filterMap (fromB off)).length < mN := by rw [hall2, List.length_append]; omega
      rw [List.take_of_length_le (by omega)] at hm2
      have hl3 := congrArg List.length hm2
      rw [List.length_map] at hl3
      exact wp_lp (M.SM.length - (j + 1)) ⟨j + 1, outs', rfl, by omega, .inl (by omega), rfl, hm2, by omega, hs⟩
theorem lall_c {r1 : List HP} [hf : Fo l lgP lg A r1] [hf2 : Fo r1 dk A.d D r] (hok : SegsOk 0 A.l) (hhas : HasL A.pre A.l D) (hlen : A.l.length ≤ 1000000) (hall : (allB A.l).length ≤ 1000000) (hs : Sat w l) :
    Ret P F.seglog_Log_All #[.pointer (some ⟨lg, 0, none⟩)] w fun vs w' => ∃ (z : Sl) (outs : List BatM), vs = [z.v] ∧ outs.map BatM.p = allB A.l ∧ Sat w' (slc T.api_Batch 7 z (outs.flatMap encB7) :: batsP outs :: lgP lg A :: dk A.d D :: r) :=
  seglog_Log_All_calls _ <| by
    unfold seglog_Log_All
    have hs := hs.perm (hf.perm.trans (.cons _ hf2.perm))
    clear hf hf2
    have hfn := first_next hok
    have hnx := hok.next (Int.le_refl 0)
    have hf0 : 0 ≤ firstG A.l := by
      cases hq : A.l with
      | nil => decide
      | cons s l0 => rw [hq] at hok; have := hok.1; exact this
    refine wp_ifF ?_ (by simp)
    obtain ⟨M, hM, hs⟩ := lgP_open hs
    subst hM
    refine wp_call (first_c (lg := lg) hs) fun _ w' hs => ?_
    obtain ⟨rfl, hs⟩ := hs
    refine ret_of ?_
    have hs := lgP_close M hs
    have hfn : firstG M.l ≤ nextL M.l := hfn
    have hnx : 0 ≤ nextL M.l ∧ nextL M.l ≤ 1099511627777 := hnx
    have hf0 : 0 ≤ firstG M.l := hf0
    refine wp_call (lread_c (lg := lg) (A := M.A) (D := D) (firstG M.l) 1099511627776 (by omega) (by omega) hok hhas hlen hall hs) fun _ w' hs => ?_
    obtain ⟨z, outs, rfl, hmap, hs⟩ := hs
    refine ret_of ?_
    refine wp_lt ?_
    have hra : readA M.A.l (firstG M.l) 1099511627776 = (0, allB M.A.l) := read_all hok (by omega) (by omega)
    rw [hra] at hmap
    exact ⟨rfl, z, outs, rfl, hmap, hs⟩
end
end Go.Dec
