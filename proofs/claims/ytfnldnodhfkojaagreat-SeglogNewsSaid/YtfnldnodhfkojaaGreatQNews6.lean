/- What the claim of this folder leans on: our own texts, joined, without what it does not use. -/
import Derived.Test.YtfnldnodhfkojaaGreatRows
import Derived.WalkKit
import Derived.ProofKit
import Derived.OpenShut
import Derived.RowKit3
import Derived.OrdersHeld
import Derived.Scope
import Derived.KernelRfl
import Derived.Laws.Sem
import Derived.Laws.StructEq
import Derived.Deep.AppendSrc
import Derived.Laws.BytesArg
import Derived.Laws.RangeString
import Derived.Maps.RangeRun
import Derived.Lib.ConvBytes
import Derived.Lib.SlBytesConst
import Derived.ChangeSlices
import Derived.ChangeMaps5
import Derived.ChangeSame
import Derived.Deep.Slices
import Derived.Deep.Fields
import Derived.Test.YtfnldnodhfkojaaGreatProg
import Derived.Laws.MakeOwn
import Derived.Sort.MapsRangeIn
import Derived.Sort.KeysCollected
import Derived.RangeFuncNested
import Derived.RangeFuncBound
import Derived.RangeFuncCalls
import Derived.RangeFuncLeaves
import Derived.RangeFuncBox
import Derived.OwnWalkIn
import Derived.TacticsInMore
import Derived.RegionIn
import Derived.LoopNIn
import Derived.LoopIn
import Derived.Maps.AppendAt
import Derived.Shelf.Abstract
import Derived.Test.YtfnldnodhfkojaaGreatQNews1
import Derived.Test.YtfnldnodhfkojaaGreatQNews2
import Derived.Test.YtfnldnodhfkojaaGreatQNews3
import Derived.Test.YtfnldnodhfkojaaGreatQNews4
import Derived.Test.YtfnldnodhfkojaaGreatQNews5
namespace Go.Dec
set_option linter.unusedVariables false
set_option linter.unusedSimpArgs false
theorem bytes_ext {a b : ByteArray} (h : a.data.toList = b.data.toList) : a = b := by
  cases a; cases b; exact congrArg ByteArray.mk (Array.ext' h)
theorem less_irrefl : ∀ x : List UInt8, Op.bytesLess x x = false
  | [] => rfl
  | a :: x => by rw [Op.bytesLess, less_irrefl x]; simp
theorem less_trans : ∀ {x y z : List UInt8}, Op.bytesLess x y = true → Op.bytesLess y z = true → Op.bytesLess x z = true
  | [], _, [], _, h => by cases ‹List UInt8› <;> simp [Op.bytesLess] at h
  | [], _, _ :: _, _, _ => rfl
  | _ :: _, [], _, h, _ => by simp [Op.bytesLess] at h
  | _ :: _, _ :: _, [], _, h => by simp [Op.bytesLess] at h
  | a :: x, b :: y, c :: z, h1, h2 => by
    simp only [Op.bytesLess, Bool.or_eq_true, decide_eq_true_eq, Bool.and_eq_true, beq_iff_eq] at h1 h2 ⊢
    rcases h1 with h1 | ⟨rfl, h1⟩
    · rcases h2 with h2 | ⟨rfl, h2⟩
      · exact .inl (UInt8.lt_trans h1 h2)
      · exact .inl h1
    · rcases h2 with h2 | ⟨rfl, h2⟩
      · exact .inl h2
      · exact .inr ⟨rfl, less_trans h1 h2⟩
theorem less_total : ∀ (x y : List UInt8), Op.bytesLess x y = true ∨ x = y ∨ Op.bytesLess y x = true
  | [], [] => .inr (.inl rfl)
  | [], _ :: _ => .inl rfl
  | _ :: _, [] => .inr (.inr rfl)
  | a :: x, b :: y => by
    simp only [Op.bytesLess, Bool.or_eq_true, decide_eq_true_eq, Bool.and_eq_true, beq_iff_eq, List.cons.injEq]
    rcases Nat.lt_trichotomy a.toNat b.toNat with h | h | h
    · exact .inl (.inl (UInt8.lt_iff_toNat_lt.2 h))
    · have := UInt8.toNat_inj.1 h
      subst this
      rcases less_total x y with h | rfl | h
      · exact .inl (.inr ⟨rfl, h⟩)
      · exact .inr (.inl ⟨rfl, rfl⟩)
      · exact .inr (.inr (.inr ⟨rfl, h⟩))
    · exact .inr (.inr (.inl (UInt8.lt_iff_toNat_lt.2 h)))
/-- A text comes ahead of another. -/
def ltS (a b : ByteArray) : Bool := Op.bytesLess (ByteArray.toList a) (ByteArray.toList b)
theorem ltS_irrefl (a : ByteArray) : ltS a a = false := less_irrefl _
theorem ltS_trans {a b c : ByteArray} (h1 : ltS a b = true) (h2 : ltS b c = true) : ltS a c = true := less_trans h1 h2
theorem ltS_total (a b : ByteArray) : ltS a b = true ∨ a = b ∨ ltS b a = true := by
  rcases less_total (ByteArray.toList a) (ByteArray.toList b) with h | h | h
  · exact .inl h
  · exact .inr (.inl (bytes_toList.1 h))
  · exact .inr (.inr h)
theorem ltS_asymm {a b : ByteArray} (h : ltS a b = true) : ltS b a = false := by
  cases hb : ltS b a with
  | false => rfl
  | true => have := ltS_trans h hb; rw [ltS_irrefl] at this; cases this
structure FileA where
  name : ByteArray
  b : List UInt8
  kept : Nat
structure DiskA where
  room : Nat
  left : Int
  gone : Bool
  fs : List FileA
def used (fs : List FileA) : Nat := (fs.map fun f => f.b.length).sum
def DiskA.free (A : DiskA) : Nat := A.room - used A.fs
def okC (c : UInt8) : Bool := (97 ≤ c.toNat && c.toNat ≤ 122) || (48 ≤ c.toNat && c.toNat ≤ 57) || c.toNat == 46 || c.toNat == 45
def nameF (s : ByteArray) : Bool := s.data.toList.all okC && (1 ≤ s.size && s.size ≤ 24)
def hasF (fs : List FileA) (n : ByteArray) : Bool := fs.any fun f => decide (f.name = n)
def doneA (A : DiskA) : DiskA := if A.left > 0 then { A with left := A.left - 1, gone := decide (A.left - 1 = 0) } else A
/-- One file, changed. -/
def updF (n : ByteArray) (g : FileA → FileA) (f : FileA) : FileA := if f.name = n then g f else f
def insF (x : FileA) : List FileA → List FileA
  | [] => [x]
  | f :: r => if ltS x.name f.name then x :: f :: r else f :: insF x r
def dropF (n : ByteArray) (fs : List FileA) : List FileA := fs.filter fun f => !decide (f.name = n)
def appendA (A : DiskA) (n : ByteArray) (bs : List UInt8) : Int × DiskA :=
  if A.gone then (9, A) else if nameF n = false then (2, A) else if bs.length > A.free ∨ (hasF A.fs n = false ∧ A.fs.length ≥ 128) then (5, A) else
    (0, doneA { A with fs := if hasF A.fs n then A.fs.map (updF n fun f => { f with b := f.b ++ bs }) else insF ⟨n, bs, 0⟩ A.fs })
def asked (ns : List ByteArray) (n : ByteArray) : Bool := ns.isEmpty || ns.any fun m => decide (m = n)
def syncF (ns : List ByteArray) (f : FileA) : FileA := if asked ns f.name then { f with kept := f.b.length } else f
def syncA (A : DiskA) (ns : List ByteArray) : Int × DiskA :=
  if A.gone then (9, A) else if ns.all (hasF A.fs) = false then (3, A) else (0, doneA { A with fs := A.fs.map (syncF ns) })
def lenF (fs : List FileA) (n : ByteArray) : Nat := match fs.find? fun f => decide (f.name = n) with
  | some f => f.b.length
  | none => 0
def cutA' (A : DiskA) (n : ByteArray) (k : Int) : Int × DiskA :=
  if A.gone then (9, A) else if hasF A.fs n = false then (3, A) else if k < 0 ∨ k > lenF A.fs n then (2, A) else
    (0, doneA { A with fs := A.fs.map (updF n fun f => { f with b := f.b.take k.toNat, kept := min f.kept k.toNat }) })
def remA (A : DiskA) (n : ByteArray) : Int × DiskA :=
  if A.gone then (9, A) else if hasF A.fs n = false then (3, A) else (0, doneA { A with fs := dropF n A.fs })
def fuseA (A : DiskA) (n : Int) : DiskA := if A.gone then A else { A with left := if n < 0 then -1 else n, gone := decide (n = 0) }
/-- What stays so. -/
structure okA (A : DiskA) : Prop where
  room : A.room ≤ 4194304
  used : used A.fs ≤ 4194304
  many : A.fs.length ≤ 128
  left : -1 ≤ A.left ∧ A.left ≤ 9223372036854775807
  sorted : A.fs.Pairwise fun a b => ltS a.name b.name = true
  kept : ∀ f ∈ A.fs, f.kept ≤ f.b.length
  names : ∀ f ∈ A.fs, f.name.size ≤ 24
theorem used_cons (f : FileA) (fs : List FileA) : used (f :: fs) = f.b.length + used fs := by simp [used]
theorem used_perm {a b : List FileA} (h : a.Perm b) : used a = used b := (h.map _).sum_nat
theorem used_mem : ∀ {fs : List FileA} {f : FileA}, f ∈ fs → f.b.length ≤ used fs
  | g :: r, f, h => by
    rw [used_cons]
    rcases List.mem_cons.1 h with rfl | h
    · omega
    · have := used_mem h; omega
theorem names_nodup {fs : List FileA} (h : fs.Pairwise fun a b => ltS a.name b.name = true) : (fs.map (·.name)).Nodup := by
  rw [List.Nodup, List.pairwise_map]
  exact h.imp fun {a b} hab e => by rw [e, ltS_irrefl] at hab; cases hab
theorem hasF_iff {fs : List FileA} {n : ByteArray} : hasF fs n = true ↔ ∃ f ∈ fs, f.name = n := by simp [hasF]
theorem hasF_not {fs : List FileA} {n : ByteArray} : hasF fs n = false ↔ ∀ f ∈ fs, f.name ≠ n := by simp [hasF]
instance : ByE P T.s_uint8 T.uint8 := ⟨by kernel_rfl, by kernel_rfl, by kernel_rfl⟩
instance : StT P T.string := ⟨by kernel_rfl⟩
instance : KeyT P T.string ekS := keyT_str (by kernel_rfl)
instance : MapT P T.m_string_p_disk_file T.string (.pointer none) := ⟨T.p_disk_file, by kernel_rfl, by kernel_rfl⟩
abbrev evF (b : Nat) : Value := .pointer (some ⟨b, 0, none⟩)
/-- A file: its block, its bytes' slice, what it is. -/
structure FileM where
  at_ : Nat
  x : Sl
  f : FileA
def fileP (t : FileM) : HP := HP.star (pt t.at_ (.cells #[t.x.v, .int .i64 t.f.kept] T.disk_file)) (slc T.uint8 1 t.x (t.f.b.flatMap encU))
def dk (d : Nat) (A : DiskA) : HP := HP.ex fun m : Nat => HP.ex fun FS : List FileM => HP.and ((FS.map (·.f)).Perm A.fs ∧ okA A)
  (HP.star (pt d (.cells #[.int .i64 A.left, .bool A.gone, .int .i64 A.room, .int .i64 (used A.fs), .map (some m)] T.disk_Disk))
    (HP.star (mapP ekS evF m (FS.map fun t => (t.f.name, t.at_))) (HP.all (FS.map fileP))))
section
variable {w : World} {l r : List HP}
theorem Sat.all_nil (hs : Sat w l) : Sat w (HP.all [] :: l) :=
  ⟨⟨fun _ => none, World.env' w⟩, World.ph w, ⟨(fun _ _ h => by cases h), rfl⟩, PH.sub_refl _, (fun _ => Or.inl rfl), trivial, hs⟩
theorem Sat.all_cons {a : HP} {L : List HP} (hs : Sat w (HP.all (a :: L) :: l)) : Sat w (a :: HP.all L :: l) := by
  refine Sat.star (A := a) (B := HP.all L) (hs.imp fun p h => ?_)
  obtain ⟨p1, p2, h1, h2, hd, hA, hl⟩ := h
  exact ⟨p1, p2, h1, h2, hd, hA, hl⟩
theorem Sat.all_put {a : HP} {L : List HP} (hs : Sat w (a :: HP.all L :: l)) : Sat w (HP.all (a :: L) :: l) := by
  refine (Sat.star_mk (A := a) (B := HP.all L) hs).imp fun p h => ?_
  obtain ⟨p1, p2, h1, h2, hd, hA, hl⟩ := h
  exact ⟨p1, p2, h1, h2, hd, hA, hl⟩
theorem Sat.all_perm {L L' : List HP} (hp : L.Perm L') (hs : Sat w (HP.all L :: l)) : Sat w (HP.all L' :: l) := hs.imp fun p h => satL_perm hp h
theorem dk_open {d : Nat} {A : DiskA} (hs : Sat w (dk d A :: l)) : ∃ (m : Nat) (FS : List FileM), (FS.map FileM.f).Perm A.fs ∧ okA A ∧
    Sat w (pt d (.cells #[.int .i64 A.left, .bool A.gone, .int .i64 A.room, .int .i64 (used A.fs), .map (some m)] T.disk_Disk) :: mapP ekS evF m (FS.map fun t => (t.f.name, t.at_)) :: HP.all (FS.map fileP) :: l) := by
  obtain ⟨m, hs⟩ := hs.ex
  obtain ⟨FS, hs⟩ := hs.ex
  obtain ⟨⟨h1, h2⟩, hs⟩ := hs.and
  have hs := hs.star
  have hs := (hs.pick [1]).star
  exact ⟨m, FS, h1, h2, hs.pick [2, 0, 0]⟩
theorem dk_shut {d : Nat} {A : DiskA} {m : Nat} {FS : List FileM} (hp : (FS.map FileM.f).Perm A.fs) (hok : okA A)
    (hs : Sat w (pt d (.cells #[.int .i64 A.left, .bool A.gone, .int .i64 A.room, .int .i64 (used A.fs : Nat), .map (some m)] T.disk_Disk) :: mapP ekS evF m (FS.map fun t => (t.f.name, t.at_)) :: HP.all (FS.map fileP) :: l)) : Sat w (dk d A :: l) := by
  refine .ex_mk m (.ex_mk FS (.and_mk ⟨hp, hok⟩ (.star_mk ?_)))
  refine (Sat.star_mk (hs.pick [1, 1])).pick [1]
/-- A disk, put together again out of its parts. -/
theorem dk_close {d : Nat} {A : DiskA} (m : Nat) {FS : List FileM} {r1 r2 r3 l' : List HP} {u : Int} (hp : (FS.map FileM.f).Perm A.fs) (hok : okA A) (hs : Sat w l)
    [h1 : FocB l d (.cells [.int .i64 A.left, .bool A.gone, .int .i64 A.room, .int .i64 u, .map (some m)].toArray T.disk_Disk) r1] [h2 : FoM r1 m ekS evF (FS.map fun t => (t.f.name, t.at_)) r2] [h3 : Foc r2 (HP.all (FS.map fileP)) r3] [h4 : Sub r3 l']
    (hu : u = (used A.fs : Nat) := by rfl) : Sat w (dk d A :: l') := by
  subst hu
  have h5 : Sat w (dk d A :: r3) := dk_shut hp hok (hs.perm (h1.perm.trans (.cons _ (h2.perm.trans (.cons _ h3.perm)))))
  exact h5.sub
/-- One file's parts. -/
theorem file_open {FS : List FileM} {t : FileM} (hs : Sat w l) [h : Foc l (HP.all (FS.map fileP)) r] (ht : t ∈ FS) : ∃ FS', FS.Perm (t :: FS') ∧
    Sat w (pt t.at_ (.cells #[t.x.v, .int .i64 t.f.kept] T.disk_file) :: slc T.uint8 1 t.x (t.f.b.flatMap encU) :: HP.all (FS'.map fileP) :: r) := by
  obtain ⟨s, u, rfl⟩ := List.append_of_mem ht
  have hp : (s ++ t :: u).Perm (t :: (s ++ u)) := List.perm_middle
  exact ⟨s ++ u, hp, (((hs.perm h.perm).all_perm (hp.map fileP)).all_cons).star⟩
/-- A file, put together again. -/
theorem file_close {FS : List FileM} (t : FileM) {r1 r2 r3 : List HP} (hs : Sat w l) [h1 : FocB l t.at_ (.cells [.slice t.x.a t.x.len t.x.cap, .int .i64 t.f.kept].toArray T.disk_file) r1] [h2 : FocS r1 t.x T.uint8 1 (t.f.b.flatMap encU) r2] [h3 : Foc r2 (HP.all (FS.map fileP)) r3] :
    Sat w (HP.all ((t :: FS).map fileP) :: r3) :=
  Sat.all_put (Sat.star_mk (A := pt t.at_ (.cells #[t.x.v, .int .i64 t.f.kept] T.disk_file)) (B := slc T.uint8 1 t.x (t.f.b.flatMap encU)) (hs.perm (h1.perm.trans (.cons _ (h2.perm.trans (.cons _ h3.perm))))))
end
end Go.Dec
namespace Go.Dec
set_option linter.unusedVariables false
set_option linter.unusedSimpArgs false
section
variable {w : World} {l r : List HP} {d : Nat} {A : DiskA}
theorem new_ok (n : Nat) (hn : n ≤ 4194304) (hs : Sat w l) : Ret P F.disk_New #[.int .i64 n] w fun vs w' => ∃ d, vs = [.pointer (some ⟨d, 0, none⟩), .int .i64 0] ∧ Sat w' (dk d ⟨n, -1, false, []⟩ :: l) :=
  disk_New_calls n <| by
    unfold disk_New
    refine wp_ifF ?_
    refine wp_mmake ekS evF hs fun m w' hs => ?_
    refine wp_boxO hs fun d w' hs => ?_
    refine ⟨rfl, d, rfl, ?_⟩
    exact dk_shut (FS := []) (.refl _) ⟨hn, by simp [used], by simp, by simp, by simp, by simp, by simp⟩ ((hs.all_nil).pick [1, 1, 0])
theorem okC_int (c : UInt8) : ((!(decide ((c.toNat : Int) ≥ 97) && decide ((c.toNat : Int) ≤ 122)) && !(decide ((c.toNat : Int) ≥ 48) && decide ((c.toNat : Int) ≤ 57)) && (c.toNat : Int) != 46 && (c.toNat : Int) != 45) = true ↔ okC c = false) := by
  simp [okC]; omega
theorem name_c (s : ByteArray) (hs : Sat w l) : Ret P F.disk_Name #[.string s] w fun vs w' => vs = [.bool (nameF s)] ∧ Sat w' l :=
  disk_Name_calls s <| by
    unfold disk_Name
    refine wp_if (fun h => ?_) fun h => ?_
    · refine ⟨rfl, ?_, hs⟩
      have : nameF s = false := by simp [nameF]; omega
      rw [this]
    refine wp_toB hs fun x w' hs => ?_
    have hl := hs.slen x
    have hsz : s.data.toList.length = s.size := by simp
    refine wp_mid (fun _ w' => s.data.toList.all okC = true ∧ Sat w' l) ?_ ?_
    · refine wp_loop (fun n v w => ∃ i : Nat, v = ((i : Int), ()) ∧ i ≤ s.data.toList.length ∧ s.data.toList.length - i = n ∧ (s.data.toList.take i).all okC = true ∧ Sat w (slc T.uint8 1 x (s.data.toList.flatMap encU) :: l)) s.data.toList.length ⟨0, rfl, by omega, rfl, rfl, hs⟩ ?_
      clear hs
      rintro n _ w ⟨i, rfl, hi, hn, hall, hs⟩
      refine wp_on ?_
      refine wp_if (fun hc => ?_) fun hc => ?_
      · have hil : i < s.data.toList.length := by omega
        refine wp_ix1 hs i hil ?_
        refine wp_lt (wp_lt (wp_lt ?_))
        have htk : (s.data.toList.take (i + 1)).all okC = okC s.data.toList[i] := by
          rw [List.take_add_one, List.getElem?_eq_getElem hil, List.all_append, hall]; simp
        refine wp_ite (fun h3 => ?_) fun h3 => ?_
        · have h3 := (okC_int _).1 h3
          refine wp_pass (wp_pass ?_)
          refine ⟨rfl, ?_, hs.tail⟩
          have : nameF s = false := by
            have : s.data.toList.all okC = false := by
              rw [← List.take_append_drop (i + 1) s.data.toList, List.all_append, htk, h3]; rfl
            simp only [nameF, this, Bool.false_and]
          rw [this]
        · have h3 : okC s.data.toList[i] = true := by
            cases hk : okC s.data.toList[i] with
            | true => rfl
            | false => have := (okC_int _).2 hk; rw [this] at h3; cases h3
          refine wp_dn (us' := [.int .i64 ((i + 1 : Nat) : Int)]) (by (try simp (disch := omega) only [w64]); first | rfl | (congr; omega)) ?_
          refine wp_lp (s.data.toList.length - (i + 1)) ?_
          exact ⟨i + 1, rfl, by omega, rfl, by rw [htk, h3], hs⟩
      · refine wp_pass (wp_lv ⟨?_, hs.tail⟩)
        rwa [List.take_of_length_le (by omega)] at hall
    · rintro _ w' ⟨hall, hs⟩
      refine wp_on ?_
      refine ⟨rfl, ?_, hs⟩
      have : nameF s = true := by simp only [nameF, hall, Bool.true_and, Bool.and_eq_true, decide_eq_true_eq]; omega
      rw [this]
theorem may_c [hf : Fo l dk d A r] (hs : Sat w l) : Ret P F.disk_Disk_may #[.pointer (some ⟨d, 0, none⟩)] w fun vs w' => vs = [.int .i64 (if A.gone then 9 else 0)] ∧ Sat w' (dk d A :: r) :=
  disk_Disk_may_calls _ <| by
    unfold disk_Disk_may
    obtain ⟨m, FS, hp, hok, hs⟩ := dk_open (hs.perm hf.perm)
    refine wp_lt (wp_ifF ?_ (by simp))
    (repeat (first | with_reducible (first | refine wp_on ?_ | refine wp_nn ?_ | refine wp_nng ?_ | refine wp_ldO hs ?_ | refine wp_ldG hs ?_ | refine wp_untick ?_ | refine wp_tk hs fun _ hs => ?_ | refine wp_newO hs fun _ _ hs => ?_ | refine wp_boxO hs fun _ _ hs => ?_ | refine wp_stO hs fun _ hs => ?_ | refine wp_stG hs fun _ hs => ?_) | (apply wp_must; (focus first | trivial | omega | assumption)) | refine wp_ltw ?_ | refine wp_lt ?_))
    refine wp_if (fun h => ?_) fun h => ?_
    · exact ⟨rfl, by rw [if_pos h], dk_close m hp hok hs⟩
    · exact ⟨rfl, by rw [if_neg h], dk_close m hp hok hs⟩
theorem spend_c {m : Nat} {n room u : Int} (hn : n ≤ 9223372036854775807 ∧ -1 ≤ n) [hf : FocB l d (.cells #[.int .i64 n, .bool false, .int .i64 room, .int .i64 u, .map (some m)] T.disk_Disk) r] (hs : Sat w l) :
    Ret P F.disk_power_spend #[.pointer (some (Addr.add ⟨d, 0, none⟩ 0))] w fun vs w' => vs = [] ∧
      Sat w' (pt d (.cells #[.int .i64 (if n > 0 then n - 1 else n), .bool (if n > 0 then decide (n - 1 = 0) else false), .int .i64 room, .int .i64 u, .map (some m)] T.disk_Disk) :: r) :=
  disk_power_spend_calls _ <| by
    unfold disk_power_spend
    have hs := hs.focB d
    (repeat (first | with_reducible (first | refine wp_on ?_ | refine wp_nn ?_ | refine wp_nng ?_ | refine wp_ldO hs ?_ | refine wp_ldG hs ?_ | refine wp_untick ?_ | refine wp_tk hs fun _ hs => ?_ | refine wp_newO hs fun _ _ hs => ?_ | refine wp_boxO hs fun _ _ hs => ?_ | refine wp_stO hs fun _ hs => ?_ | refine wp_stG hs fun _ hs => ?_) | (apply wp_must; (focus first | trivial | omega | assumption)) | refine wp_ltw ?_ | refine wp_lt ?_))
    refine wp_mid (fun _ w' => Sat w' (pt d (.cells #[.int .i64 (if n > 0 then n - 1 else n), .bool (if n > 0 then decide (n - 1 = 0) else false), .int .i64 room, .int .i64 u, .map (some m)] T.disk_Disk) :: r)) ?_ ?_
    · refine wp_if (fun h => ?_) fun h => ?_
      · (repeat (first | with_reducible (first | refine wp_on ?_ | refine wp_nn ?_ | refine wp_nng ?_ | refine wp_ldO hs ?_ | refine wp_ldG hs ?_ | refine wp_untick ?_ | refine wp_tk hs fun _ hs => ?_ | refine wp_newO hs fun _ _ hs => ?_ | refine wp_boxO hs fun _ _ hs => ?_ | refine wp_stO hs fun _ hs => ?_ | refine wp_stG hs fun _ hs => ?_) | (apply wp_must; (focus first | trivial | omega | assumption)) | refine wp_ltw ?_ | refine wp_lt ?_))
        refine wp_lv ?_
        rw [if_pos h, if_pos h]
        rw [w64 (x := n - 1) (by omega) (by omega)] at hs
        exact hs
      · refine wp_lv ?_
        rw [if_neg h, if_neg h]; exact hs
    · rintro _ w' hs
      refine wp_on ?_
      exact ⟨rfl, rfl, hs⟩
/-- What 'spend' leaves is what is said of it. -/
theorem doneA_eq (A : DiskA) (h : A.gone = false) : doneA A = ⟨A.room, if A.left > 0 then A.left - 1 else A.left, if A.left > 0 then decide (A.left - 1 = 0) else false, A.fs⟩ := by
  unfold doneA
  split
  · rfl
  · rw [← h]
theorem free_c [hf : Fo l dk d A r] (hs : Sat w l) : Ret P F.disk_Disk_Free #[.pointer (some ⟨d, 0, none⟩)] w fun vs w' => vs = [.int .i64 (A.free : Nat)] ∧ Sat w' (dk d A :: r) :=
  disk_Disk_Free_calls _ <| by
    unfold disk_Disk_Free
    obtain ⟨m, FS, hp, hok, hs⟩ := dk_open (hs.perm hf.perm)
    refine wp_ifF ?_ (by simp)
    have h1 := hok.room
    have h2 := hok.used
    refine wp_tk hs fun w' hs => ?_
    refine wp_nn ?_
    refine wp_ldO hs ?_
    refine wp_nn ?_
    refine wp_ldO hs ?_
    refine wp_lw (y := (A.free : Nat)) ?_ ?_
    · have e : IntKind.wrap .i64 ((A.room : Int) - (used A.fs : Nat)) = (A.room : Int) - (used A.fs : Nat) := w64e
      rw [e]
      unfold DiskA.free
      split <;> omega
    exact wp_untick ⟨rfl, rfl, dk_close m hp hok hs⟩
theorem gone_c [hf : Fo l dk d A r] (hs : Sat w l) : Ret P F.disk_Disk_Gone #[.pointer (some ⟨d, 0, none⟩)] w fun vs w' => vs = [.bool A.gone] ∧ Sat w' (dk d A :: r) :=
  disk_Disk_Gone_calls _ <| by
    unfold disk_Disk_Gone
    obtain ⟨m, FS, hp, hok, hs⟩ := dk_open (hs.perm hf.perm)
    (repeat (first | with_reducible (first | refine wp_on ?_ | refine wp_nn ?_ | refine wp_nng ?_ | refine wp_ldO hs ?_ | refine wp_ldG hs ?_ | refine wp_untick ?_ | refine wp_tk hs fun _ hs => ?_ | refine wp_newO hs fun _ _ hs => ?_ | refine wp_boxO hs fun _ _ hs => ?_ | refine wp_stO hs fun _ hs => ?_ | refine wp_stG hs fun _ hs => ?_) | (apply wp_must; (focus first | trivial | omega | assumption)) | refine wp_ltw ?_ | refine wp_lt ?_))
    exact ⟨rfl, by simp, dk_close m hp hok hs⟩
theorem fuse_c (n : Int) (hn : -9223372036854775808 ≤ n ∧ n ≤ 9223372036854775807) [hf : Fo l dk d A r] (hs : Sat w l) : Ret P F.disk_Disk_Fuse #[.pointer (some ⟨d, 0, none⟩), .int .i64 n] w fun vs w' => vs = [] ∧ Sat w' (dk d (fuseA A n) :: r) :=
  disk_Disk_Fuse_calls _ n <| by
    unfold disk_Disk_Fuse
    obtain ⟨m, FS, hp, hok, hs⟩ := dk_open (hs.perm hf.perm)
    refine wp_nng ?_
    refine wp_ldO hs ?_
    unfold fuseA
    refine wp_if (fun h => ?_) fun h => ?_
    · have h : A.gone = true := by simpa using h
      rw [if_pos h]
      exact ⟨rfl, rfl, dk_close m hp hok hs⟩
    · have h : ¬ A.gone = true := by simpa using h
      rw [if_neg h]
      have e : (if -1 > n then -1 else n) = if n < 0 then -1 else n := by split <;> split <;> omega
      rw [e]
      have hok' : okA { A with left := if n < 0 then -1 else n, gone := decide (n = 0) } := ⟨hok.room, hok.used, hok.many, by show -1 ≤ (if n < 0 then -1 else n) ∧ (if n < 0 then -1 else n) ≤ 9223372036854775807; split <;> omega, hok.sorted, hok.kept, hok.names⟩
      (repeat (first | with_reducible (first | refine wp_on ?_ | refine wp_nn ?_ | refine wp_nng ?_ | refine wp_ldO hs ?_ | refine wp_ldG hs ?_ | refine wp_untick ?_ | refine wp_tk hs fun _ hs => ?_ | refine wp_newO hs fun _ _ hs => ?_ | refine wp_boxO hs fun _ _ hs => ?_ | refine wp_stO hs fun _ hs => ?_ | refine wp_stG hs fun _ hs => ?_) | (apply wp_must; (focus first | trivial | omega | assumption)) | refine wp_ltw ?_ | refine wp_lt ?_))
      have eb : (n == 0) = decide (n = 0) := by rw [Bool.eq_iff_iff]; simp
      rw [eb] at hs
      exact ⟨rfl, rfl, dk_close m hp hok' hs⟩
end
end Go.Dec
namespace Go.Dec
set_option linter.unusedVariables false
set_option linter.unusedSimpArgs false
theorem find_name {fs : List FileA} {n : ByteArray} (hs : (fs.map (·.name)).Nodup) {f : FileA} (hf : f ∈ fs) (hn : f.name = n) : fs.find? (fun f => decide (f.name = n)) = some f := by
  subst hn
  induction fs with
  | nil => cases hf
  | cons g r ih =>
    rw [List.map_cons, List.nodup_cons] at hs
    rcases List.mem_cons.1 hf with rfl | hf
    · rw [List.find?_cons_of_pos (by simp)]
    · rw [List.find?_cons_of_neg (by simp; exact fun e => hs.1 (List.mem_map.2 ⟨f, hf, e.symm⟩))]
      exact ih hs.2 hf
theorem lenF_eq {fs : List FileA} {n : ByteArray} (hs : (fs.map (·.name)).Nodup) {f : FileA} (hf : f ∈ fs) (hn : f.name = n) : lenF fs n = f.b.length := by rw [lenF, find_name hs hf hn]
section
variable {w : World} {l r : List HP} {d : Nat} {A : DiskA}
/-- What a map's entry, or none, says of the files. -/
theorem in_fs {FS : List FileM} (hp : (FS.map FileM.f).Perm A.fs) {n : ByteArray} {b : Nat} (h : (n, b) ∈ FS.map fun t => (t.f.name, t.at_)) : ∃ t ∈ FS, t.at_ = b ∧ t.f.name = n ∧ t.f ∈ A.fs := by
  obtain ⟨t, ht, he⟩ := List.mem_map.1 h
  simp only [Prod.mk.injEq] at he
  exact ⟨t, ht, he.2, he.1, hp.mem_iff.1 (List.mem_map.2 ⟨t, ht, rfl⟩)⟩
theorem not_fs {FS : List FileM} (hp : (FS.map FileM.f).Perm A.fs) {n : ByteArray} (h : ∀ b, (n, b) ∉ FS.map fun t => (t.f.name, t.at_)) : ∀ f ∈ A.fs, f.name ≠ n := fun f hf e => by
  obtain ⟨t, ht, rfl⟩ := List.mem_map.1 (hp.mem_iff.2 hf)
  exact h t.at_ (List.mem_map.2 ⟨t, ht, by rw [e]⟩)
/-- One file told apart: the others have other names. -/
theorem apart {FS FS' : List FileM} {t : FileM} (hp : (FS.map FileM.f).Perm A.fs) (hok : okA A) (h : FS.Perm (t :: FS')) :
    A.fs.Perm (t.f :: FS'.map FileM.f) ∧ (∀ f ∈ FS'.map FileM.f, f.name ≠ t.f.name) ∧ t.f ∈ A.fs := by
  have h1 : A.fs.Perm (t.f :: FS'.map FileM.f) := hp.symm.trans (h.map FileM.f)
  have h2 : ((t.f :: FS'.map FileM.f).map (·.name)).Nodup := (h1.map _).nodup_iff.1 (names_nodup hok.sorted)
  rw [List.map_cons, List.nodup_cons] at h2
  exact ⟨h1, fun f hf e => h2.1 (List.mem_map.2 ⟨f, hf, e⟩), h1.mem_iff.2 (List.mem_cons_self ..)⟩
theorem clone_c (x : Sl) (bs : List UInt8) (hb : bs.length ≤ 100000000) [hf : FocR l x 1 (bs.flatMap encU)] (hs : Sat w l) : Ret P F.bytes_Clone #[x.v] w fun vs w' => ∃ z : Sl, vs = [z.v] ∧ Sat w' (slc T.uint8 1 z (bs.flatMap encU) :: l) :=
  bytes_Clone_calls x <| by
    unfold bytes_Clone
    refine wp_if (fun h => ?_) fun h => ?_
    · have : bs = [] := by
        obtain ⟨hlen, h0 | ⟨b, off, arr, T', fr, ha, -⟩⟩ := hf.rd w hs
        · rw [flat_len, h0] at hlen; exact List.length_eq_zero_iff.1 (by omega)
        · rw [h] at ha; cases ha
      subst this
      exact ⟨rfl, ⟨none, 0, 0⟩, rfl, hs.slc_nil⟩
    · refine wp_slit hs ([] : List UInt8) (enc := encU) bs0 fun b w' hs => ?_
      refine wp_app' hs (xs := ([] : List UInt8)) (ys := bs) (enc := encU) (fun z w' hs => ?_) (by simp; omega)
      exact ⟨rfl, z, rfl, hs⟩
theorem read_c (n : ByteArray) [hf : Fo l dk d A r] (hs : Sat w l) : Ret P F.disk_Disk_Read #[.pointer (some ⟨d, 0, none⟩), .string n] w fun vs w' =>
    (∃ f ∈ A.fs, f.name = n ∧ ∃ z : Sl, vs = [z.v, .int .i64 0] ∧ Sat w' (slc T.uint8 1 z (f.b.flatMap encU) :: dk d A :: r)) ∨ ((∀ f ∈ A.fs, f.name ≠ n) ∧ vs = [.slice none 0 0, .int .i64 3] ∧ Sat w' (dk d A :: r)) :=
  disk_Disk_Read_calls _ n <| by
    unfold disk_Disk_Read
    obtain ⟨m, FS, hp, hok, hs⟩ := dk_open (hs.perm hf.perm)
    refine wp_ifF ?_ (by simp)
    (repeat (first | with_reducible (first | refine wp_on ?_ | refine wp_nn ?_ | refine wp_nng ?_ | refine wp_ldO hs ?_ | refine wp_ldG hs ?_ | refine wp_untick ?_ | refine wp_tk hs fun _ hs => ?_ | refine wp_newO hs fun _ _ hs => ?_ | refine wp_boxO hs fun _ _ hs => ?_ | refine wp_stO hs fun _ hs => ?_ | refine wp_stG hs fun _ hs => ?_) | (apply wp_must; (focus first | trivial | omega | assumption)) | refine wp_ltw ?_ | refine wp_lt ?_))
    refine wp_look hs (fun b hb => ?_) fun hb => ?_
    · obtain ⟨t, ht, rfl, rfl, hA⟩ := in_fs hp hb
      obtain ⟨FS', hpm, hs⟩ := file_open hs ht
      refine wp_ifF ?_ (by simp)
      (repeat (first | with_reducible (first | refine wp_on ?_ | refine wp_nn ?_ | refine wp_nng ?_ | refine wp_ldO hs ?_ | refine wp_ldG hs ?_ | refine wp_untick ?_ | refine wp_tk hs fun _ hs => ?_ | refine wp_newO hs fun _ _ hs => ?_ | refine wp_boxO hs fun _ _ hs => ?_ | refine wp_stO hs fun _ hs => ?_ | refine wp_stG hs fun _ hs => ?_) | (apply wp_must; (focus first | trivial | omega | assumption)) | refine wp_ltw ?_ | refine wp_lt ?_))
      have hlen : t.f.b.length ≤ 4194304 := Nat.le_trans (used_mem hA) hok.used
      refine wp_call (clone_c t.x t.f.b (by omega) hs) fun _ _ hs => ?_
      obtain ⟨z, rfl, hs⟩ := hs
      refine ret_of ?_
      (repeat (first | with_reducible (first | refine wp_on ?_ | refine wp_nn ?_ | refine wp_nng ?_ | refine wp_ldO hs ?_ | refine wp_ldG hs ?_ | refine wp_untick ?_ | refine wp_tk hs fun _ hs => ?_ | refine wp_newO hs fun _ _ hs => ?_ | refine wp_boxO hs fun _ _ hs => ?_ | refine wp_stO hs fun _ hs => ?_ | refine wp_stG hs fun _ hs => ?_) | (apply wp_must; (focus first | trivial | omega | assumption)) | refine wp_ltw ?_ | refine wp_lt ?_))
      refine ⟨rfl, .inl ⟨t.f, hA, rfl, z, rfl, ?_⟩⟩
      have hs := (file_close t hs).all_perm (hpm.symm.map fileP)
      have hs := dk_close (d := d) (A := A) (l' := slc T.uint8 1 z (t.f.b.flatMap encU) :: r) m hp hok hs
      exact hs.sub
    · refine wp_ifT ?_ (by rfl)
      exact ⟨rfl, .inr ⟨not_fs hp hb, rfl, dk_close m hp hok hs⟩⟩
end
end Go.Dec
namespace Go.Dec
set_option linter.unusedVariables false
set_option linter.unusedSimpArgs false
theorem dropF_perm {fs fs' : List FileA} {f : FileA} (hp : fs.Perm (f :: fs')) (hne : ∀ g ∈ fs', g.name ≠ f.name) : (dropF f.name fs).Perm fs' := by
  have h1 := hp.filter fun g => !decide (g.name = f.name)
  rw [List.filter_cons_of_neg (by simp)] at h1
  have h2 : fs'.filter (fun g => !decide (g.name = f.name)) = fs' := List.filter_eq_self.2 fun g hg => by simpa using hne g hg
  rw [h2] at h1
  exact h1
theorem dropF_none {fs : List FileA} {n : ByteArray} (h : ∀ f ∈ fs, f.name ≠ n) : dropF n fs = fs := List.filter_eq_self.2 fun g hg => by simpa using h g hg
theorem map_updF_perm {fs fs' : List FileA} {f : FileA} {g : FileA → FileA} (hp : fs.Perm (f :: fs')) (hne : ∀ g ∈ fs', g.name ≠ f.name) : (fs.map (updF f.name g)).Perm (g f :: fs') := by
  have h1 := hp.map (updF f.name g)
  rw [List.map_cons] at h1
  have h2 : fs'.map (updF f.name g) = fs' := by
    conv => rhs; rw [← List.map_id fs']
    exact List.map_congr_left fun x hx => by rw [updF, if_neg (hne x hx)]; rfl
  rw [h2, updF, if_pos rfl] at h1
  exact h1
theorem updF_name {n : ByteArray} {g : FileA → FileA} (hg : ∀ f, (g f).name = f.name) (f : FileA) : (updF n g f).name = f.name := by
  unfold updF; split
  · exact hg f
  · rfl
theorem sorted_map {fs : List FileA} {g : FileA → FileA} (hg : ∀ f, (g f).name = f.name) (h : fs.Pairwise fun a b => ltS a.name b.name = true) : (fs.map g).Pairwise fun a b => ltS a.name b.name = true := by
  rw [List.pairwise_map]
  exact h.imp fun {a b} hab => by rw [hg, hg]; exact hab
theorem sorted_dropF {fs : List FileA} (n : ByteArray) (h : fs.Pairwise fun a b => ltS a.name b.name = true) : (dropF n fs).Pairwise fun a b => ltS a.name b.name = true := h.filter _
theorem mem_dropF {fs : List FileA} {n : ByteArray} {f : FileA} : f ∈ dropF n fs ↔ f ∈ fs ∧ f.name ≠ n := by simp [dropF, List.mem_filter]
theorem insF_perm (x : FileA) : ∀ fs : List FileA, (insF x fs).Perm (x :: fs)
  | [] => .refl _
  | f :: r => by
    rw [insF]; split
    · exact .refl _
    · exact (List.Perm.cons f (insF_perm x r)).trans (.swap _ _ _)
theorem mem_insF {x f : FileA} {fs : List FileA} : f ∈ insF x fs ↔ f = x ∨ f ∈ fs := by rw [(insF_perm x fs).mem_iff, List.mem_cons]
theorem sorted_insF (x : FileA) : ∀ {fs : List FileA}, (∀ f ∈ fs, f.name ≠ x.name) → (fs.Pairwise fun a b => ltS a.name b.name = true) → (insF x fs).Pairwise fun a b => ltS a.name b.name = true
  | [], _, _ => by simp [insF]
  | f :: r, hne, h => by
    rw [List.pairwise_cons] at h
    rw [insF]; split
    · rename_i hlt
      rw [List.pairwise_cons]
      refine ⟨fun g hg => ?_, by rw [List.pairwise_cons]; exact h⟩
      rcases List.mem_cons.1 hg with rfl | hg
      · exact hlt
      · exact ltS_trans hlt (h.1 g hg)
    · rename_i hlt
      rw [List.pairwise_cons]
      refine ⟨fun g hg => ?_, sorted_insF x (fun g hg => hne g (List.mem_cons_of_mem _ hg)) h.2⟩
      rcases mem_insF.1 hg with rfl | hg
      · rcases ltS_total f.name g.name with h1 | h1 | h1
        · exact h1
        · exact absurd h1 (hne f (List.mem_cons_self ..))
        · exact absurd h1 hlt
      · exact h.1 g hg
theorem okA_done {A : DiskA} (h : okA A) : okA (doneA A) := by
  unfold doneA
  split
  · exact ⟨h.room, h.used, h.many, by have := h.left; show -1 ≤ A.left - 1 ∧ A.left - 1 ≤ _; omega, h.sorted, h.kept, h.names⟩
  · exact h
section
variable {w : World} {l r : List HP} {d : Nat} {A : DiskA}
/-- A change of the files, and then 'spend'. -/
theorem spend_dk {m : Nat} {FS : List FileM} {fs' : List FileA} {room left u : Int} {r1 r2 r3 l' : List HP} (hg : A.gone = false) (hok' : okA { A with fs := fs' }) (hp : (FS.map FileM.f).Perm fs') (hs : Sat w l)
    [h1 : FocB l d (.cells [.int .i64 left, .bool false, .int .i64 room, .int .i64 u, .map (some m)].toArray T.disk_Disk) r1] [h2 : FoM r1 m ekS evF (FS.map fun t => (t.f.name, t.at_)) r2] [h3 : Foc r2 (HP.all (FS.map fileP)) r3] [h4 : Sub r3 l']
    (hu : u = (used fs' : Nat) := by rfl) (hl : left = A.left := by rfl) (hr : room = A.room := by rfl) :
    Ret P F.disk_power_spend #[.pointer (some (Addr.add ⟨d, 0, none⟩ 0))] w fun vs w' => vs = [] ∧ Sat w' (dk d (doneA { A with fs := fs' }) :: l') := by
  subst hu hl hr
  have hl := hok'.left
  refine Calls.mono (spend_c (d := d) (m := m) ⟨hl.2, hl.1⟩ hs) fun e w' ⟨vs, he, hv, hs⟩ => ⟨vs, he, hv, ?_⟩
  have hd := doneA_eq { A with fs := fs' } hg
  rw [hd]
  have hok2 := okA_done hok'
  rw [hd] at hok2
  exact dk_close m (A := ⟨A.room, if A.left > 0 then A.left - 1 else A.left, if A.left > 0 then decide (A.left - 1 = 0) else false, fs'⟩) hp hok2 hs
theorem drop_c (n : ByteArray) (m : Nat) {FS : List FileM} (hp : (FS.map FileM.f).Perm A.fs) (hok : okA A)
    (hs : Sat w (pt d (.cells #[.int .i64 A.left, .bool A.gone, .int .i64 A.room, .int .i64 (used A.fs), .map (some m)] T.disk_Disk) :: mapP ekS evF m (FS.map fun t => (t.f.name, t.at_)) :: HP.all (FS.map fileP) :: r)) :
    Ret P F.disk_Disk_drop #[.pointer (some ⟨d, 0, none⟩), .string n] w fun vs w' => vs = [] ∧ ∃ FS' : List FileM, (FS'.map FileM.f).Perm (dropF n A.fs) ∧ (∀ t ∈ FS', t ∈ FS ∧ t.f.name ≠ n) ∧ (∀ t ∈ FS, t.f.name ≠ n → t ∈ FS') ∧
      Sat w' (pt d (.cells #[.int .i64 A.left, .bool A.gone, .int .i64 A.room, .int .i64 (used (dropF n A.fs)), .map (some m)] T.disk_Disk) :: mapP ekS evF m (FS'.map fun t => (t.f.name, t.at_)) :: HP.all (FS'.map fileP) :: r) :=
  disk_Disk_drop_calls _ n <| by
    unfold disk_Disk_drop
    (repeat (first | with_reducible (first | refine wp_on ?_ | refine wp_nn ?_ | refine wp_nng ?_ | refine wp_ldO hs ?_ | refine wp_ldG hs ?_ | refine wp_untick ?_ | refine wp_tk hs fun _ hs => ?_ | refine wp_newO hs fun _ _ hs => ?_ | refine wp_boxO hs fun _ _ hs => ?_ | refine wp_stO hs fun _ hs => ?_ | refine wp_stG hs fun _ hs => ?_) | (apply wp_must; (focus first | trivial | omega | assumption)) | refine wp_ltw ?_ | refine wp_lt ?_))
    refine wp_look hs (fun b hb => ?_) fun hb => ?_
    · obtain ⟨t, ht, rfl, rfl, hA⟩ := in_fs hp hb
      obtain ⟨FS', hpm, hs⟩ := file_open hs ht
      obtain ⟨h1, h2, -⟩ := apart hp hok hpm
      have hd := dropF_perm h1 h2
      have hu : used A.fs = t.f.b.length + used (dropF t.f.name A.fs) := by rw [used_perm h1, used_cons, used_perm hd]
      have h3 := hok.used
      refine wp_bind ?_
      refine wp_ifT ?_ (by simp)
      refine wp_tk hs fun w' hs => ?_
      refine wp_nn ?_
      refine wp_ldO hs ?_
      refine wp_nn ?_
      refine wp_ldO hs ?_
      rw [hs.slen t.x (xs := t.f.b) (enc := encU), w64e (y := (used (dropF t.f.name A.fs) : Nat))]
      (repeat (first | with_reducible (first | refine wp_on ?_ | refine wp_nn ?_ | refine wp_nng ?_ | refine wp_ldO hs ?_ | refine wp_ldG hs ?_ | refine wp_untick ?_ | refine wp_tk hs fun _ hs => ?_ | refine wp_newO hs fun _ _ hs => ?_ | refine wp_boxO hs fun _ _ hs => ?_ | refine wp_stO hs fun _ hs => ?_ | refine wp_stG hs fun _ hs => ?_) | (apply wp_must; (focus first | trivial | omega | assumption)) | refine wp_ltw ?_ | refine wp_lt ?_))
      refine wp_mdel hs (FS'.map fun t => (t.f.name, t.at_)) (.inl ⟨t.at_, hpm.map _⟩) fun w' hs => ?_
      refine wp_go ?_
      refine ⟨rfl, rfl, FS', hd.symm, fun t' ht' => ⟨hpm.mem_iff.2 (List.mem_cons_of_mem _ ht'), h2 _ (List.mem_map.2 ⟨t', ht', rfl⟩)⟩, fun t' ht' hne => ?_, hs.sub⟩
      rcases List.mem_cons.1 (hpm.mem_iff.1 ht') with rfl | h
      · exact absurd rfl hne
      · exact h
    · have hn := not_fs hp hb
      refine wp_bind ?_
      refine wp_ifF ?_ (by simp)
      refine wp_go ?_
      rw [dropF_none hn]
      exact ⟨rfl, rfl, FS, hp, fun t ht => ⟨ht, hn _ (hp.mem_iff.1 (List.mem_map.2 ⟨t, ht, rfl⟩))⟩, fun t ht _ => ht, hs⟩
theorem okA_drop {A : DiskA} (h : okA A) (n : ByteArray) : okA { A with fs := dropF n A.fs } := by
  have hle : used (dropF n A.fs) ≤ used A.fs := by
    have : ∀ fs : List FileA, used (dropF n fs) ≤ used fs := fun fs => by
      induction fs with
      | nil => exact Nat.le_refl _
      | cons f r ih =>
        unfold dropF at *
        rw [used_cons, List.filter_cons]
        split
        · rw [used_cons]; omega
        · omega
    exact this _
  exact ⟨h.room, Nat.le_trans hle h.used, Nat.le_trans (List.length_filter_le _ _) h.many, h.left, sorted_dropF n h.sorted, fun f hf => h.kept f (mem_dropF.1 hf).1, fun f hf => h.names f (mem_dropF.1 hf).1⟩
/-- A refusal, and what goes on. -/
theorem may_if {k : Prog} {Q : List Value → World → Prop} (hs : Sat w l) [hf : Fo l dk d A r] (h1 : A.gone = true → ∀ w', Sat w' (dk d A :: r) → Q [.int .i64 9] w') (h0 : A.gone = false → ∀ w', Sat w' (dk d A :: r) → k.wp P tt w' fun e vs w => e = 0 ∧ Q vs w) :
    (Prog.call F.disk_Disk_may [.pointer (some ⟨d, 0, none⟩)] (sI .i64) (u1 fun (n0 : Int) => .lt (.int .i64) (n0) fun (n1 : Int) => .ite (n1 != 0) (.lt (.int .i64) (n1) fun (n2 : Int) => .done 0 [.int .i64 n2]) k)).wp P tt w fun e vs w => e = 0 ∧ Q vs w := by
  refine wp_call (may_c hs) fun _ _ hs => ?_
  obtain ⟨rfl, hs⟩ := hs
  refine ret_of ?_
  refine wp_lt ?_
  by_cases hg : A.gone = true
  · rw [if_pos hg]
    refine wp_ifT ?_ (by decide)
    exact wp_lt ⟨rfl, h1 hg _ hs⟩
  · rw [if_neg hg]
    refine wp_ifF ?_ (by decide)
    exact h0 (by simpa using hg) _ hs
theorem remove_c (n : ByteArray) [hf : Fo l dk d A r] (hs : Sat w l) : Ret P F.disk_Disk_Remove #[.pointer (some ⟨d, 0, none⟩), .string n] w fun vs w' => vs = [.int .i64 (remA A n).1] ∧ Sat w' (dk d (remA A n).2 :: r) :=
  disk_Disk_Remove_calls _ n <| by
    unfold disk_Disk_Remove remA
    refine may_if hs (fun hg w' hs => ?_) fun hg w' hs => ?_
    · rw [if_pos hg]; exact ⟨rfl, hs⟩
    rw [if_neg (by rw [hg]; simp)]
    obtain ⟨m, FS, hp, hok, hs⟩ := dk_open hs
    (repeat (first | with_reducible (first | refine wp_on ?_ | refine wp_nn ?_ | refine wp_nng ?_ | refine wp_ldO hs ?_ | refine wp_ldG hs ?_ | refine wp_untick ?_ | refine wp_tk hs fun _ hs => ?_ | refine wp_newO hs fun _ _ hs => ?_ | refine wp_boxO hs fun _ _ hs => ?_ | refine wp_stO hs fun _ hs => ?_ | refine wp_stG hs fun _ hs => ?_) | (apply wp_must; (focus first | trivial | omega | assumption)) | refine wp_ltw ?_ | refine wp_lt ?_))
    refine wp_look hs (fun b hb => ?_) fun hb => ?_
    · obtain ⟨t, ht, rfl, rfl, hA⟩ := in_fs hp hb
      refine wp_ifF ?_ (by simp)
      rw [if_neg (by rw [hasF_iff.2 ⟨_, hA, rfl⟩]; simp)]
      refine wp_call (drop_c t.f.name m hp hok hs) fun _ _ hs => ?_
      obtain ⟨rfl, FS', hp', -, -, hs⟩ := hs
      refine ret_of ?_
      (repeat (first | with_reducible (first | refine wp_on ?_ | refine wp_nn ?_ | refine wp_nng ?_ | refine wp_ldO hs ?_ | refine wp_ldG hs ?_ | refine wp_untick ?_ | refine wp_tk hs fun _ hs => ?_ | refine wp_newO hs fun _ _ hs => ?_ | refine wp_boxO hs fun _ _ hs => ?_ | refine wp_stO hs fun _ hs => ?_ | refine wp_stG hs fun _ hs => ?_) | (apply wp_must; (focus first | trivial | omega | assumption)) | refine wp_ltw ?_ | refine wp_lt ?_))
      rw [hg] at hs
      refine wp_call (spend_dk (l' := r) hg (okA_drop hok t.f.name) hp' hs) fun _ _ hs => ?_
      obtain ⟨rfl, hs⟩ := hs
      refine ret_of ?_
      (repeat (first | with_reducible (first | refine wp_on ?_ | refine wp_nn ?_ | refine wp_nng ?_ | refine wp_ldO hs ?_ | refine wp_ldG hs ?_ | refine wp_untick ?_ | refine wp_tk hs fun _ hs => ?_ | refine wp_newO hs fun _ _ hs => ?_ | refine wp_boxO hs fun _ _ hs => ?_ | refine wp_stO hs fun _ hs => ?_ | refine wp_stG hs fun _ hs => ?_) | (apply wp_must; (focus first | trivial | omega | assumption)) | refine wp_ltw ?_ | refine wp_lt ?_))
      exact ⟨rfl, rfl, hs⟩
    · refine wp_ifT ?_ (by rfl)
      rw [if_pos (hasF_not.2 (not_fs hp hb))]
      exact ⟨rfl, rfl, dk_close m hp hok hs⟩
theorem used_upd {fs fs' : List FileA} {f : FileA} {g : FileA → FileA} (hp : fs.Perm (f :: fs')) (hne : ∀ g ∈ fs', g.name ≠ f.name) : used (fs.map (updF f.name g)) = (g f).b.length + used fs' := by
  rw [used_perm (map_updF_perm hp hne), used_cons]
theorem cut_c (n : ByteArray) (k : Int) [hf : Fo l dk d A r] (hs : Sat w l) : Ret P F.disk_Disk_Cut #[.pointer (some ⟨d, 0, none⟩), .string n, .int .i64 k] w fun vs w' => vs = [.int .i64 (cutA' A n k).1] ∧ Sat w' (dk d (cutA' A n k).2 :: r) :=
  disk_Disk_Cut_calls _ n k <| by
    unfold disk_Disk_Cut cutA'
    refine may_if hs (fun hg w' hs => ?_) fun hg w' hs => ?_
    · rw [if_pos hg]; exact ⟨rfl, hs⟩
    rw [if_neg (by rw [hg]; simp)]
    obtain ⟨m, FS, hp, hok, hs⟩ := dk_open hs
    (repeat (first | with_reducible (first | refine wp_on ?_ | refine wp_nn ?_ | refine wp_nng ?_ | refine wp_ldO hs ?_ | refine wp_ldG hs ?_ | refine wp_untick ?_ | refine wp_tk hs fun _ hs => ?_ | refine wp_newO hs fun _ _ hs => ?_ | refine wp_boxO hs fun _ _ hs => ?_ | refine wp_stO hs fun _ hs => ?_ | refine wp_stG hs fun _ hs => ?_) | (apply wp_must; (focus first | trivial | omega | assumption)) | refine wp_ltw ?_ | refine wp_lt ?_))
    refine wp_look hs (fun b hb => ?_) fun hb => ?_
    · obtain ⟨t, ht, rfl, rfl, hA⟩ := in_fs hp hb
      refine wp_lt ?_
      refine wp_ifF ?_ (by simp)
      rw [if_neg (by rw [hasF_iff.2 ⟨_, hA, rfl⟩]; simp), lenF_eq (names_nodup hok.sorted) hA rfl]
      obtain ⟨FS', hpm, hs⟩ := file_open hs ht
      obtain ⟨h1, h2, -⟩ := apart hp hok hpm
      have hlen := hs.slen t.x (xs := t.f.b) (enc := encU)
      have hcap := (hs.focS t.x).slc_cap
      (repeat (first | with_reducible (first | refine wp_on ?_ | refine wp_nn ?_ | refine wp_nng ?_ | refine wp_ldO hs ?_ | refine wp_ldG hs ?_ | refine wp_untick ?_ | refine wp_tk hs fun _ hs => ?_ | refine wp_newO hs fun _ _ hs => ?_ | refine wp_boxO hs fun _ _ hs => ?_ | refine wp_stO hs fun _ hs => ?_ | refine wp_stG hs fun _ hs => ?_) | (apply wp_must; (focus first | trivial | omega | assumption)) | refine wp_ltw ?_ | refine wp_lt ?_))
      refine wp_if (fun h => ?_) fun h => ?_
      · rw [if_pos (by omega)]
        have hs := (file_close t hs).all_perm (hpm.symm.map fileP)
        exact ⟨rfl, rfl, dk_close m hp hok hs⟩
      · rw [if_neg (by omega)]
        obtain ⟨k, rfl⟩ : ∃ j : Nat, k = j := ⟨k.toNat, by omega⟩
        rw [Int.toNat_natCast]
        have hk : k ≤ t.f.b.length := by omega
        have hu0 : used A.fs = t.f.b.length + used (FS'.map FileM.f) := by rw [used_perm h1, used_cons]
        have hu1 := used_upd (g := fun f => { f with b := f.b.take k, kept := min f.kept k }) h1 h2
        have hu2 : used (A.fs.map (updF t.f.name fun f => { f with b := f.b.take k, kept := min f.kept k })) = k + used (FS'.map FileM.f) := by
          rw [hu1]; show (t.f.b.take k).length + _ = _; rw [List.length_take, Nat.min_eq_left hk]
        have hou := hok.used
        refine wp_tk hs fun w' hs => ?_
        refine wp_nn ?_
        refine wp_ldO hs ?_
        refine wp_nn ?_
        refine wp_ldO hs ?_
        have e1 : IntKind.wrap .i64 ((used A.fs : Nat) - IntKind.wrap .i64 (((t.x.len : Nat) : Int) - (k : Int))) = (used (A.fs.map (updF t.f.name fun f => { f with b := f.b.take k, kept := min f.kept k })) : Nat) := by
          rw [w64 (x := ((t.x.len : Nat) : Int) - (k : Int)) (by omega) (by omega), w64 (by omega) (by omega)]; omega
        rw [e1]
        (repeat (first | with_reducible (first | refine wp_on ?_ | refine wp_nn ?_ | refine wp_nng ?_ | refine wp_ldO hs ?_ | refine wp_ldG hs ?_ | refine wp_untick ?_ | refine wp_tk hs fun _ hs => ?_ | refine wp_newO hs fun _ _ hs => ?_ | refine wp_boxO hs fun _ _ hs => ?_ | refine wp_stO hs fun _ hs => ?_ | refine wp_stG hs fun _ hs => ?_) | (apply wp_must; (focus first | trivial | omega | assumption)) | refine wp_ltw ?_ | refine wp_lt ?_))
        have hs := (hs.focS t.x).slc_cut (n := k) (by omega)
        rw [take_flat] at hs
        have e2 : (if (k : Int) < ((t.f.kept : Nat) : Int) then (k : Int) else ((t.f.kept : Nat) : Int)) = ((min t.f.kept k : Nat) : Int) := by split <;> omega
        rw [e2] at hs
        have hs := file_close (FS := FS') ⟨t.at_, ⟨t.x.a, k, k⟩, ⟨t.f.name, t.f.b.take k, min t.f.kept k⟩⟩ hs
        have hp' : (((⟨t.at_, ⟨t.x.a, k, k⟩, ⟨t.f.name, t.f.b.take k, min t.f.kept k⟩⟩ : FileM) :: FS').map FileM.f).Perm (A.fs.map (updF t.f.name fun f => { f with b := f.b.take k, kept := min f.kept k })) :=
          (map_updF_perm (g := fun f => { f with b := f.b.take k, kept := min f.kept k }) h1 h2).symm
        have hok' : okA { A with fs := A.fs.map (updF t.f.name fun f => { f with b := f.b.take k, kept := min f.kept k }) } := by
          refine ⟨hok.room, by show used (A.fs.map _) ≤ _; omega, by show (A.fs.map _).length ≤ _; rw [List.length_map]; exact hok.many, hok.left, sorted_map (updF_name fun _ => rfl) hok.sorted, fun f hf => ?_, fun f hf => ?_⟩
          rotate_left
          · obtain ⟨g, hg, rfl⟩ := List.mem_map.1 hf
            rw [updF_name (by intro _; rfl)]; exact hok.names g hg
          obtain ⟨g, hg, rfl⟩ := List.mem_map.1 hf
          have := hok.kept g hg
          unfold updF
          split
          · show min g.kept k ≤ (g.b.take k).length; rw [List.length_take]; omega
          · exact this
        have hs : Sat _ (mapP ekS evF m (((⟨t.at_, ⟨t.x.a, k, k⟩, ⟨t.f.name, t.f.b.take k, min t.f.kept k⟩⟩ : FileM) :: FS').map fun t => (t.f.name, t.at_)) :: _) := (hs.pick [2]).mapPerm (hpm.map fun t => (t.f.name, t.at_))
        rw [hg] at hs
        refine wp_call (spend_dk (l' := r) hg hok' hp' hs) fun _ _ hs => ?_
        obtain ⟨rfl, hs⟩ := hs
        refine ret_of ?_
        (repeat (first | with_reducible (first | refine wp_on ?_ | refine wp_nn ?_ | refine wp_nng ?_ | refine wp_ldO hs ?_ | refine wp_ldG hs ?_ | refine wp_untick ?_ | refine wp_tk hs fun _ hs => ?_ | refine wp_newO hs fun _ _ hs => ?_ | refine wp_boxO hs fun _ _ hs => ?_ | refine wp_stO hs fun _ hs => ?_ | refine wp_stG hs fun _ hs => ?_) | (apply wp_must; (focus first | trivial | omega | assumption)) | refine wp_ltw ?_ | refine wp_lt ?_))
        exact ⟨rfl, rfl, hs⟩
    · refine wp_lt ?_
      refine wp_ifT ?_ (by rfl)
      rw [if_pos (hasF_not.2 (not_fs hp hb))]
      exact ⟨rfl, rfl, dk_close m hp hok hs⟩
end
end Go.Dec
namespace Go.Dec
set_option linter.unusedVariables false
set_option linter.unusedSimpArgs false
section
variable {w : World} {l r : List HP} {d : Nat} {A : DiskA}
theorem nameF_size {s : ByteArray} (h : nameF s = true) : s.size ≤ 24 := by
  simp only [nameF, Bool.and_eq_true, decide_eq_true_eq] at h; exact h.2.2
end
end Go.Dec
namespace Go.Dec
set_option linter.unusedVariables false
set_option linter.unusedSimpArgs false
def hexC (n : Nat) : UInt8 := if n < 10 then UInt8.ofNat (48 + n) else UInt8.ofNat (87 + n)
def hexD (c : UInt8) : Option Nat := if 48 ≤ c.toNat ∧ c.toNat ≤ 57 then some (c.toNat - 48) else if 97 ≤ c.toNat ∧ c.toNat ≤ 102 then some (c.toNat - 87) else none
theorem hexC_D {c : UInt8} {n : Nat} (h : hexD c = some n) : hexC n = c ∧ n < 16 := by
  unfold hexD at h
  unfold hexC
  split at h
  · simp only [Option.some.injEq] at h
    subst h
    rw [if_pos (by omega)]
    exact ⟨UInt8.toNat_inj.1 (by rw [UInt8.toNat_ofNat']; omega), by omega⟩
  · split at h
    · simp only [Option.some.injEq] at h
      subst h
      rw [if_neg (by omega)]
      exact ⟨UInt8.toNat_inj.1 (by rw [UInt8.toNat_ofNat']; omega), by omega⟩
    · cases h
/-- So many digits of a number, the highest first. -/
def hexL : Nat → Nat → List UInt8
  | 0, _ => []
  | k + 1, n => hexL k (n / 16) ++ [hexC (n % 16)]
def hexV (x : Nat) : List UInt8 → Option Nat
  | [] => some x
  | c :: r => match hexD c with
    | none => none
    | some d => hexV (16 * x + d) r
theorem hexL_len : ∀ (k n : Nat), (hexL k n).length = k
  | 0, _ => rfl
  | k + 1, n => by unfold hexL; rw [List.length_append, hexL_len k]; rfl
theorem hexV_app (x : Nat) (a b : List UInt8) : hexV x (a ++ b) = (hexV x a).bind fun y => hexV y b := by
  induction a generalizing x with
  | nil => rfl
  | cons c r ih =>
    rw [List.cons_append]
    cases hd : hexD c with
    | none => simp only [hexV, hd]; rfl
    | some d => simp only [hexV, hd]; exact ih _
def logX : List UInt8 := [46, 108, 111, 103]
def newX : List UInt8 := [46, 110, 101, 119]
def nameS (pre : ByteArray) (base : Int) (x : List UInt8) : ByteArray := ⟨(bl pre ++ (45 :: (hexL 11 base.toNat ++ x))).toArray⟩
/-- The base that a name of a given end tells, behind what is as long as a log's prefix. -/
def baseN (pre n : ByteArray) (x : List UInt8) : Option Nat :=
  if (bl n).length = (bl pre).length + 1 + 11 + x.length ∧ (bl n).drop ((bl pre).length + 1 + 11) = x then hexV 0 (((bl n).drop ((bl pre).length + 1)).take 11) else none
def dashN (pre : ByteArray) : ByteArray := ⟨(bl pre ++ [45]).toArray⟩
theorem bl_nameS (pre : ByteArray) (base : Int) (x : List UInt8) : bl (nameS pre base x) = bl pre ++ (45 :: (hexL 11 base.toNat ++ x)) := bl_mk _
theorem bl_dash (pre : ByteArray) : bl (dashN pre) = bl pre ++ [45] := bl_mk _
/-- Which prefixes a log may have. -/
def preS (pre : ByteArray) : Bool := decide (1 ≤ pre.size ∧ pre.size ≤ 8) && (bl pre).all fun c => (97 ≤ c.toNat && c.toNat ≤ 122) || (48 ≤ c.toNat && c.toNat ≤ 57)
end Go.Dec
namespace Go.Proofs.YtfnldnodhfkojaaGreat
open Go.RowKit Go.Maps Go.Sort Go.Proofs
set_option linter.unusedVariables false
set_option linter.unusedSimpArgs false
set_option maxRecDepth 100000 in
set_option maxHeartbeats 1000000 in
theorem keys1_in {H : Type} (F : Fence) (n : Nat) (h10 : F.fn 143) (hro : F.round = none) (hn : 1 ≤ n) (l Bm b nn : Nat) (D0 : DataW H) {R : Value → Option (DataW H × List MemPlace)} (J Jx : List (List UInt8) → World → Prop)
    (hY : ∀ pre x W, J pre W → pre.length < Maps.size D0 → YieldAt F (n - 1) Tryz.prog l #[encStr x] W fun e W' => (e = .returned (.bool true) ∧ J (pre ++ [x]) W' ∧ KeepsWalks W W') ∨ (e = .returned (.bool false) ∧ Jx (pre ++ [x]) W'))
    (W : World) (hJ : AbidesFrom W.heap.size J) (hm : W.cell? ⟨Bm, 0, none⟩ = some (.map (some b))) (hown : W.ownsMap Tryz.prog 9 R b nn D0) (h0 : J [] W) :
    CallsIn F n Tryz.prog 143 #[.func (.yield l) #[] #[], .pointer (some ⟨Bm, 0, none⟩)] W fun e W' => (∃ v, e = .returned v) ∧ ((∃ ss : List (List UInt8), ss.Perm (strKeys D0) ∧ J ss W') ∨ (∃ pre, True ∧ Jx pre W')) := by
  refine callsIn_of_wp Tryz.func143 rfl h10 ?_ hro
  simp only [Tryz.ntmps143, List.size_toArray, List.length_cons, List.length_nil, Nat.reduceAdd, Nat.reduceSub, Array.replicate_succ, Array.replicate_zero, List.push_toArray, List.append_toArray, List.nil_append, List.cons_append]
  gi_wp2_with (first
    | (gi_at_range; refine wpListIn_range_own _ rfl _ 110 rfl 9 157 (string_keyed Tryz.underlying9) Tryz.underlying110 _ b nn _ rfl hown ?_; intro w0 hrg0 hg0 hs0)
    | gi_in)
  go_frame
  gi_loopw [3] (fun _ wr => ∃ (left : Lit → Bool) (cnt : Nat) (ss : List (List UInt8)), wr.ranges Tryz.prog 9 R b W.heap.size nn D0 left cnt ∧ ss.length + cnt ≤ Maps.size D0 ∧ Collected D0 left ss ∧ J ss wr)
    (fun _ wr => wr.rangeLeft b W.heap.size)
  case atStart =>
    exact ⟨_, _, [], hrg0, by simp, Collected.start D0, hJ [] W w0 none h0 hg0 (fun r e => by cases e)⟩
  case round =>
    obtain ⟨left, cnt, ss, hrg, hcs, hC, hJs⟩ := hrel
    gi_wp2_with (first
      | (gi_at_next; refine wpListIn_next_ranges _ rfl _ rfl 9 (string_keyed Tryz.underlying9) R encStr id (fun key kl hk => by obtain ⟨x, hx, _⟩ := Maps.keyOf_str Tryz.underlying9 hk; exact ⟨x, hx⟩) (fun v _ _ => ⟨v, rfl⟩) b W.heap.size nn _ _ _ rfl hrg ?_ ?_)
      | gi_in)
    · intro hc0 hl0
      gi_wp2
      go_end0
      exact ⟨⟨_, rfl⟩, .inl ⟨ss, hC.perm hown (string_keyed Tryz.underlying9) Tryz.underlying9 hl0, hJs⟩⟩
    · intro x c kl yd yp w2 cnt2 hkey hlk hv hat hrg2 hlt hg2 hs2 hen
      obtain ⟨x', ex, rfl, _⟩ := Maps.keyOf_str Tryz.underlying9 hkey
      obtain rfl : x = x' := encStr_inj ex
      have hJ2 : J ss w2 := hJ ss wr w2 (some W.heap.size) hJs hg2 (fun r e => by cases e; exact ⟨Nat.le_refl _, hrg.iter_walk⟩)
      obtain ⟨fn, tmps, assign, body, hy, hR⟩ := hY ss x w2 hJ2 (by omega)
      clear hs2
      gi_wp2
      refine hR.mono ?_
      rintro e W3 (⟨rfl, hJ3, hk3⟩ | ⟨rfl, hJx3⟩)
      · gi_wp2
        have hrg3 := hrg2.of_walks hk3
        go_roundw
        case rel => exact ⟨_, cnt2, ss ++ [x], hrg3, by simp; omega, hC.step hlk hat, hJ3⟩
        case measure => rw [hrg3.left_eq, hrg.left_eq]; exact hlt
      · gi_wp2
        refine bodyPost_ret (results_none rfl _ _ _) rfl ?_
        exact ⟨⟨_, rfl⟩, .inr ⟨ss ++ [x], trivial, hJx3⟩⟩
/-- maps.Keys: a function value that has caught a box with the map. -/
theorem keys_in (mb : Option Nat) (w : World) :
    Calls Tryz.prog 97 #[.map mb] w fun e w' => e = .returned (.func (.func 143) #[] #[.pointer (some ⟨w.heap.size, 0, none⟩)]) ∧ w' = w.alloc (.cells #[.map mb] 110) := by
  refine Calls.mono (Dec.maps_Keys_map_string_disk_file_string_disk_file_calls mb (w := w) (R := fun vs w' => vs = [.func (.func 143) #[] #[.pointer (some ⟨w.heap.size, 0, none⟩)]] ∧ w' = w.alloc (.cells #[.map mb] 110)) ?_) fun e w' ⟨vs, he, hv, hw⟩ => ⟨by rw [he, hv]; rfl, hw⟩
  unfold Dec.maps_Keys_map_string_disk_file_string_disk_file
  refine ⟨(⟨w.heap.size, 0, none⟩, ()), w.alloc (.cells #[.map mb] 110), ?_, trivial, ?_⟩
  · simp only [Instr.box, Sem.run_bind, Dec.run_newVar, Result.andThen_ok, Sem.run_pure]; rfl
  · exact ⟨rfl, rfl, rfl⟩
/-- Does a text begin so? -/
def preF (p s : ByteArray) : Bool := p.toList.isPrefixOf s.toList
theorem pre_eq (s p : ByteArray) : (decide (((ByteArray.size s : Nat) : Int) ≥ ((ByteArray.size p : Nat) : Int)) && ByteArray.toList (ByteArray.extract s 0 (Int.toNat (((ByteArray.size p : Nat) : Int)))) == ByteArray.toList p) = preF p s := by
  unfold preF
  rw [Int.toNat_natCast, ByteArray.toList_eq, ByteArray.toList_eq, ByteArray.toList_eq]
  have e1 : (ByteArray.extract s 0 p.size).data.toList = s.data.toList.take p.size := by simp [ByteArray.data_extract]
  have e2 : p.size = p.data.toList.length := by simp
  rw [e1, Bool.eq_iff_iff, Bool.and_eq_true, decide_eq_true_eq, beq_iff_eq, List.isPrefixOf_iff_prefix]
  constructor
  · rintro ⟨-, h⟩
    rw [← h]; exact List.take_prefix _ _
  · intro h
    have hl := h.length_le
    refine ⟨?_, ?_⟩
    · have : s.size = s.data.toList.length := by simp
      omega
    · rw [e2]; exact (List.prefix_iff_eq_take.1 h).symm
theorem prefix_c (s p : ByteArray) (w : World) : Calls Tryz.prog 98 #[.string s, .string p] w fun e w' => e = .returned (.bool (preF p s)) ∧ w' = w := by
  refine Calls.mono (Dec.strings_HasPrefix_calls s p (w := w) (R := fun vs w' => vs = [.bool (preF p s)] ∧ w' = w) ?_) fun e w' ⟨vs, he, hv, hw⟩ => ⟨by rw [he, hv]; rfl, hw⟩
  unfold Dec.strings_HasPrefix
  refine Dec.wp_callS (preF p s, ()) (Dec.internal_stringslite_HasPrefix_calls s p (R := fun vs w' => vs = [.bool (preF p s)] ∧ w' = w) ?_) rfl fun w' hw => ⟨trivial, ?_⟩
  · unfold Dec.internal_stringslite_HasPrefix
    refine Dec.wp_must (fun h => ?_) (Dec.wp_lt ⟨rfl, by rw [pre_eq], rfl⟩)
    have h := of_decide_eq_true h
    omega
  · exact Dec.wp_lt ⟨rfl, rfl, hw⟩
end Go.Proofs.YtfnldnodhfkojaaGreat
namespace Go.Proofs.YtfnldnodhfkojaaGreat
open Go.RowKit Go.Maps Go.Sort Go.Proofs Go.Shelf
set_option linter.unusedVariables false
set_option linter.unusedSimpArgs false
attribute [local go_sem] Oper.semAt_some
/-- The names that begin so. -/
def posF (p : ByteArray) (ss : List (List UInt8)) : List (List UInt8) := ss.filter fun x => preF p ⟨x.toArray⟩
theorem pos_hit (p : ByteArray) (pre : List (List UInt8)) {x : List UInt8} (h : preF p ⟨x.toArray⟩ = true) : posF p (pre ++ [x]) = posF p pre ++ [x] := by simp [posF, h]
theorem pos_miss (p : ByteArray) (pre : List (List UInt8)) {x : List UInt8} (h : ¬ preF p ⟨x.toArray⟩ = true) : posF p (pre ++ [x]) = posF p pre := by simp [posF, h]
theorem info9 : (Tryz.prog.info? 9).map (fun i => (i.zero, i.size, i.bytes)) = some (some (.string ByteArray.empty), 1, 16) := by kernel_rfl
set_option maxRecDepth 100000 in
set_option maxHeartbeats 2000000 in
theorem names_in {H : Type} (n : Nat) (hn : 3 ≤ n) (d b nn : Nat) (p : ByteArray) (w : World) (D0 : DataW H) {R : Value → Option (DataW H × List MemPlace)} (hown : w.ownsMap Tryz.prog 9 R b nn D0) (hd : d < w.heap.size)
    (hc : w.cell? ⟨d, 4, none⟩ = some (.map (some b))) (hmax : Maps.size D0 ≤ 1000) (fin : Value → World → Prop)
    (hsort : ∀ (D : Nat) (ss : List (List UInt8)) (v : Value) (W : World), w.heap.size + 2 ≤ D → ss.Perm (strKeys D0) → Boxed W (w.heap.size + 1) 68 v → W.ownsRow (w.heap.size + 1) 9 1 v (posF p ss).length ((posF p ss).map encStr) → Below w.heap.size w W →
      W.heap[D]? = some (.deferred (some [])) → CallsIn Fence.wide (n - 1) Tryz.prog 99 #[v] W fun e W' => e = .returned (.tuple #[]) ∧ W'.cell? ⟨w.heap.size + 1, 0, none⟩ = some v ∧ W'.heap[D]? = some (.deferred (some [])) ∧ fin v (W'.putObj D (.deferred none))) :
    CallsIn Fence.wide n Tryz.prog 33 #[.pointer (some ⟨d, 0, none⟩), .string p] w fun e W' => ∃ v, e = .returned v ∧ fin v W' := by
  have h1 : 1 ≤ n := by omega
  obtain ⟨i0, hi, hz0, hz1, hz2⟩ := info_parts info9
  have hbl := hown.lt
  have hc2 : ((w.alloc (.cells #[.string p] 9)).alloc (.cells #[.slice none 0 0] 68)).cell? ⟨d, 4, none⟩ = some (.map (some b)) := by
    rw [World.cell?_alloc_past _ _ _ (by simp; omega), World.cell?_alloc_past _ _ _ hd]; exact hc
  refine callsIn_of_wp_marks Tryz.func33 rfl trivial ?_ rfl
  simp only [Tryz.ntmps33, List.size_toArray, List.length_cons, List.length_nil, Nat.reduceAdd, Nat.reduceSub, Array.replicate_succ, Array.replicate_zero, List.push_toArray, List.append_toArray, List.nil_append, List.cons_append]
  gi_wp2_with (refine ⟨trivial, ?_⟩; gi_at_call 97; refine (callsIn_wide.2 (keys_in _ _)).mono ?_; rintro e w' ⟨rfl, rfl⟩)
  have bP := Boxed.new w 9 (.string p)
  have bO := Boxed.new (w.alloc (.cells #[.string p] 9)) 68 (.slice none 0 0)
  have bM := Boxed.new ((w.alloc (.cells #[.string p] 9)).alloc (.cells #[.slice none 0 0] 68)) 110 (.map (some b))
  rw [World.size_alloc] at bO bM
  rw [World.size_alloc] at bM
  have hB0 : Below w.heap.size w (((w.alloc (.cells #[.string p] 9)).alloc (.cells #[.slice none 0 0] 68)).alloc (.cells #[.map (some b)] 110)) := (((Below.refl _ w).alloc (Nat.le_refl _) _).alloc (by simp) _).alloc (by simp; omega) _
  have hown0 : (((w.alloc (.cells #[.string p] 9)).alloc (.cells #[.slice none 0 0] 68)).alloc (.cells #[.map (some b)] 110)).ownsMap Tryz.prog 9 R b nn D0 := by
    obtain ⟨es, clock, hb, Ft, hs, hD⟩ := hown
    exact ⟨es, clock, (hB0.block b hbl).trans hb, Ft, hs, hD⟩
  have hseq : SeqStops Fence.wide (n - 1) Tryz.prog 143 #[.pointer (some ⟨w.heap.size + 1 + 1, 0, none⟩)] encStr (fun ss => ss.Perm (strKeys D0)) (fun _ => True) (Maps.size D0) (((w.alloc (.cells #[.string p] 9)).alloc (.cells #[.slice none 0 0] 68)).alloc (.cells #[.map (some b)] 110)) := fun l J Jx W hW hJ hJx hY h0 => by
    have hown' : W.ownsMap Tryz.prog 9 R b nn D0 := by
      obtain ⟨es, clock, hb, Ft, hs, hD⟩ := hown0
      exact ⟨es, clock, (hW.block b (by simp; omega)).trans hb, Ft, hs, hD⟩
    exact keys1_in Fence.wide (n - 1) trivial rfl (by omega) l (w.heap.size + 1 + 1) b nn D0 J Jx hY W hJ ((hW.cell (p := ⟨w.heap.size + 1 + 1, 0, none⟩) (by simp)).trans bM.cell) hown' h0
  refine wpIn_rangeFunc_ownG rfl h1 (gf := 143) (lb := #[.pointer (some ⟨w.heap.size + 1 + 1, 0, none⟩)]) rfl trivial (enters_of Tryz.func143 (by kernel_rfl) rfl)
    (encs := fun x => #[encStr x]) (Kp := KeepsWalks) (S := fun ss => ss.Perm (strKeys D0)) (Sp := fun _ => True) (N := Maps.size D0) hseq walksK_t (fun W l o o' _ h _ hw => KeepsWalks.putObj _ h hw) (Below.refl _ _) (fun _ => rfl)
    (fun pre W => ((∃ v, Boxed W (w.heap.size + 1) 68 v ∧ W.ownsRow (w.heap.size + 1) 9 1 v (posF p pre).length ((posF p pre).map encStr) ∧ True) ∧ Boxed W w.heap.size 9 (.string p)) ∧ Below w.heap.size w W)
    (fun _ _ _ => False)
    (OwnFrom.and (OwnFrom.and (Own.from (holdsRow_own (w.heap.size + 1) (w.heap.size + 1) 68 9 1 (fun pre => (posF p pre).length) (fun pre => (posF p pre).map encStr) (fun _ _ => True)) _) (Own.from (boxed_own w.heap.size 9 (fun _ => .string p)) _)) (ownFrom_below (Nat.le_refl _) (by simp; omega)))
    (fun _ _ _ _ _ hs _ _ => hs)
    ⟨⟨⟨_, bO.alloc _, World.ownsRow_nil _ _ _ _, trivial⟩, (bP.alloc _).alloc _⟩, hB0⟩
    (fun x => { tmps := #[Value.pointer (some { block := d, off := 0 }), Value.string p, undef,
                Value.pointer (some { block := w.heap.size, off := 0 }), Value.slice none 0 0,
                Value.pointer (some { block := w.heap.size + 1, off := 0 }), encStr x,
                Value.pointer (some { block := d, off := 0 }), Value.bool false,
                Value.pointer (some { block := d, off := 0 }), Value.pointer (some { block := d, off := 0 }),
                Value.pointer (some { block := d, off := 4 }), Value.map (some b), .func (.func 143) #[] #[.pointer (some ⟨w.heap.size + 1 + 1, 0, none⟩)], encStr x, undef, undef, undef, undef, undef,
                undef, undef, undef, undef, undef], defers := [] }) ?assign ?body ?done ?stop
  case assign =>
    intro l x W K hK
    gi_wp2
    exact hK
  case body =>
    rintro l pre x W ⟨⟨⟨v, hv, hrow, -⟩, hbp⟩, hB⟩ hlt
    have hcv := hv.cell
    have hcp := hbp.cell
    have hpl : (posF p pre).length ≤ pre.length := List.length_filter_le _ _
    have hml : 1000 ≤ maxLen := by decide
    have hvl := hv.lt
    gi_wp2_with (first
      | (refine ⟨trivial, fun _ => by omega, ?_⟩; gi_at_call 98; refine (CallsIn.inRound l (callsIn_wide.2 (prefix_c ⟨x.toArray⟩ p W))).mono ?_; rintro e w' ⟨rfl, he⟩; have he := he.symm; subst he)
      | (gi_at_builtin; refine wpListIn_append_own _ rfl _ _ 68 rfl (w.heap.size + 1) 9 i0 (.string ByteArray.empty) 1 16 Tryz.underlying68 hi hz0 hz1 hz2 rfl (by decide) _ _ _ rfl (hrow.alloc _) ⟨W.heap.size, 0, none⟩ 1 1 [encStr x] rfl rfl (cell_one_new _ _ _) (by simp [Value.oneCell', encStr]) (by omega) (by omega) (by simp; omega) ?_; intro v' w1 hown' hgrow _; obtain ⟨g', cap', rfl⟩ := ownsRow_succ hown'; obtain ⟨hv1, hv2, hr2, hk2, hb2⟩ := hv.appended (by decide) hrow (by omega) (by omega) hown' hgrow; have hc1 := hv1.cell; have hf1 := hv1.frozen))
    · have hx : preF p ⟨x.toArray⟩ = true := by assumption
      exact ⟨hk2.from _, hk2.walks, ⟨⟨⟨_, hv2, by rw [pos_hit p pre hx]; simpa using hr2, trivial⟩, (hb2.block w.heap.size (by omega)).trans hbp⟩, hB.trans (hb2.mono (by omega))⟩⟩
    · have hx : ¬ preF p ⟨x.toArray⟩ = true := by rename_i hx; rw [hx]; simp
      exact ⟨KeepsFrom.refl _ _, (KeepsOthers.refl _).walks, ⟨⟨⟨v, hv, by rw [pos_miss p pre hx]; exact hrow, trivial⟩, hbp⟩, hB⟩⟩
  case done =>
    rintro D ys W hD hS ⟨⟨⟨v, hv, hrow, -⟩, hbp⟩, hB⟩ hK
    have hcv := hv.cell
    have hvl := hv.lt
    have hD2 : w.heap.size + 2 ≤ D := by simp at hD; omega
    gi_wp2_with (refine ⟨trivial, ?_⟩; gi_at_call 99; refine (hsort D ys v W hD2 hS hv hrow hB hK).mono ?_; rintro e w' ⟨rfl, hc1, hK1, hfin⟩)
    refine ⟨by simp, .inl ⟨_, _, rfl, run_takeDeferred hK1, ?_⟩⟩
    exact ⟨_, results_tmp rfl _ _ _, v, rfl, hfin⟩
  case stop =>
    rintro D c pre W _ _ h _
    exact h.elim
end Go.Proofs.YtfnldnodhfkojaaGreat
namespace Go.Dec
set_option linter.unusedVariables false
/-- What the sort of one type of elements leans on. -/
structure SortI where
  T : TypeId
  s : Sh1
  sz : Nat
  less : HL s.prims → HL s.prims → (Bool → Prog) → Prog
  ex : List Value
  xs : TypeId
  ti : TypeId
  fNext : FuncId
  fPow : FuncId
  f_sift : FuncId
  f_heap : FuncId
  f_ins : FuncId
  f_brk : FuncId
  f_rev : FuncId
  f_pins : FuncId
  f_peq : FuncId
  f_part : FuncId
  f_ord2 : FuncId
  f_med : FuncId
  f_medj : FuncId
  f_piv : FuncId
  f_pdq : FuncId
def SortI.sift (I : SortI) (data : Sl) (lo : Int) (hi : Int) (first : Int) : Prog :=
.lt (.int .i64) (lo) fun (n0 : Int) =>
.bind 1 [] (
.loop 2 [.one (.int .i64)] (n0, ()) (u1 fun (n1 : Int) =>
.lt (.int .i64) (IntKind.wrap .i64 (IntKind.wrap .i64 (2 * n1) + 1)) fun (n2 : Int) =>
.ite (decide (n2 ≥ hi)) (
.done 1 []) (
.bind 3 [.one .bool] (
.tick <|
.ex [.adr] (c1 fun a3 => decide (IntKind.wrap .i64 (n2 + 1) < hi) = true → 0 ≤ IntKind.wrap .i64 (first + n2) ∧ IntKind.wrap .i64 (first + n2) < ((data.len : Nat) : Int) ∧ data.a = some a3) (u1 fun a4 =>
.read ((decide (IntKind.wrap .i64 (n2 + 1) < hi) = true)) (ld I.T (Addr.add a4 (Int.toNat (IntKind.wrap .i64 (first + n2)) * I.sz))) (.one I.s) (fun n5 =>
.ex [.adr] (c1 fun a6 => decide (IntKind.wrap .i64 (n2 + 1) < hi) = true → 0 ≤ IntKind.wrap .i64 (IntKind.wrap .i64 (first + n2) + 1) ∧ IntKind.wrap .i64 (IntKind.wrap .i64 (first + n2) + 1) < ((data.len : Nat) : Int) ∧ data.a = some a6) (u1 fun a7 =>
.read ((decide (IntKind.wrap .i64 (n2 + 1) < hi) = true)) (ld I.T (Addr.add a7 (Int.toNat (IntKind.wrap .i64 (IntKind.wrap .i64 (first + n2) + 1)) * I.sz))) (.one I.s) (fun n8 =>
.ite (decide (IntKind.wrap .i64 (n2 + 1) < hi)) (
I.less n5 n8 (fun b9 =>
.untick <|
.done 3 [.bool b9])) (
.untick <|
.done 3 [.bool false])))))) (u1 fun b10 =>
.bind 3 [.one (.int .i64)] (
.ite (b10) (
.lt (.int .i64) (IntKind.wrap .i64 (n2 + 1)) fun (n11 : Int) =>
.done 3 [.int .i64 n11]) (
.done 3 [.int .i64 n2])) (u1 fun (n12 : Int) =>
.tick <|
.ex [.adr] (c1 fun a13 => 0 ≤ IntKind.wrap .i64 (first + n1) ∧ IntKind.wrap .i64 (first + n1) < ((data.len : Nat) : Int) ∧ data.a = some a13) (u1 fun a14 =>
.read (True) (ld I.T (Addr.add a14 (Int.toNat (IntKind.wrap .i64 (first + n1)) * I.sz))) (.one I.s) (fun n15 =>
.ex [.adr] (c1 fun a16 => 0 ≤ IntKind.wrap .i64 (first + n12) ∧ IntKind.wrap .i64 (first + n12) < ((data.len : Nat) : Int) ∧ data.a = some a16) (u1 fun a17 =>
.read (True) (ld I.T (Addr.add a17 (Int.toNat (IntKind.wrap .i64 (first + n12)) * I.sz))) (.one I.s) (fun n18 =>
I.less n15 n18 (fun b19 =>
.untick <|
.ite (not b19) (
.done 0 []) (
.bind 3 [] (
.tick <|
.ex [.adr] (c1 fun a20 => 0 ≤ IntKind.wrap .i64 (first + n12) ∧ IntKind.wrap .i64 (first + n12) < ((data.len : Nat) : Int) ∧ data.a = some a20) (u1 fun a21 =>
.read (True) (ld I.T (Addr.add a21 (Int.toNat (IntKind.wrap .i64 (first + n12)) * I.sz))) (.one I.s) (fun n22 =>
.ex [.adr] (c1 fun a23 => 0 ≤ IntKind.wrap .i64 (first + n1) ∧ IntKind.wrap .i64 (first + n1) < ((data.len : Nat) : Int) ∧ data.a = some a23) (u1 fun a24 =>
.read (True) (ld I.T (Addr.add a24 (Int.toNat (IntKind.wrap .i64 (first + n1)) * I.sz))) (.one I.s) (fun n25 =>
.ex [.adr] (c1 fun a26 => 0 ≤ IntKind.wrap .i64 (first + n1) ∧ IntKind.wrap .i64 (first + n1) < ((data.len : Nat) : Int) ∧ data.a = some a26) (u1 fun a27 =>
.actU (st I.T (Addr.add a27 (Int.toNat (IntKind.wrap .i64 (first + n1)) * I.sz)) ((Sh.one I.s).mk n22)) <|
.ex [.adr] (c1 fun a28 => 0 ≤ IntKind.wrap .i64 (first + n12) ∧ IntKind.wrap .i64 (first + n12) < ((data.len : Nat) : Int) ∧ data.a = some a28) (u1 fun a29 =>
.actU (st I.T (Addr.add a29 (Int.toNat (IntKind.wrap .i64 (first + n12)) * I.sz)) ((Sh.one I.s).mk n25)) <|
.untick <|
.done 3 []))))))) (u0 <|
.lt (.int .i64) (n12) fun (n30 : Int) =>
.done 2 [.int .i64 n30])))))))))))) (u0 <|
.done 0 [])
def SortI.heap (I : SortI) (data : Sl) (a : Int) (b : Int) : Prog :=
.lt (.int .i64) (a) fun (n0 : Int) =>
.lt (.int .i64) (IntKind.wrap .i64 (b - a)) fun (n1 : Int) =>
.lt (.int .i64) (IntKind.wrap .i64 (Int.tdiv (IntKind.wrap .i64 (n1 - 1)) 2)) fun (n2 : Int) =>
.bind 1 [] (
.loop 2 [.one (.int .i64)] (n2, ()) (u1 fun (n3 : Int) =>
.ite (decide (n3 ≥ 0)) (
.call I.f_sift ([data.v, .int .i64 n3, .int .i64 n1, .int .i64 n0] ++ I.ex) (.tup []) (u0 <|
.lt (.int .i64) (IntKind.wrap .i64 (n3 - 1)) fun (n4 : Int) =>
.done 2 [.int .i64 n4])) (
.done 1 []))) (u0 <|
.lt (.int .i64) (IntKind.wrap .i64 (n1 - 1)) fun (n5 : Int) =>
.bind 1 [] (
.loop 2 [.one (.int .i64)] (n5, ()) (u1 fun (n6 : Int) =>
.ite (decide (n6 ≥ 0)) (
.bind 3 [] (
.tick <|
.ex [.adr] (c1 fun a7 => 0 ≤ IntKind.wrap .i64 (n0 + n6) ∧ IntKind.wrap .i64 (n0 + n6) < ((data.len : Nat) : Int) ∧ data.a = some a7) (u1 fun a8 =>
.read (True) (ld I.T (Addr.add a8 (Int.toNat (IntKind.wrap .i64 (n0 + n6)) * I.sz))) (.one I.s) (fun n9 =>
.ex [.adr] (c1 fun a10 => 0 ≤ n0 ∧ n0 < ((data.len : Nat) : Int) ∧ data.a = some a10) (u1 fun a11 =>
.read (True) (ld I.T (Addr.add a11 (Int.toNat n0 * I.sz))) (.one I.s) (fun n12 =>
.ex [.adr] (c1 fun a13 => 0 ≤ n0 ∧ n0 < ((data.len : Nat) : Int) ∧ data.a = some a13) (u1 fun a14 =>
.actU (st I.T (Addr.add a14 (Int.toNat n0 * I.sz)) ((Sh.one I.s).mk n9)) <|
.ex [.adr] (c1 fun a15 => 0 ≤ IntKind.wrap .i64 (n0 + n6) ∧ IntKind.wrap .i64 (n0 + n6) < ((data.len : Nat) : Int) ∧ data.a = some a15) (u1 fun a16 =>
.actU (st I.T (Addr.add a16 (Int.toNat (IntKind.wrap .i64 (n0 + n6)) * I.sz)) ((Sh.one I.s).mk n12)) <|
.untick <|
.done 3 []))))))) (u0 <|
.call I.f_sift ([data.v, .int .i64 0, .int .i64 n6, .int .i64 n0] ++ I.ex) (.tup []) (u0 <|
.lt (.int .i64) (IntKind.wrap .i64 (n6 - 1)) fun (n17 : Int) =>
.done 2 [.int .i64 n17]))) (
.done 1 []))) (u0 <|
.done 0 []))
def SortI.ins (I : SortI) (data : Sl) (a : Int) (b : Int) : Prog :=
.lt (.int .i64) (IntKind.wrap .i64 (a + 1)) fun (n0 : Int) =>
.bind 1 [] (
.loop 2 [.one (.int .i64)] (n0, ()) (u1 fun (n1 : Int) =>
.ite (decide (n1 < b)) (
.bind 3 [] (
.lt (.int .i64) (n1) fun (n2 : Int) =>
.bind 4 [] (
.loop 5 [.one (.int .i64)] (n2, ()) (u1 fun (n3 : Int) =>
.bind 6 [.one .bool] (
.tick <|
.ex [.adr] (c1 fun a4 => decide (n3 > a) = true → 0 ≤ n3 ∧ n3 < ((data.len : Nat) : Int) ∧ data.a = some a4) (u1 fun a5 =>
.read ((decide (n3 > a) = true)) (ld I.T (Addr.add a5 (Int.toNat n3 * I.sz))) (.one I.s) (fun n6 =>
.ex [.adr] (c1 fun a7 => decide (n3 > a) = true → 0 ≤ IntKind.wrap .i64 (n3 - 1) ∧ IntKind.wrap .i64 (n3 - 1) < ((data.len : Nat) : Int) ∧ data.a = some a7) (u1 fun a8 =>
.read ((decide (n3 > a) = true)) (ld I.T (Addr.add a8 (Int.toNat (IntKind.wrap .i64 (n3 - 1)) * I.sz))) (.one I.s) (fun n9 =>
.ite (decide (n3 > a)) (
I.less n6 n9 (fun b10 =>
.untick <|
.done 6 [.bool b10])) (
.untick <|
.done 6 [.bool false])))))) (u1 fun b11 =>
.ite (b11) (
.bind 6 [] (
.tick <|
.ex [.adr] (c1 fun a12 => 0 ≤ IntKind.wrap .i64 (n3 - 1) ∧ IntKind.wrap .i64 (n3 - 1) < ((data.len : Nat) : Int) ∧ data.a = some a12) (u1 fun a13 =>
.read (True) (ld I.T (Addr.add a13 (Int.toNat (IntKind.wrap .i64 (n3 - 1)) * I.sz))) (.one I.s) (fun n14 =>
.ex [.adr] (c1 fun a15 => 0 ≤ n3 ∧ n3 < ((data.len : Nat) : Int) ∧ data.a = some a15) (u1 fun a16 =>
.read (True) (ld I.T (Addr.add a16 (Int.toNat n3 * I.sz))) (.one I.s) (fun n17 =>
.ex [.adr] (c1 fun a18 => 0 ≤ n3 ∧ n3 < ((data.len : Nat) : Int) ∧ data.a = some a18) (u1 fun a19 =>
.actU (st I.T (Addr.add a19 (Int.toNat n3 * I.sz)) ((Sh.one I.s).mk n14)) <|
.ex [.adr] (c1 fun a20 => 0 ≤ IntKind.wrap .i64 (n3 - 1) ∧ IntKind.wrap .i64 (n3 - 1) < ((data.len : Nat) : Int) ∧ data.a = some a20) (u1 fun a21 =>
.actU (st I.T (Addr.add a21 (Int.toNat (IntKind.wrap .i64 (n3 - 1)) * I.sz)) ((Sh.one I.s).mk n17)) <|
.untick <|
.done 6 []))))))) (u0 <|
.lt (.int .i64) (IntKind.wrap .i64 (n3 - 1)) fun (n22 : Int) =>
.done 5 [.int .i64 n22])) (
.done 4 [])))) (u0 <|
.done 3 [])) (u0 <|
.lt (.int .i64) (IntKind.wrap .i64 (n1 + 1)) fun (n23 : Int) =>
.done 2 [.int .i64 n23])) (
.done 1 []))) (u0 <|
.done 0 [])
def SortI.brk (I : SortI) (data : Sl) (a : Int) (b : Int) : Prog :=
.lt (.int .i64) (IntKind.wrap .i64 (b - a)) fun (n0 : Int) =>
.bind 1 [] (
.ite (decide (n0 ≥ 8)) (
.act (new I.xs) sA (u1 fun a1 =>
.actU (st I.xs a1 (.int .u64 (IntKind.wrap .u64 n0))) <|
.call I.fPow [.int .i64 n0] (sI .u64) (u1 fun (n2 : Int) =>
.lt (.int .u64) (n2) fun (n3 : Int) =>
.lt (.int .i64) (IntKind.wrap .i64 (IntKind.wrap .i64 (a + IntKind.wrap .i64 (IntKind.wrap .i64 (Int.tdiv n0 4) * 2)) - 1)) fun (n4 : Int) =>
.bind 2 [] (
.loop 3 [.one (.int .i64)] (n4, ()) (u1 fun (n5 : Int) =>
.ite (decide (n5 ≤ IntKind.wrap .i64 (IntKind.wrap .i64 (a + IntKind.wrap .i64 (IntKind.wrap .i64 (Int.tdiv n0 4) * 2)) + 1))) (
.call I.fNext [.pointer (some a1)] (sI .u64) (u1 fun (n6 : Int) =>
.lt (.int .i64) (IntKind.wrap .i64 (IntKind.wrap .u64 (((BitVec.toNat (BitVec.ofInt 64 n6 &&& BitVec.ofInt 64 (IntKind.wrap .u64 (n3 - 1))) : Nat) : Int)))) fun (n7 : Int) =>
.bind 4 [.one (.int .i64)] (
.ite (decide (n7 ≥ n0)) (
.lt (.int .i64) (IntKind.wrap .i64 (n7 - n0)) fun (n8 : Int) =>
.done 4 [.int .i64 n8]) (
.done 4 [.int .i64 n7])) (u1 fun (n9 : Int) =>
.bind 4 [] (
.tick <|
.ex [.adr] (c1 fun a10 => 0 ≤ IntKind.wrap .i64 (a + n9) ∧ IntKind.wrap .i64 (a + n9) < ((data.len : Nat) : Int) ∧ data.a = some a10) (u1 fun a11 =>
.read (True) (ld I.T (Addr.add a11 (Int.toNat (IntKind.wrap .i64 (a + n9)) * I.sz))) (.one I.s) (fun n12 =>
.ex [.adr] (c1 fun a13 => 0 ≤ n5 ∧ n5 < ((data.len : Nat) : Int) ∧ data.a = some a13) (u1 fun a14 =>
.read (True) (ld I.T (Addr.add a14 (Int.toNat n5 * I.sz))) (.one I.s) (fun n15 =>
.ex [.adr] (c1 fun a16 => 0 ≤ n5 ∧ n5 < ((data.len : Nat) : Int) ∧ data.a = some a16) (u1 fun a17 =>
.actU (st I.T (Addr.add a17 (Int.toNat n5 * I.sz)) ((Sh.one I.s).mk n12)) <|
.ex [.adr] (c1 fun a18 => 0 ≤ IntKind.wrap .i64 (a + n9) ∧ IntKind.wrap .i64 (a + n9) < ((data.len : Nat) : Int) ∧ data.a = some a18) (u1 fun a19 =>
.actU (st I.T (Addr.add a19 (Int.toNat (IntKind.wrap .i64 (a + n9)) * I.sz)) ((Sh.one I.s).mk n15)) <|
.untick <|
.done 4 []))))))) (u0 <|
.lt (.int .i64) (IntKind.wrap .i64 (n5 + 1)) fun (n20 : Int) =>
.done 3 [.int .i64 n20])))) (
.done 2 []))) (u0 <|
.done 1 [])))) (
.done 1 [])) (u0 <|
.done 0 [])
def SortI.rev (I : SortI) (data : Sl) (a : Int) (b : Int) : Prog :=
.lt (.int .i64) (a) fun (n0 : Int) =>
.lt (.int .i64) (IntKind.wrap .i64 (b - 1)) fun (n1 : Int) =>
.bind 1 [] (
.loop 2 [.one (.int .i64), .one (.int .i64)] (n0, (n1, ())) (u2 fun (n2 : Int) (n3 : Int) =>
.ite (decide (n2 < n3)) (
.bind 3 [] (
.tick <|
.ex [.adr] (c1 fun a4 => 0 ≤ n3 ∧ n3 < ((data.len : Nat) : Int) ∧ data.a = some a4) (u1 fun a5 =>
.read (True) (ld I.T (Addr.add a5 (Int.toNat n3 * I.sz))) (.one I.s) (fun n6 =>
.ex [.adr] (c1 fun a7 => 0 ≤ n2 ∧ n2 < ((data.len : Nat) : Int) ∧ data.a = some a7) (u1 fun a8 =>
.read (True) (ld I.T (Addr.add a8 (Int.toNat n2 * I.sz))) (.one I.s) (fun n9 =>
.ex [.adr] (c1 fun a10 => 0 ≤ n2 ∧ n2 < ((data.len : Nat) : Int) ∧ data.a = some a10) (u1 fun a11 =>
.actU (st I.T (Addr.add a11 (Int.toNat n2 * I.sz)) ((Sh.one I.s).mk n6)) <|
.ex [.adr] (c1 fun a12 => 0 ≤ n3 ∧ n3 < ((data.len : Nat) : Int) ∧ data.a = some a12) (u1 fun a13 =>
.actU (st I.T (Addr.add a13 (Int.toNat n3 * I.sz)) ((Sh.one I.s).mk n9)) <|
.untick <|
.done 3 []))))))) (u0 <|
.lt (.int .i64) (IntKind.wrap .i64 (n2 + 1)) fun (n14 : Int) =>
.lt (.int .i64) (IntKind.wrap .i64 (n3 - 1)) fun (n15 : Int) =>
.done 2 [.int .i64 n14, .int .i64 n15])) (
.done 1 []))) (u0 <|
.done 0 [])
def SortI.pins (I : SortI) (data : Sl) (a : Int) (b : Int) : Prog :=
.lt (.int .i64) (IntKind.wrap .i64 (a + 1)) fun (n0 : Int) =>
.bind 1 [] (
.loop 2 [.one (.int .i64), .one (.int .i64)] (n0, (0, ())) (u2 fun (n1 : Int) (n2 : Int) =>
.ite (decide (n2 < 5)) (
.bind 3 [.one (.int .i64)] (
.bind 4 [.one (.int .i64)] (
.loop 5 [.one (.int .i64)] (n1, ()) (u1 fun (n3 : Int) =>
.bind 6 [.one .bool] (
.tick <|
.ex [.adr] (c1 fun a4 => decide (n3 < b) = true → 0 ≤ n3 ∧ n3 < ((data.len : Nat) : Int) ∧ data.a = some a4) (u1 fun a5 =>
.read ((decide (n3 < b) = true)) (ld I.T (Addr.add a5 (Int.toNat n3 * I.sz))) (.one I.s) (fun n6 =>
.ex [.adr] (c1 fun a7 => decide (n3 < b) = true → 0 ≤ IntKind.wrap .i64 (n3 - 1) ∧ IntKind.wrap .i64 (n3 - 1) < ((data.len : Nat) : Int) ∧ data.a = some a7) (u1 fun a8 =>
.read ((decide (n3 < b) = true)) (ld I.T (Addr.add a8 (Int.toNat (IntKind.wrap .i64 (n3 - 1)) * I.sz))) (.one I.s) (fun n9 =>
.ite (decide (n3 < b)) (
I.less n6 n9 (fun b10 =>
.untick <|
.done 6 [.bool (not b10)])) (
.untick <|
.done 6 [.bool false])))))) (u1 fun b11 =>
.ite (b11) (
.lt (.int .i64) (IntKind.wrap .i64 (n3 + 1)) fun (n12 : Int) =>
.done 5 [.int .i64 n12]) (
.done 4 [.int .i64 n3])))) (u1 fun (n13 : Int) =>
.ite (n13 == b) (
.done 0 [.bool true]) (
.ite (decide (IntKind.wrap .i64 (b - a) < 50)) (
.done 0 [.bool false]) (
.bind 4 [] (
.tick <|
.ex [.adr] (c1 fun a14 => 0 ≤ IntKind.wrap .i64 (n13 - 1) ∧ IntKind.wrap .i64 (n13 - 1) < ((data.len : Nat) : Int) ∧ data.a = some a14) (u1 fun a15 =>
.read (True) (ld I.T (Addr.add a15 (Int.toNat (IntKind.wrap .i64 (n13 - 1)) * I.sz))) (.one I.s) (fun n16 =>
.ex [.adr] (c1 fun a17 => 0 ≤ n13 ∧ n13 < ((data.len : Nat) : Int) ∧ data.a = some a17) (u1 fun a18 =>
.read (True) (ld I.T (Addr.add a18 (Int.toNat n13 * I.sz))) (.one I.s) (fun n19 =>
.ex [.adr] (c1 fun a20 => 0 ≤ n13 ∧ n13 < ((data.len : Nat) : Int) ∧ data.a = some a20) (u1 fun a21 =>
.actU (st I.T (Addr.add a21 (Int.toNat n13 * I.sz)) ((Sh.one I.s).mk n16)) <|
.ex [.adr] (c1 fun a22 => 0 ≤ IntKind.wrap .i64 (n13 - 1) ∧ IntKind.wrap .i64 (n13 - 1) < ((data.len : Nat) : Int) ∧ data.a = some a22) (u1 fun a23 =>
.actU (st I.T (Addr.add a23 (Int.toNat (IntKind.wrap .i64 (n13 - 1)) * I.sz)) ((Sh.one I.s).mk n19)) <|
.untick <|
.done 4 []))))))) (u0 <|
.bind 4 [] (
.ite (decide (IntKind.wrap .i64 (n13 - a) ≥ 2)) (
.lt (.int .i64) (IntKind.wrap .i64 (n13 - 1)) fun (n24 : Int) =>
.bind 5 [] (
.loop 6 [.one (.int .i64)] (n24, ()) (u1 fun (n25 : Int) =>
.ite (decide (n25 ≥ 1)) (
.tick <|
.ex [.adr] (c1 fun a26 => 0 ≤ n25 ∧ n25 < ((data.len : Nat) : Int) ∧ data.a = some a26) (u1 fun a27 =>
.read (True) (ld I.T (Addr.add a27 (Int.toNat n25 * I.sz))) (.one I.s) (fun n28 =>
.ex [.adr] (c1 fun a29 => 0 ≤ IntKind.wrap .i64 (n25 - 1) ∧ IntKind.wrap .i64 (n25 - 1) < ((data.len : Nat) : Int) ∧ data.a = some a29) (u1 fun a30 =>
.read (True) (ld I.T (Addr.add a30 (Int.toNat (IntKind.wrap .i64 (n25 - 1)) * I.sz))) (.one I.s) (fun n31 =>
I.less n28 n31 (fun b32 =>
.untick <|
.ite (not b32) (
.done 5 []) (
.bind 7 [] (
.tick <|
.ex [.adr] (c1 fun a33 => 0 ≤ IntKind.wrap .i64 (n25 - 1) ∧ IntKind.wrap .i64 (n25 - 1) < ((data.len : Nat) : Int) ∧ data.a = some a33) (u1 fun a34 =>
.read (True) (ld I.T (Addr.add a34 (Int.toNat (IntKind.wrap .i64 (n25 - 1)) * I.sz))) (.one I.s) (fun n35 =>
.ex [.adr] (c1 fun a36 => 0 ≤ n25 ∧ n25 < ((data.len : Nat) : Int) ∧ data.a = some a36) (u1 fun a37 =>
.read (True) (ld I.T (Addr.add a37 (Int.toNat n25 * I.sz))) (.one I.s) (fun n38 =>
.ex [.adr] (c1 fun a39 => 0 ≤ n25 ∧ n25 < ((data.len : Nat) : Int) ∧ data.a = some a39) (u1 fun a40 =>
.actU (st I.T (Addr.add a40 (Int.toNat n25 * I.sz)) ((Sh.one I.s).mk n35)) <|
.ex [.adr] (c1 fun a41 => 0 ≤ IntKind.wrap .i64 (n25 - 1) ∧ IntKind.wrap .i64 (n25 - 1) < ((data.len : Nat) : Int) ∧ data.a = some a41) (u1 fun a42 =>
.actU (st I.T (Addr.add a42 (Int.toNat (IntKind.wrap .i64 (n25 - 1)) * I.sz)) ((Sh.one I.s).mk n38)) <|
.untick <|
.done 7 []))))))) (u0 <|
.lt (.int .i64) (IntKind.wrap .i64 (n25 - 1)) fun (n43 : Int) =>
.done 6 [.int .i64 n43])))))))) (
.done 5 []))) (u0 <|
.done 4 [])) (
.done 4 [])) (u0 <|
.bind 4 [] (
.ite (decide (IntKind.wrap .i64 (b - n13) ≥ 2)) (
.lt (.int .i64) (IntKind.wrap .i64 (n13 + 1)) fun (n44 : Int) =>
.bind 5 [] (
.loop 6 [.one (.int .i64)] (n44, ()) (u1 fun (n45 : Int) =>
.ite (decide (n45 < b)) (
.tick <|
.ex [.adr] (c1 fun a46 => 0 ≤ n45 ∧ n45 < ((data.len : Nat) : Int) ∧ data.a = some a46) (u1 fun a47 =>
.read (True) (ld I.T (Addr.add a47 (Int.toNat n45 * I.sz))) (.one I.s) (fun n48 =>
.ex [.adr] (c1 fun a49 => 0 ≤ IntKind.wrap .i64 (n45 - 1) ∧ IntKind.wrap .i64 (n45 - 1) < ((data.len : Nat) : Int) ∧ data.a = some a49) (u1 fun a50 =>
.read (True) (ld I.T (Addr.add a50 (Int.toNat (IntKind.wrap .i64 (n45 - 1)) * I.sz))) (.one I.s) (fun n51 =>
I.less n48 n51 (fun b52 =>
.untick <|
.ite (not b52) (
.done 5 []) (
.bind 7 [] (
.tick <|
.ex [.adr] (c1 fun a53 => 0 ≤ IntKind.wrap .i64 (n45 - 1) ∧ IntKind.wrap .i64 (n45 - 1) < ((data.len : Nat) : Int) ∧ data.a = some a53) (u1 fun a54 =>
.read (True) (ld I.T (Addr.add a54 (Int.toNat (IntKind.wrap .i64 (n45 - 1)) * I.sz))) (.one I.s) (fun n55 =>
.ex [.adr] (c1 fun a56 => 0 ≤ n45 ∧ n45 < ((data.len : Nat) : Int) ∧ data.a = some a56) (u1 fun a57 =>
.read (True) (ld I.T (Addr.add a57 (Int.toNat n45 * I.sz))) (.one I.s) (fun n58 =>
.ex [.adr] (c1 fun a59 => 0 ≤ n45 ∧ n45 < ((data.len : Nat) : Int) ∧ data.a = some a59) (u1 fun a60 =>
.actU (st I.T (Addr.add a60 (Int.toNat n45 * I.sz)) ((Sh.one I.s).mk n55)) <|
.ex [.adr] (c1 fun a61 => 0 ≤ IntKind.wrap .i64 (n45 - 1) ∧ IntKind.wrap .i64 (n45 - 1) < ((data.len : Nat) : Int) ∧ data.a = some a61) (u1 fun a62 =>
.actU (st I.T (Addr.add a62 (Int.toNat (IntKind.wrap .i64 (n45 - 1)) * I.sz)) ((Sh.one I.s).mk n58)) <|
.untick <|
.done 7 []))))))) (u0 <|
.lt (.int .i64) (IntKind.wrap .i64 (n45 + 1)) fun (n63 : Int) =>
.done 6 [.int .i64 n63])))))))) (
.done 5 []))) (u0 <|
.done 4 [])) (
.done 4 [])) (u0 <|
.done 3 [.int .i64 n13]))))))) (u1 fun (n64 : Int) =>
.lt (.int .i64) (IntKind.wrap .i64 (n2 + 1)) fun (n65 : Int) =>
.done 2 [.int .i64 n64, .int .i64 n65])) (
.done 1 []))) (u0 <|
.done 0 [.bool false])
def SortI.peq (I : SortI) (data : Sl) (a : Int) (b : Int) (pivot : Int) : Prog :=
.bind 1 [] (
.tick <|
.ex [.adr] (c1 fun a0 => 0 ≤ pivot ∧ pivot < ((data.len : Nat) : Int) ∧ data.a = some a0) (u1 fun a1 =>
.read (True) (ld I.T (Addr.add a1 (Int.toNat pivot * I.sz))) (.one I.s) (fun n2 =>
.ex [.adr] (c1 fun a3 => 0 ≤ a ∧ a < ((data.len : Nat) : Int) ∧ data.a = some a3) (u1 fun a4 =>
.read (True) (ld I.T (Addr.add a4 (Int.toNat a * I.sz))) (.one I.s) (fun n5 =>
.ex [.adr] (c1 fun a6 => 0 ≤ a ∧ a < ((data.len : Nat) : Int) ∧ data.a = some a6) (u1 fun a7 =>
.actU (st I.T (Addr.add a7 (Int.toNat a * I.sz)) ((Sh.one I.s).mk n2)) <|
.ex [.adr] (c1 fun a8 => 0 ≤ pivot ∧ pivot < ((data.len : Nat) : Int) ∧ data.a = some a8) (u1 fun a9 =>
.actU (st I.T (Addr.add a9 (Int.toNat pivot * I.sz)) ((Sh.one I.s).mk n5)) <|
.untick <|
.done 1 []))))))) (u0 <|
.lt (.int .i64) (IntKind.wrap .i64 (a + 1)) fun (n10 : Int) =>
.lt (.int .i64) (IntKind.wrap .i64 (b - 1)) fun (n11 : Int) =>
.bind 1 [.one (.int .i64)] (
.loop 2 [.one (.int .i64), .one (.int .i64)] (n10, (n11, ())) (u2 fun (n12 : Int) (n13 : Int) =>
.bind 3 [.one (.int .i64), .one (.int .i64)] (
.bind 4 [.one (.int .i64)] (
.loop 5 [.one (.int .i64)] (n12, ()) (u1 fun (n14 : Int) =>
.bind 6 [.one .bool] (
.tick <|
.ex [.adr] (c1 fun a15 => decide (n14 ≤ n13) = true → 0 ≤ a ∧ a < ((data.len : Nat) : Int) ∧ data.a = some a15) (u1 fun a16 =>
.read ((decide (n14 ≤ n13) = true)) (ld I.T (Addr.add a16 (Int.toNat a * I.sz))) (.one I.s) (fun n17 =>
.ex [.adr] (c1 fun a18 => decide (n14 ≤ n13) = true → 0 ≤ n14 ∧ n14 < ((data.len : Nat) : Int) ∧ data.a = some a18) (u1 fun a19 =>
.read ((decide (n14 ≤ n13) = true)) (ld I.T (Addr.add a19 (Int.toNat n14 * I.sz))) (.one I.s) (fun n20 =>
.ite (decide (n14 ≤ n13)) (
I.less n17 n20 (fun b21 =>
.untick <|
.done 6 [.bool (not b21)])) (
.untick <|
.done 6 [.bool false])))))) (u1 fun b22 =>
.ite (b22) (
.lt (.int .i64) (IntKind.wrap .i64 (n14 + 1)) fun (n23 : Int) =>
.done 5 [.int .i64 n23]) (
.done 4 [.int .i64 n14])))) (u1 fun (n24 : Int) =>
.bind 4 [.one (.int .i64)] (
.loop 5 [.one (.int .i64)] (n13, ()) (u1 fun (n25 : Int) =>
.bind 6 [.one .bool] (
.tick <|
.ex [.adr] (c1 fun a26 => decide (n24 ≤ n25) = true → 0 ≤ a ∧ a < ((data.len : Nat) : Int) ∧ data.a = some a26) (u1 fun a27 =>
.read ((decide (n24 ≤ n25) = true)) (ld I.T (Addr.add a27 (Int.toNat a * I.sz))) (.one I.s) (fun n28 =>
.ex [.adr] (c1 fun a29 => decide (n24 ≤ n25) = true → 0 ≤ n25 ∧ n25 < ((data.len : Nat) : Int) ∧ data.a = some a29) (u1 fun a30 =>
.read ((decide (n24 ≤ n25) = true)) (ld I.T (Addr.add a30 (Int.toNat n25 * I.sz))) (.one I.s) (fun n31 =>
.ite (decide (n24 ≤ n25)) (
I.less n28 n31 (fun b32 =>
.untick <|
.done 6 [.bool b32])) (
.untick <|
.done 6 [.bool false])))))) (u1 fun b33 =>
.ite (b33) (
.lt (.int .i64) (IntKind.wrap .i64 (n25 - 1)) fun (n34 : Int) =>
.done 5 [.int .i64 n34]) (
.done 4 [.int .i64 n25])))) (u1 fun (n35 : Int) =>
.ite (decide (n24 > n35)) (
.done 1 [.int .i64 n24]) (
.bind 4 [] (
.tick <|
.ex [.adr] (c1 fun a36 => 0 ≤ n35 ∧ n35 < ((data.len : Nat) : Int) ∧ data.a = some a36) (u1 fun a37 =>
.read (True) (ld I.T (Addr.add a37 (Int.toNat n35 * I.sz))) (.one I.s) (fun n38 =>
.ex [.adr] (c1 fun a39 => 0 ≤ n24 ∧ n24 < ((data.len : Nat) : Int) ∧ data.a = some a39) (u1 fun a40 =>
.read (True) (ld I.T (Addr.add a40 (Int.toNat n24 * I.sz))) (.one I.s) (fun n41 =>
.ex [.adr] (c1 fun a42 => 0 ≤ n24 ∧ n24 < ((data.len : Nat) : Int) ∧ data.a = some a42) (u1 fun a43 =>
.actU (st I.T (Addr.add a43 (Int.toNat n24 * I.sz)) ((Sh.one I.s).mk n38)) <|
.ex [.adr] (c1 fun a44 => 0 ≤ n35 ∧ n35 < ((data.len : Nat) : Int) ∧ data.a = some a44) (u1 fun a45 =>
.actU (st I.T (Addr.add a45 (Int.toNat n35 * I.sz)) ((Sh.one I.s).mk n41)) <|
.untick <|
.done 4 []))))))) (u0 <|
.lt (.int .i64) (IntKind.wrap .i64 (n24 + 1)) fun (n46 : Int) =>
.lt (.int .i64) (IntKind.wrap .i64 (n35 - 1)) fun (n47 : Int) =>
.done 3 [.int .i64 n46, .int .i64 n47]))))) (u2 fun (n48 : Int) (n49 : Int) =>
.done 2 [.int .i64 n48, .int .i64 n49]))) (u1 fun (n50 : Int) =>
.lt (.int .i64) (n50) fun (n51 : Int) =>
.done 0 [.int .i64 n51]))
def SortI.part (I : SortI) (data : Sl) (a : Int) (b : Int) (pivot : Int) : Prog :=
.bind 1 [] (
.tick <|
.ex [.adr] (c1 fun a0 => 0 ≤ pivot ∧ pivot < ((data.len : Nat) : Int) ∧ data.a = some a0) (u1 fun a1 =>
.read (True) (ld I.T (Addr.add a1 (Int.toNat pivot * I.sz))) (.one I.s) (fun n2 =>
.ex [.adr] (c1 fun a3 => 0 ≤ a ∧ a < ((data.len : Nat) : Int) ∧ data.a = some a3) (u1 fun a4 =>
.read (True) (ld I.T (Addr.add a4 (Int.toNat a * I.sz))) (.one I.s) (fun n5 =>
.ex [.adr] (c1 fun a6 => 0 ≤ a ∧ a < ((data.len : Nat) : Int) ∧ data.a = some a6) (u1 fun a7 =>
.actU (st I.T (Addr.add a7 (Int.toNat a * I.sz)) ((Sh.one I.s).mk n2)) <|
.ex [.adr] (c1 fun a8 => 0 ≤ pivot ∧ pivot < ((data.len : Nat) : Int) ∧ data.a = some a8) (u1 fun a9 =>
.actU (st I.T (Addr.add a9 (Int.toNat pivot * I.sz)) ((Sh.one I.s).mk n5)) <|
.untick <|
.done 1 []))))))) (u0 <|
.lt (.int .i64) (IntKind.wrap .i64 (a + 1)) fun (n10 : Int) =>
.lt (.int .i64) (IntKind.wrap .i64 (b - 1)) fun (n11 : Int) =>
.bind 1 [.one (.int .i64)] (
.loop 2 [.one (.int .i64)] (n10, ()) (u1 fun (n12 : Int) =>
.bind 3 [.one .bool] (
.tick <|
.ex [.adr] (c1 fun a13 => decide (n12 ≤ n11) = true → 0 ≤ n12 ∧ n12 < ((data.len : Nat) : Int) ∧ data.a = some a13) (u1 fun a14 =>
.read ((decide (n12 ≤ n11) = true)) (ld I.T (Addr.add a14 (Int.toNat n12 * I.sz))) (.one I.s) (fun n15 =>
.ex [.adr] (c1 fun a16 => decide (n12 ≤ n11) = true → 0 ≤ a ∧ a < ((data.len : Nat) : Int) ∧ data.a = some a16) (u1 fun a17 =>
.read ((decide (n12 ≤ n11) = true)) (ld I.T (Addr.add a17 (Int.toNat a * I.sz))) (.one I.s) (fun n18 =>
.ite (decide (n12 ≤ n11)) (
I.less n15 n18 (fun b19 =>
.untick <|
.done 3 [.bool b19])) (
.untick <|
.done 3 [.bool false])))))) (u1 fun b20 =>
.ite (b20) (
.lt (.int .i64) (IntKind.wrap .i64 (n12 + 1)) fun (n21 : Int) =>
.done 2 [.int .i64 n21]) (
.done 1 [.int .i64 n12])))) (u1 fun (n22 : Int) =>
.bind 1 [.one (.int .i64)] (
.loop 2 [.one (.int .i64)] (n11, ()) (u1 fun (n23 : Int) =>
.bind 3 [.one .bool] (
.tick <|
.ex [.adr] (c1 fun a24 => decide (n22 ≤ n23) = true → 0 ≤ n23 ∧ n23 < ((data.len : Nat) : Int) ∧ data.a = some a24) (u1 fun a25 =>
.read ((decide (n22 ≤ n23) = true)) (ld I.T (Addr.add a25 (Int.toNat n23 * I.sz))) (.one I.s) (fun n26 =>
.ex [.adr] (c1 fun a27 => decide (n22 ≤ n23) = true → 0 ≤ a ∧ a < ((data.len : Nat) : Int) ∧ data.a = some a27) (u1 fun a28 =>
.read ((decide (n22 ≤ n23) = true)) (ld I.T (Addr.add a28 (Int.toNat a * I.sz))) (.one I.s) (fun n29 =>
.ite (decide (n22 ≤ n23)) (
I.less n26 n29 (fun b30 =>
.untick <|
.done 3 [.bool (not b30)])) (
.untick <|
.done 3 [.bool false])))))) (u1 fun b31 =>
.ite (b31) (
.lt (.int .i64) (IntKind.wrap .i64 (n23 - 1)) fun (n32 : Int) =>
.done 2 [.int .i64 n32]) (
.done 1 [.int .i64 n23])))) (u1 fun (n33 : Int) =>
.ite (decide (n22 > n33)) (
.bind 1 [] (
.tick <|
.ex [.adr] (c1 fun a34 => 0 ≤ a ∧ a < ((data.len : Nat) : Int) ∧ data.a = some a34) (u1 fun a35 =>
.read (True) (ld I.T (Addr.add a35 (Int.toNat a * I.sz))) (.one I.s) (fun n36 =>
.ex [.adr] (c1 fun a37 => 0 ≤ n33 ∧ n33 < ((data.len : Nat) : Int) ∧ data.a = some a37) (u1 fun a38 =>
.read (True) (ld I.T (Addr.add a38 (Int.toNat n33 * I.sz))) (.one I.s) (fun n39 =>
.ex [.adr] (c1 fun a40 => 0 ≤ n33 ∧ n33 < ((data.len : Nat) : Int) ∧ data.a = some a40) (u1 fun a41 =>
.actU (st I.T (Addr.add a41 (Int.toNat n33 * I.sz)) ((Sh.one I.s).mk n36)) <|
.ex [.adr] (c1 fun a42 => 0 ≤ a ∧ a < ((data.len : Nat) : Int) ∧ data.a = some a42) (u1 fun a43 =>
.actU (st I.T (Addr.add a43 (Int.toNat a * I.sz)) ((Sh.one I.s).mk n39)) <|
.untick <|
.done 1 []))))))) (u0 <|
.lt (.int .i64) (n33) fun (n44 : Int) =>
.done 0 [.int .i64 n44, .bool true])) (
.bind 1 [] (
.tick <|
.ex [.adr] (c1 fun a45 => 0 ≤ n33 ∧ n33 < ((data.len : Nat) : Int) ∧ data.a = some a45) (u1 fun a46 =>
.read (True) (ld I.T (Addr.add a46 (Int.toNat n33 * I.sz))) (.one I.s) (fun n47 =>
.ex [.adr] (c1 fun a48 => 0 ≤ n22 ∧ n22 < ((data.len : Nat) : Int) ∧ data.a = some a48) (u1 fun a49 =>
.read (True) (ld I.T (Addr.add a49 (Int.toNat n22 * I.sz))) (.one I.s) (fun n50 =>
.ex [.adr] (c1 fun a51 => 0 ≤ n22 ∧ n22 < ((data.len : Nat) : Int) ∧ data.a = some a51) (u1 fun a52 =>
.actU (st I.T (Addr.add a52 (Int.toNat n22 * I.sz)) ((Sh.one I.s).mk n47)) <|
.ex [.adr] (c1 fun a53 => 0 ≤ n33 ∧ n33 < ((data.len : Nat) : Int) ∧ data.a = some a53) (u1 fun a54 =>
.actU (st I.T (Addr.add a54 (Int.toNat n33 * I.sz)) ((Sh.one I.s).mk n50)) <|
.untick <|
.done 1 []))))))) (u0 <|
.lt (.int .i64) (IntKind.wrap .i64 (n22 + 1)) fun (n55 : Int) =>
.lt (.int .i64) (IntKind.wrap .i64 (n33 - 1)) fun (n56 : Int) =>
.bind 1 [.one (.int .i64)] (
.loop 2 [.one (.int .i64), .one (.int .i64)] (n55, (n56, ())) (u2 fun (n57 : Int) (n58 : Int) =>
.bind 3 [.one (.int .i64), .one (.int .i64)] (
.bind 4 [.one (.int .i64)] (
.loop 5 [.one (.int .i64)] (n57, ()) (u1 fun (n59 : Int) =>
.bind 6 [.one .bool] (
.tick <|
.ex [.adr] (c1 fun a60 => decide (n59 ≤ n58) = true → 0 ≤ n59 ∧ n59 < ((data.len : Nat) : Int) ∧ data.a = some a60) (u1 fun a61 =>
.read ((decide (n59 ≤ n58) = true)) (ld I.T (Addr.add a61 (Int.toNat n59 * I.sz))) (.one I.s) (fun n62 =>
.ex [.adr] (c1 fun a63 => decide (n59 ≤ n58) = true → 0 ≤ a ∧ a < ((data.len : Nat) : Int) ∧ data.a = some a63) (u1 fun a64 =>
.read ((decide (n59 ≤ n58) = true)) (ld I.T (Addr.add a64 (Int.toNat a * I.sz))) (.one I.s) (fun n65 =>
.ite (decide (n59 ≤ n58)) (
I.less n62 n65 (fun b66 =>
.untick <|
.done 6 [.bool b66])) (
.untick <|
.done 6 [.bool false])))))) (u1 fun b67 =>
.ite (b67) (
.lt (.int .i64) (IntKind.wrap .i64 (n59 + 1)) fun (n68 : Int) =>
.done 5 [.int .i64 n68]) (
.done 4 [.int .i64 n59])))) (u1 fun (n69 : Int) =>
.bind 4 [.one (.int .i64)] (
.loop 5 [.one (.int .i64)] (n58, ()) (u1 fun (n70 : Int) =>
.bind 6 [.one .bool] (
.tick <|
.ex [.adr] (c1 fun a71 => decide (n69 ≤ n70) = true → 0 ≤ n70 ∧ n70 < ((data.len : Nat) : Int) ∧ data.a = some a71) (u1 fun a72 =>
.read ((decide (n69 ≤ n70) = true)) (ld I.T (Addr.add a72 (Int.toNat n70 * I.sz))) (.one I.s) (fun n73 =>
.ex [.adr] (c1 fun a74 => decide (n69 ≤ n70) = true → 0 ≤ a ∧ a < ((data.len : Nat) : Int) ∧ data.a = some a74) (u1 fun a75 =>
.read ((decide (n69 ≤ n70) = true)) (ld I.T (Addr.add a75 (Int.toNat a * I.sz))) (.one I.s) (fun n76 =>
.ite (decide (n69 ≤ n70)) (
I.less n73 n76 (fun b77 =>
.untick <|
.done 6 [.bool (not b77)])) (
.untick <|
.done 6 [.bool false])))))) (u1 fun b78 =>
.ite (b78) (
.lt (.int .i64) (IntKind.wrap .i64 (n70 - 1)) fun (n79 : Int) =>
.done 5 [.int .i64 n79]) (
.done 4 [.int .i64 n70])))) (u1 fun (n80 : Int) =>
.ite (decide (n69 > n80)) (
.done 1 [.int .i64 n80]) (
.bind 4 [] (
.tick <|
.ex [.adr] (c1 fun a81 => 0 ≤ n80 ∧ n80 < ((data.len : Nat) : Int) ∧ data.a = some a81) (u1 fun a82 =>
.read (True) (ld I.T (Addr.add a82 (Int.toNat n80 * I.sz))) (.one I.s) (fun n83 =>
.ex [.adr] (c1 fun a84 => 0 ≤ n69 ∧ n69 < ((data.len : Nat) : Int) ∧ data.a = some a84) (u1 fun a85 =>
.read (True) (ld I.T (Addr.add a85 (Int.toNat n69 * I.sz))) (.one I.s) (fun n86 =>
.ex [.adr] (c1 fun a87 => 0 ≤ n69 ∧ n69 < ((data.len : Nat) : Int) ∧ data.a = some a87) (u1 fun a88 =>
.actU (st I.T (Addr.add a88 (Int.toNat n69 * I.sz)) ((Sh.one I.s).mk n83)) <|
.ex [.adr] (c1 fun a89 => 0 ≤ n80 ∧ n80 < ((data.len : Nat) : Int) ∧ data.a = some a89) (u1 fun a90 =>
.actU (st I.T (Addr.add a90 (Int.toNat n80 * I.sz)) ((Sh.one I.s).mk n86)) <|
.untick <|
.done 4 []))))))) (u0 <|
.lt (.int .i64) (IntKind.wrap .i64 (n69 + 1)) fun (n91 : Int) =>
.lt (.int .i64) (IntKind.wrap .i64 (n80 - 1)) fun (n92 : Int) =>
.done 3 [.int .i64 n91, .int .i64 n92]))))) (u2 fun (n93 : Int) (n94 : Int) =>
.done 2 [.int .i64 n93, .int .i64 n94]))) (u1 fun (n95 : Int) =>
.bind 1 [] (
.tick <|
.ex [.adr] (c1 fun a96 => 0 ≤ a ∧ a < ((data.len : Nat) : Int) ∧ data.a = some a96) (u1 fun a97 =>
.read (True) (ld I.T (Addr.add a97 (Int.toNat a * I.sz))) (.one I.s) (fun n98 =>
.ex [.adr] (c1 fun a99 => 0 ≤ n95 ∧ n95 < ((data.len : Nat) : Int) ∧ data.a = some a99) (u1 fun a100 =>
.read (True) (ld I.T (Addr.add a100 (Int.toNat n95 * I.sz))) (.one I.s) (fun n101 =>
.ex [.adr] (c1 fun a102 => 0 ≤ n95 ∧ n95 < ((data.len : Nat) : Int) ∧ data.a = some a102) (u1 fun a103 =>
.actU (st I.T (Addr.add a103 (Int.toNat n95 * I.sz)) ((Sh.one I.s).mk n98)) <|
.ex [.adr] (c1 fun a104 => 0 ≤ a ∧ a < ((data.len : Nat) : Int) ∧ data.a = some a104) (u1 fun a105 =>
.actU (st I.T (Addr.add a105 (Int.toNat a * I.sz)) ((Sh.one I.s).mk n101)) <|
.untick <|
.done 1 []))))))) (u0 <|
.lt (.int .i64) (n95) fun (n106 : Int) =>
.done 0 [.int .i64 n106, .bool false])))))))
def SortI.ord2 (I : SortI) (data : Sl) (a : Int) (b : Int) (swaps : Option Addr) : Prog :=
.tick <|
.ex [.adr] (c1 fun a0 => 0 ≤ b ∧ b < ((data.len : Nat) : Int) ∧ data.a = some a0) (u1 fun a1 =>
.read (True) (ld I.T (Addr.add a1 (Int.toNat b * I.sz))) (.one I.s) (fun n2 =>
.ex [.adr] (c1 fun a3 => 0 ≤ a ∧ a < ((data.len : Nat) : Int) ∧ data.a = some a3) (u1 fun a4 =>
.read (True) (ld I.T (Addr.add a4 (Int.toNat a * I.sz))) (.one I.s) (fun n5 =>
I.less n2 n5 (fun b6 =>
.untick <|
.ite (b6) (
.ex [.adr] (c1 fun a7 => swaps = some a7) (u1 fun a8 =>
.read True (ld I.ti a8) (sI .i64) (u1 fun (n9 : Int) =>
.ex [.adr] (c1 fun a10 => swaps = some a10) (u1 fun a11 =>
.actU (st I.ti a11 (.int .i64 (IntKind.wrap .i64 (n9 + 1)))) <|
.lt (.int .i64) (b) fun (n12 : Int) =>
.lt (.int .i64) (a) fun (n13 : Int) =>
.done 0 [.int .i64 n12, .int .i64 n13])))) (
.lt (.int .i64) (a) fun (n14 : Int) =>
.lt (.int .i64) (b) fun (n15 : Int) =>
.done 0 [.int .i64 n14, .int .i64 n15]))))))
def SortI.med (I : SortI) (data : Sl) (a : Int) (b : Int) (c : Int) (swaps : Option Addr) : Prog :=
.call I.f_ord2 ([data.v, .int .i64 a, .int .i64 b, .pointer swaps] ++ I.ex) (.tup [.one (.int .i64), .one (.int .i64)]) (u2 fun (n0 : Int) (n1 : Int) =>
.lt (.int .i64) (n0) fun (n2 : Int) =>
.lt (.int .i64) (n1) fun (n3 : Int) =>
.call I.f_ord2 ([data.v, .int .i64 n3, .int .i64 c, .pointer swaps] ++ I.ex) (.tup [.one (.int .i64), .one (.int .i64)]) (u2 fun (n4 : Int) (n5 : Int) =>
.lt (.int .i64) (n4) fun (n6 : Int) =>
.lt (.int .i64) (n5) fun (n7 : Int) =>
.call I.f_ord2 ([data.v, .int .i64 n2, .int .i64 n6, .pointer swaps] ++ I.ex) (.tup [.one (.int .i64), .one (.int .i64)]) (u2 fun (n8 : Int) (n9 : Int) =>
.lt (.int .i64) (n8) fun (n10 : Int) =>
.lt (.int .i64) (n9) fun (n11 : Int) =>
.lt (.int .i64) (n11) fun (n12 : Int) =>
.done 0 [.int .i64 n12])))
def SortI.medj (I : SortI) (data : Sl) (a : Int) (swaps : Option Addr) : Prog :=
.call I.f_med ([data.v, .int .i64 (IntKind.wrap .i64 (a - 1)), .int .i64 a, .int .i64 (IntKind.wrap .i64 (a + 1)), .pointer swaps] ++ I.ex) (sI .i64) (u1 fun (n0 : Int) =>
.lt (.int .i64) (n0) fun (n1 : Int) =>
.done 0 [.int .i64 n1])
def SortI.piv (I : SortI) (data : Sl) (a : Int) (b : Int) : Prog :=
.lt (.int .i64) (IntKind.wrap .i64 (b - a)) fun (n0 : Int) =>
.act (new I.ti) sA (u1 fun a1 =>
.lt (.int .i64) (IntKind.wrap .i64 (a + IntKind.wrap .i64 (IntKind.wrap .i64 (Int.tdiv n0 4) * 1))) fun (n2 : Int) =>
.lt (.int .i64) (IntKind.wrap .i64 (a + IntKind.wrap .i64 (IntKind.wrap .i64 (Int.tdiv n0 4) * 2))) fun (n3 : Int) =>
.lt (.int .i64) (IntKind.wrap .i64 (a + IntKind.wrap .i64 (IntKind.wrap .i64 (Int.tdiv n0 4) * 3))) fun (n4 : Int) =>
.bind 1 [.one (.int .i64)] (
.ite (decide (n0 ≥ 8)) (
.bind 2 [.one (.int .i64), .one (.int .i64), .one (.int .i64)] (
.ite (decide (n0 ≥ 50)) (
.call I.f_medj ([data.v, .int .i64 n2, .pointer (some a1)] ++ I.ex) (sI .i64) (u1 fun (n5 : Int) =>
.lt (.int .i64) (n5) fun (n6 : Int) =>
.call I.f_medj ([data.v, .int .i64 n3, .pointer (some a1)] ++ I.ex) (sI .i64) (u1 fun (n7 : Int) =>
.lt (.int .i64) (n7) fun (n8 : Int) =>
.call I.f_medj ([data.v, .int .i64 n4, .pointer (some a1)] ++ I.ex) (sI .i64) (u1 fun (n9 : Int) =>
.lt (.int .i64) (n9) fun (n10 : Int) =>
.done 2 [.int .i64 n6, .int .i64 n8, .int .i64 n10])))) (
.done 2 [.int .i64 n2, .int .i64 n3, .int .i64 n4])) (u3 fun (n11 : Int) (n12 : Int) (n13 : Int) =>
.call I.f_med ([data.v, .int .i64 n11, .int .i64 n12, .int .i64 n13, .pointer (some a1)] ++ I.ex) (sI .i64) (u1 fun (n14 : Int) =>
.lt (.int .i64) (n14) fun (n15 : Int) =>
.done 1 [.int .i64 n15]))) (
.done 1 [.int .i64 n3])) (u1 fun (n16 : Int) =>
.read True (ld I.ti a1) (sI .i64) (u1 fun (n17 : Int) =>
.lt (.bool) (n17 == 0) fun b18 =>
.ite (b18) (
.lt (.int .i64) (n16) fun (n19 : Int) =>
.done 0 [.int .i64 n19, .int .i64 1]) (
.lt (.bool) (n17 == 12) fun b20 =>
.ite (b20) (
.lt (.int .i64) (n16) fun (n21 : Int) =>
.done 0 [.int .i64 n21, .int .i64 2]) (
.lt (.int .i64) (n16) fun (n22 : Int) =>
.done 0 [.int .i64 n22, .int .i64 0])))))
def SortI.pdq (I : SortI) (data : Sl) (a : Int) (b : Int) (limit : Int) : Prog :=
.loop 1 [.one (.int .i64), .one (.int .i64), .one (.int .i64), .one .bool, .one .bool] (a, (b, (limit, (true, (true, ()))))) (u5 fun (n0 : Int) (n1 : Int) (n2 : Int) b3 b4 =>
.bind 2 [.one (.int .i64), .one (.int .i64), .one (.int .i64), .one .bool, .one .bool] (
.lt (.int .i64) (IntKind.wrap .i64 (n1 - n0)) fun (n5 : Int) =>
.ite (decide (n5 ≤ 12)) (
.call I.f_ins ([data.v, .int .i64 n0, .int .i64 n1] ++ I.ex) (.tup []) (u0 <|
.done 0 [])) (
.ite (n2 == 0) (
.call I.f_heap ([data.v, .int .i64 n0, .int .i64 n1] ++ I.ex) (.tup []) (u0 <|
.done 0 [])) (
.bind 3 [.one (.int .i64)] (
.ite (not b3) (
.call I.f_brk ([data.v, .int .i64 n0, .int .i64 n1] ++ I.ex) (.tup []) (u0 <|
.lt (.int .i64) (IntKind.wrap .i64 (n2 - 1)) fun (n6 : Int) =>
.done 3 [.int .i64 n6])) (
.done 3 [.int .i64 n2])) (u1 fun (n7 : Int) =>
.call I.f_piv ([data.v, .int .i64 n0, .int .i64 n1] ++ I.ex) (.tup [.one (.int .i64), .one (.int .i64)]) (u2 fun (n8 : Int) (n9 : Int) =>
.lt (.int .i64) (n8) fun (n10 : Int) =>
.lt (.int .i64) (n9) fun (n11 : Int) =>
.bind 3 [.one (.int .i64), .one (.int .i64)] (
.ite (n11 == 2) (
.call I.f_rev ([data.v, .int .i64 n0, .int .i64 n1] ++ I.ex) (.tup []) (u0 <|
.lt (.int .i64) (IntKind.wrap .i64 (IntKind.wrap .i64 (n1 - 1) - IntKind.wrap .i64 (n10 - n0))) fun (n12 : Int) =>
.done 3 [.int .i64 n12, .int .i64 1])) (
.done 3 [.int .i64 n10, .int .i64 n11])) (u2 fun (n13 : Int) (n14 : Int) =>
.bind 3 [] (
.ite (b3 && b4 && n14 == 1) (
.call I.f_pins ([data.v, .int .i64 n0, .int .i64 n1] ++ I.ex) sB (u1 fun b15 =>
.ite (b15) (
.done 0 []) (
.done 3 []))) (
.done 3 [])) (u0 <|
.bind 3 [.one .bool] (
.tick <|
.ex [.adr] (c1 fun a16 => decide (n0 > 0) = true → 0 ≤ IntKind.wrap .i64 (n0 - 1) ∧ IntKind.wrap .i64 (n0 - 1) < ((data.len : Nat) : Int) ∧ data.a = some a16) (u1 fun a17 =>
.read ((decide (n0 > 0) = true)) (ld I.T (Addr.add a17 (Int.toNat (IntKind.wrap .i64 (n0 - 1)) * I.sz))) (.one I.s) (fun n18 =>
.ex [.adr] (c1 fun a19 => decide (n0 > 0) = true → 0 ≤ n13 ∧ n13 < ((data.len : Nat) : Int) ∧ data.a = some a19) (u1 fun a20 =>
.read ((decide (n0 > 0) = true)) (ld I.T (Addr.add a20 (Int.toNat n13 * I.sz))) (.one I.s) (fun n21 =>
.ite (decide (n0 > 0)) (
I.less n18 n21 (fun b22 =>
.untick <|
.done 3 [.bool (not b22)])) (
.untick <|
.done 3 [.bool false])))))) (u1 fun b23 =>
.ite (b23) (
.call I.f_peq ([data.v, .int .i64 n0, .int .i64 n1, .int .i64 n13] ++ I.ex) (sI .i64) (u1 fun (n24 : Int) =>
.lt (.int .i64) (n24) fun (n25 : Int) =>
.lt (.int .i64) (n25) fun (n26 : Int) =>
.done 2 [.int .i64 n26, .int .i64 n1, .int .i64 n7, .bool b3, .bool b4])) (
.call I.f_part ([data.v, .int .i64 n0, .int .i64 n1, .int .i64 n13] ++ I.ex) (.tup [.one (.int .i64), .one .bool]) (u2 fun (n27 : Int) b28 =>
.lt (.int .i64) (n27) fun (n29 : Int) =>
.lt (.bool) (b28) fun b30 =>
.lt (.bool) (b30) fun b31 =>
.lt (.int .i64) (IntKind.wrap .i64 (n29 - n0)) fun (n32 : Int) =>
.lt (.int .i64) (IntKind.wrap .i64 (n1 - n29)) fun (n33 : Int) =>
.lt (.int .i64) (IntKind.wrap .i64 (Int.tdiv n5 8)) fun (n34 : Int) =>
.bind 3 [.one (.int .i64), .one (.int .i64), .one .bool] (
.ite (decide (n32 < n33)) (
.lt (.bool) (decide (n32 ≥ n34)) fun b35 =>
.call I.f_pdq ([data.v, .int .i64 n0, .int .i64 n29, .int .i64 n7] ++ I.ex) (.tup []) (u0 <|
.lt (.int .i64) (IntKind.wrap .i64 (n29 + 1)) fun (n36 : Int) =>
.done 3 [.int .i64 n36, .int .i64 n1, .bool b35])) (
.lt (.bool) (decide (n33 ≥ n34)) fun b37 =>
.call I.f_pdq ([data.v, .int .i64 (IntKind.wrap .i64 (n29 + 1)), .int .i64 n1, .int .i64 n7] ++ I.ex) (.tup []) (u0 <|
.lt (.int .i64) (n29) fun (n38 : Int) =>
.done 3 [.int .i64 n0, .int .i64 n38, .bool b37]))) (u3 fun (n39 : Int) (n40 : Int) b41 =>
.done 2 [.int .i64 n39, .int .i64 n40, .int .i64 n7, .bool b41, .bool b31]))))))))))) (u5 fun (n42 : Int) (n43 : Int) (n44 : Int) b45 b46 =>
.done 1 [.int .i64 n42, .int .i64 n43, .int .i64 n44, .bool b45, .bool b46]))
end Go.Dec
namespace Go.Dec
set_option linter.unusedVariables false
set_option linter.unusedSimpArgs false
abbrev SortI.E (I : SortI) : Type := HL I.s.prims
abbrev SortI.enc (I : SortI) (x : I.E) : List Value := HL.vals I.s.prims x
abbrev SortI.arr (I : SortI) (d : Sl) (xs : List I.E) : HP := slc I.T I.sz d (xs.flatMap I.enc)
/-- What is known of an element's type and of its comparison. -/
structure SortI.Ok (P : Program) (I : SortI) (lt : I.E → I.E → Bool) : Prop where
  pos : 0 < I.sz
  enc : ∀ x, (I.enc x).length = I.sz
  ld : ∀ w A (x : I.E), At w A (I.enc x) → (ld I.T A).run P w = .ok ((Sh.one I.s).mk x) w
  size : sizeOf? P I.T = some I.sz
  cells : ∀ x : I.E, ((Sh.one I.s).mk x).cells.toList = I.enc x
  one : ∀ (x : I.E), ∀ u ∈ I.enc x, u.oneCell' = true
  less : ∀ {x y : I.E} {k : Bool → Prog} {w : World} {l : List HP} {Q : Post}, Sat w l → (∀ w', Sat w' l → (k (lt x y)).wp P tt w' Q) → (I.less x y k).wp P tt w Q
def swapL {α : Type} (xs : List α) (i j : Nat) : List α := match xs[i]?, xs[j]? with
  | some x, some y => (xs.set i y).set j x
  | _, _ => xs
def ltAt {α : Type} (lt : α → α → Bool) (xs : List α) (i j : Nat) : Bool := match xs[i]?, xs[j]? with
  | some x, some y => lt x y
  | _, _ => false
section
variable {P : Program} {I : SortI} {lt : I.E → I.E → Bool} {w : World} {l : List HP} {Q : Post} {d : Sl} {xs : List I.E}
theorem SortI.Ok.len (ok : I.Ok P lt) (hs : Sat w (I.arr d xs :: l)) : d.len = xs.length := hs.rd.len ok.enc ok.pos
theorem wp_plain (ok : I.Ok P lt) {i j : Int} {k : Bool → Prog} (ni nj : Nat) (hi : i = ni) (hj : j = nj) (hil : ni < xs.length) (hjl : nj < xs.length) (hs : Sat w (I.arr d xs :: l))
    (h : ∀ w', Sat w' (I.arr d xs :: l) → (k (ltAt lt xs ni nj)).wp P tt w' Q) :
    (Prog.tick <| .ex [.adr] (c1 fun a => 0 ≤ i ∧ i < ((d.len : Nat) : Int) ∧ d.a = some a) (u1 fun a => .read True (ld I.T (Addr.add a (Int.toNat i * I.sz))) (.one I.s) (fun x =>
      .ex [.adr] (c1 fun a => 0 ≤ j ∧ j < ((d.len : Nat) : Int) ∧ d.a = some a) (u1 fun a => .read True (ld I.T (Addr.add a (Int.toNat j * I.sz))) (.one I.s) (fun y =>
      I.less x y (fun b => .untick (k b))))))).wp P tt w Q := by
  subst hi hj
  have hl := ok.len hs
  refine wp_tick fun w2 hw => ?_
  have hs := hs.heap hw
  obtain ⟨a, ha, ea⟩ := hs.rd.el ok.enc (by omega)
  refine wp_ex (a, ()) ⟨by omega, by omega, ha⟩ ?_
  refine wp_read xs[ni] (fun _ => ok.ld _ _ _ (ea ni hil)) ?_
  refine wp_ex (a, ()) ⟨by omega, by omega, ha⟩ ?_
  refine wp_read xs[nj] (fun _ => ok.ld _ _ _ (ea nj hjl)) ?_
  refine ok.less hs fun w' hs => ?_
  have := h w' hs
  simp only [ltAt, List.getElem?_eq_getElem hil, List.getElem?_eq_getElem hjl] at this
  exact this
/-- A comparison under a guard. -/
theorem wp_gcmp (ok : I.Ok P lt) {e : Nat} {g : Bool} {i j : Int} {f : Bool → Bool} {k : Bool × Unit → Prog} (ni nj : Nat) (hi : g = true → i = ni ∧ ni < xs.length) (hj : g = true → j = nj ∧ nj < xs.length) (x0 : I.E) (hs : Sat w (I.arr d xs :: l))
    (h : ∀ w', Sat w' (I.arr d xs :: l) → (k (g && f (ltAt lt xs ni nj), ())).wp P tt w' Q) :
    (Prog.bind e [.one .bool] (.tick <| .ex [.adr] (c1 fun a => g = true → 0 ≤ i ∧ i < ((d.len : Nat) : Int) ∧ d.a = some a) (u1 fun a => .read (g = true) (ld I.T (Addr.add a (Int.toNat i * I.sz))) (.one I.s) (fun x =>
      .ex [.adr] (c1 fun a => g = true → 0 ≤ j ∧ j < ((d.len : Nat) : Int) ∧ d.a = some a) (u1 fun a => .read (g = true) (ld I.T (Addr.add a (Int.toNat j * I.sz))) (.one I.s) (fun y =>
      .ite g (I.less x y (fun b => .untick (.done e [.bool (f b)]))) (.untick (.done e [.bool false]))))))) k).wp P tt w Q := by
  refine wp_mid (fun v w' => v = (g && f (ltAt lt xs ni nj), ()) ∧ Sat w' (I.arr d xs :: l)) ?_ (by rintro _ w' ⟨rfl, hs⟩; exact h w' hs)
  refine wp_tick fun w2 hw => ?_
  have hs := hs.heap hw
  have hl := ok.len hs
  cases hg : g with
  | false =>
    refine wp_ex (⟨0, 0, none⟩, ()) (fun h => by cases h) ?_
    refine wp_read x0 (fun h => by cases h) ?_
    refine wp_ex (⟨0, 0, none⟩, ()) (fun h => by cases h) ?_
    refine wp_read x0 (fun h => by cases h) ?_
    exact wp_ite_f rfl (wp_untick (wp_leave ⟨(false, ()), rfl, rfl, hs⟩))
  | true =>
    obtain ⟨rfl, hil⟩ := hi hg
    obtain ⟨rfl, hjl⟩ := hj hg
    obtain ⟨a, ha, ea⟩ := hs.rd.el ok.enc (by omega)
    refine wp_ex (a, ()) (fun _ => ⟨by omega, by omega, ha⟩) ?_
    refine wp_read xs[ni] (fun _ => ok.ld _ _ _ (ea ni hil)) ?_
    refine wp_ex (a, ()) (fun _ => ⟨by omega, by omega, ha⟩) ?_
    refine wp_read xs[nj] (fun _ => ok.ld _ _ _ (ea nj hjl)) ?_
    refine wp_ite_t rfl ?_
    refine ok.less hs fun w' hs => ?_
    refine wp_untick (wp_leave ⟨(f (lt xs[ni] xs[nj]), ()), rfl, ?_, hs⟩)
    simp only [ltAt, List.getElem?_eq_getElem hil, List.getElem?_eq_getElem hjl, Bool.true_and]
/-- 'd[i], d[j] = d[j], d[i]' -/
theorem wp_swap (ok : I.Ok P lt) {e : Nat} {i j : Int} {k : Unit → Prog} (ni nj : Nat) (hi : i = ni) (hj : j = nj) (hil : ni < xs.length) (hjl : nj < xs.length) (hs : Sat w (I.arr d xs :: l))
    (h : ∀ w', Sat w' (I.arr d (swapL xs ni nj) :: l) → (k ()).wp P tt w' Q) :
    (Prog.bind e [] (.tick <| .ex [.adr] (c1 fun a => 0 ≤ j ∧ j < ((d.len : Nat) : Int) ∧ d.a = some a) (u1 fun a => .read True (ld I.T (Addr.add a (Int.toNat j * I.sz))) (.one I.s) (fun x =>
      .ex [.adr] (c1 fun a => 0 ≤ i ∧ i < ((d.len : Nat) : Int) ∧ d.a = some a) (u1 fun a => .read True (ld I.T (Addr.add a (Int.toNat i * I.sz))) (.one I.s) (fun y =>
      .ex [.adr] (c1 fun a => 0 ≤ i ∧ i < ((d.len : Nat) : Int) ∧ d.a = some a) (u1 fun a => .actU (st I.T (Addr.add a (Int.toNat i * I.sz)) ((Sh.one I.s).mk x)) <|
      .ex [.adr] (c1 fun a => 0 ≤ j ∧ j < ((d.len : Nat) : Int) ∧ d.a = some a) (u1 fun a => .actU (st I.T (Addr.add a (Int.toNat j * I.sz)) ((Sh.one I.s).mk y)) <|
      .untick (.done e [])))))))) k).wp P tt w Q := by
  subst hi hj
  refine wp_mid (fun v w' => Sat w' (I.arr d (swapL xs ni nj) :: l)) ?_ (by rintro _ w' hs; exact h w' hs)
  refine wp_tick fun w2 hw => ?_
  have hs := hs.heap hw
  have hl := ok.len hs
  obtain ⟨a, ha, ea⟩ := hs.rd.el ok.enc (by omega)
  refine wp_ex (a, ()) ⟨by omega, by omega, ha⟩ ?_
  refine wp_read xs[nj] (fun _ => ok.ld _ _ _ (ea nj hjl)) ?_
  refine wp_ex (a, ()) ⟨by omega, by omega, ha⟩ ?_
  refine wp_read xs[ni] (fun _ => ok.ld _ _ _ (ea ni hil)) ?_
  refine wp_ex (a, ()) ⟨by omega, by omega, ha⟩ ?_
  refine wp_stE (enc := I.enc) (i := ni) (y := xs[nj]) ok.enc hs ha hil (fun b o h => by subst h; exact add_mk ..) ok.size (ok.cells _) (ok.one _) fun w' hs => ⟨trivial, ?_⟩
  refine wp_ex (a, ()) ⟨by omega, by omega, ha⟩ ?_
  refine wp_stE (enc := I.enc) (i := nj) (y := xs[ni]) ok.enc hs ha (by simp; omega) (fun b o h => by subst h; exact add_mk ..) ok.size (ok.cells _) (ok.one _) fun w' hs => ⟨trivial, ?_⟩
  refine wp_untick (wp_leave ⟨(), rfl, ?_⟩)
  simpa only [swapL, List.getElem?_eq_getElem hil, List.getElem?_eq_getElem hjl] using hs
end
end Go.Dec
namespace Go.Dec
set_option linter.unusedVariables false
set_option linter.unusedSimpArgs false
/-- Swaps within [a, b). -/
inductive Sw {α : Type} (a b : Nat) : List α → List α → Prop
  | refl (xs : List α) : Sw a b xs xs
  | step {xs ys : List α} {i j : Nat} (h : Sw a b xs ys) (hi : a ≤ i) (hi' : i < b) (hj : a ≤ j) (hj' : j < b) : Sw a b xs (swapL ys i j)
def tr (i j p : Nat) : Nat := if p = i then j else if p = j then i else p
structure LtOk {α : Type} (lt : α → α → Bool) : Prop where
  asymm : ∀ {x y}, lt x y = true → lt y x = false
  trans : ∀ {x y z}, lt x y = false → lt y z = false → lt x z = false
section
variable {α : Type} {lt : α → α → Bool} {xs ys zs : List α} {a b : Nat}
theorem swapL_length (xs : List α) (i j : Nat) : (swapL xs i j).length = xs.length := by
  unfold swapL; split <;> simp
theorem swapL_get {i j : Nat} (hi : i < xs.length) (hj : j < xs.length) (p : Nat) : (swapL xs i j)[p]? = xs[tr i j p]? := by
  simp only [swapL, List.getElem?_eq_getElem hi, List.getElem?_eq_getElem hj, tr]
  rw [List.getElem?_set]
  by_cases h1 : p = i
  · subst h1
    rw [if_pos rfl]
    by_cases h2 : j = p
    · subst h2; rw [if_pos rfl, if_pos (by simpa using hi), List.getElem?_eq_getElem hi]
    · rw [if_neg h2, List.getElem?_set, if_pos rfl, if_pos hi, List.getElem?_eq_getElem hj]
  · rw [if_neg h1]
    by_cases h2 : j = p
    · subst h2; rw [if_pos rfl, if_pos rfl, if_pos (by simpa using hj), List.getElem?_eq_getElem hi]
    · rw [if_neg h2, if_neg (Ne.symm h2), List.getElem?_set, if_neg (Ne.symm h1)]
theorem ltAt_swap {i j : Nat} (hi : i < xs.length) (hj : j < xs.length) (p q : Nat) : ltAt lt (swapL xs i j) p q = ltAt lt xs (tr i j p) (tr i j q) := by
  simp only [ltAt, swapL_get hi hj]
theorem LtOk.asymmAt (h : LtOk lt) {p q : Nat} (hl : ltAt lt xs p q = true) : ltAt lt xs q p = false := by
  unfold ltAt at *
  split at hl
  · rename_i x y hx hy; rw [hx, hy]; exact h.asymm hl
  · cases hl
theorem LtOk.transAt (h : LtOk lt) {p q r : Nat} (hq : q < xs.length) (h1 : ltAt lt xs p q = false) (h2 : ltAt lt xs q r = false) : ltAt lt xs p r = false := by
  unfold ltAt at *
  rw [List.getElem?_eq_getElem hq] at h1 h2
  cases hp : xs[p]? with
  | none => rfl
  | some x =>
    cases hr : xs[r]? with
    | none => rfl
    | some z => rw [hp] at h1; rw [hr] at h2; exact h.trans h1 h2
theorem LtOk.irrefl (h : LtOk lt) (p : Nat) : ltAt lt xs p p = false := by
  cases hc : ltAt lt xs p p with
  | false => rfl
  | true => have := h.asymmAt hc; rw [hc] at this; cases this
theorem Sw.length (h : Sw a b xs ys) : ys.length = xs.length := by
  induction h with
  | refl => rfl
  | step _ _ _ _ _ ih => rw [swapL_length, ih]
theorem Sw.trans (h1 : Sw a b xs ys) (h2 : Sw a b ys zs) : Sw a b xs zs := by
  induction h2 with
  | refl => exact h1
  | step _ hi hi' hj hj' ih => exact .step ih hi hi' hj hj'
theorem Sw.mono {a' b' : Nat} (h : Sw a b xs ys) (ha : a' ≤ a) (hb : b ≤ b') : Sw a' b' xs ys := by
  induction h with
  | refl => exact .refl _
  | step _ hi hi' hj hj' ih => exact .step ih (by omega) (by omega) (by omega) (by omega)
theorem Sw.out (h : Sw a b xs ys) {k : Nat} (hk : k < a ∨ b ≤ k) : ys[k]? = xs[k]? := by
  induction h with
  | refl => rfl
  | @step ys' i j h1 hi hi' hj hj' ih =>
    rw [← ih]
    unfold swapL
    split
    · rw [List.getElem?_set_ne (by omega), List.getElem?_set_ne (by omega)]
    · rfl
theorem swapL_perm (xs : List α) (i j : Nat) : (swapL xs i j).Perm xs := by
  unfold swapL
  split
  · rename_i x y hx hy
    obtain ⟨hi, rfl⟩ := List.getElem?_eq_some_iff.1 hx
    obtain ⟨hj, rfl⟩ := List.getElem?_eq_some_iff.1 hy
    exact List.set_set_perm hi hj
  · exact .refl _
theorem Sw.perm (h : Sw a b xs ys) : ys.Perm xs := by
  induction h with
  | refl => exact .refl _
  | step _ _ _ _ _ ih => exact (swapL_perm _ _ _).trans ih
/-- What holds of all elements of the range holds of all behind swaps. -/
theorem Sw.all (h : Sw a b xs ys) (hb : b ≤ xs.length) {p : α → Prop} (hp : ∀ k x, a ≤ k → k < b → xs[k]? = some x → p x) : ∀ k x, a ≤ k → k < b → ys[k]? = some x → p x := by
  induction h with
  | refl => exact hp
  | @step ys' i j h1 hi hi' hj hj' ih =>
    intro k x h2 h3 hx
    have hl := h1.length
    rw [swapL_get (by omega) (by omega)] at hx
    unfold tr at hx
    split at hx
    · exact ih j x hj hj' hx
    · split at hx
      · exact ih i x hi hi' hx
      · exact ih k x h2 h3 hx
def SortedR (lt : α → α → Bool) (xs : List α) (a b : Nat) : Prop := ∀ p q, a ≤ p → p < q → q < b → ltAt lt xs q p = false
end
section
variable {P : Program} {I : SortI} {lt : I.E → I.E → Bool} {w : World} {l : List HP} {Q : Post} {d : Sl} {xs : List I.E}
theorem ins_c (ok : I.Ok P lt) (lo : LtOk lt) (x0 : I.E) (a b : Nat) (hab : a ≤ b) (hb : b ≤ xs.length) (h63 : xs.length < 4611686018427387904) (hs : Sat w (I.arr d xs :: l)) :
    (I.ins d a b).wp P tt w fun e vs w' => e = 0 ∧ vs = [] ∧ ∃ ys, Sw a b xs ys ∧ SortedR lt ys a b ∧ Sat w' (I.arr d ys :: l) := by
  unfold SortI.ins
  refine wp_lw (y := ((a + 1 : Nat) : Int)) (by rw [w64 (by omega) (by omega)]; rfl) ?_
  refine wp_mid (fun v w' => ∃ ys, Sw a b xs ys ∧ SortedR lt ys a b ∧ Sat w' (I.arr d ys :: l)) ?_ (fun _ w' h => ⟨rfl, rfl, h⟩)
  refine wp_loop (fun n v w => ∃ (i : Nat) (ys : List I.E), v = ((i : Int), ()) ∧ a + 1 ≤ i ∧ b + 1 - i = n ∧ (i ≤ b ∨ b < a + 1) ∧ Sw a b xs ys ∧ SortedR lt ys a i ∧ Sat w (I.arr d ys :: l)) (b + 1 - (a + 1)) ?_ ?_
  · exact ⟨a + 1, xs, rfl, by omega, rfl, by omega, .refl _, fun p q h1 h2 h3 => by omega, hs⟩
  rintro n _ w ⟨i, ys, rfl, hi, hn, hib, hsw, hso, hs⟩
  have hyl := hsw.length
  refine wp_ite (fun hc => ?_) fun hc => ?_
  · have hc : (i : Int) < b := of_decide_eq_true hc
    refine wp_mid (fun v w' => ∃ ys, Sw a b xs ys ∧ SortedR lt ys a (i + 1) ∧ Sat w' (I.arr d ys :: l)) ?_ ?_
    · refine wp_lt ?_
      refine wp_mid (fun v w' => ∃ ys, Sw a b xs ys ∧ SortedR lt ys a (i + 1) ∧ Sat w' (I.arr d ys :: l)) ?_ (fun _ w' h => wp_leave ⟨(), rfl, h⟩)
      refine wp_loop (fun n v w => ∃ (j : Nat) (ys : List I.E), v = ((j : Int), ()) ∧ a ≤ j ∧ j ≤ i ∧ j = n ∧ Sw a b xs ys ∧ (∀ p q, a ≤ p → p < q → q ≤ i → q ≠ j → ltAt lt ys q p = false) ∧ Sat w (I.arr d ys :: l)) i ?_ ?_
      · exact ⟨i, ys, rfl, by omega, by omega, rfl, hsw, fun p q h1 h2 h3 h4 => hso p q h1 h2 (by omega), hs⟩
      rintro n _ w ⟨j, ys, rfl, hj, hji, rfl, hsw, hso, hs⟩
      have hyl := hsw.length
      refine wp_gcmp ok (f := id) j (j - 1) (fun _ => ⟨rfl, by omega⟩) (fun h => ?_) x0 hs fun w' hs => ?_
      · have h : (j : Int) > a := of_decide_eq_true h
        exact ⟨by rw [w64 (by omega) (by omega)]; omega, by omega⟩
      refine wp_ite (fun hc2 => ?_) fun hc2 => ?_
      · have hc2 : (decide ((j : Int) > a) && ltAt lt ys j (j - 1)) = true := hc2
        simp only [Bool.and_eq_true, decide_eq_true_eq] at hc2
        obtain ⟨h1, h2⟩ := hc2
        refine wp_swap ok j (j - 1) rfl (by rw [w64 (by omega) (by omega)]; omega) (by omega) (by omega) hs fun w' hs => ?_
        refine wp_lw (y := ((j - 1 : Nat) : Int)) (by rw [w64 (by omega) (by omega)]; omega) ?_
        refine wp_leave ⟨(((j - 1 : Nat) : Int), ()), j - 1, by omega, rfl, j - 1, _, rfl, by omega, by omega, rfl, .step hsw (by omega) (by omega) (by omega) (by omega), fun p q p1 p2 p3 p4 => ?_, hs⟩
        rw [ltAt_swap (by omega) (by omega)]
        unfold tr
        by_cases q1 : q = j
        · subst q1
          rw [if_pos rfl]
          by_cases q2 : p = q - 1
          · subst q2
            rw [if_neg (by omega), if_pos rfl]
            exact lo.asymmAt h2
          · rw [if_neg (by omega), if_neg q2]
            exact hso p (q - 1) p1 (by omega) (by omega) (by omega)
        · rw [if_neg q1, if_neg p4]
          by_cases q2 : p = j
          · subst q2
            rw [if_pos rfl]
            exact hso (p - 1) q (by omega) (by omega) p3 q1
          · rw [if_neg q2]
            by_cases q3 : p = j - 1
            · subst q3
              rw [if_pos rfl]
              exact hso j q (by omega) (by omega) p3 q1
            · rw [if_neg q3]; exact hso p q p1 p2 p3 q1
      · have hc2 : (decide ((j : Int) > a) && ltAt lt ys j (j - 1)) = false := hc2
        refine wp_pass ?_
        refine wp_leave ⟨(), rfl, ys, hsw, fun p q p1 p2 p3 => ?_, hs⟩
        by_cases hq : q = j
        · subst hq
          rw [decide_eq_true (show (q : Int) > a by omega), Bool.true_and] at hc2
          by_cases hp : p = q - 1
          · subst hp; exact hc2
          · exact lo.transAt (q := q - 1) (by omega) hc2 (hso p (q - 1) p1 (by omega) (by omega) (by omega))
        · exact hso p q p1 p2 (by omega) hq
    · rintro _ w' ⟨zs, hsw, hso, hs⟩
      refine wp_lw (y := ((i + 1 : Nat) : Int)) (by rw [w64 (by omega) (by omega)]; rfl) ?_
      exact wp_leave ⟨(((i + 1 : Nat) : Int), ()), b + 1 - (i + 1), by omega, rfl, i + 1, zs, rfl, by omega, rfl, by omega, hsw, hso, hs⟩
  · have hc : ¬ (i : Int) < b := of_decide_eq_false hc
    refine wp_pass ?_
    refine wp_leave ⟨(), rfl, ys, hsw, fun p q p1 p2 p3 => hso p q p1 p2 (by omega), hs⟩
end
end Go.Dec
namespace Go.Dec
set_option linter.unusedVariables false
set_option linter.unusedSimpArgs false
/-- The functions of one type's sort are these. -/
structure SortI.Impl (P : Program) (I : SortI) : Prop where
  sift : ∀ {d : Sl} {lo hi first : Int} {w : World} {R : List Value → World → Prop}, ((I.sift d lo hi first).wp P tt w fun e vs w' => e = 0 ∧ R vs w') → Ret P I.f_sift ([d.v, .int .i64 lo, .int .i64 hi, .int .i64 first] ++ I.ex).toArray w R
  ins : ∀ {d : Sl} {a b : Int} {w : World} {R : List Value → World → Prop}, ((I.ins d a b).wp P tt w fun e vs w' => e = 0 ∧ R vs w') → Ret P I.f_ins ([d.v, .int .i64 a, .int .i64 b] ++ I.ex).toArray w R
  heap : ∀ {d : Sl} {a b : Int} {w : World} {R : List Value → World → Prop}, ((I.heap d a b).wp P tt w fun e vs w' => e = 0 ∧ R vs w') → Ret P I.f_heap ([d.v, .int .i64 a, .int .i64 b] ++ I.ex).toArray w R
  brk : ∀ {d : Sl} {a b : Int} {w : World} {R : List Value → World → Prop}, ((I.brk d a b).wp P tt w fun e vs w' => e = 0 ∧ R vs w') → Ret P I.f_brk ([d.v, .int .i64 a, .int .i64 b] ++ I.ex).toArray w R
  rev : ∀ {d : Sl} {a b : Int} {w : World} {R : List Value → World → Prop}, ((I.rev d a b).wp P tt w fun e vs w' => e = 0 ∧ R vs w') → Ret P I.f_rev ([d.v, .int .i64 a, .int .i64 b] ++ I.ex).toArray w R
  pins : ∀ {d : Sl} {a b : Int} {w : World} {R : List Value → World → Prop}, ((I.pins d a b).wp P tt w fun e vs w' => e = 0 ∧ R vs w') → Ret P I.f_pins ([d.v, .int .i64 a, .int .i64 b] ++ I.ex).toArray w R
  peq : ∀ {d : Sl} {a b p : Int} {w : World} {R : List Value → World → Prop}, ((I.peq d a b p).wp P tt w fun e vs w' => e = 0 ∧ R vs w') → Ret P I.f_peq ([d.v, .int .i64 a, .int .i64 b, .int .i64 p] ++ I.ex).toArray w R
  part : ∀ {d : Sl} {a b p : Int} {w : World} {R : List Value → World → Prop}, ((I.part d a b p).wp P tt w fun e vs w' => e = 0 ∧ R vs w') → Ret P I.f_part ([d.v, .int .i64 a, .int .i64 b, .int .i64 p] ++ I.ex).toArray w R
  pdq : ∀ {d : Sl} {a b p : Int} {w : World} {R : List Value → World → Prop}, ((I.pdq d a b p).wp P tt w fun e vs w' => e = 0 ∧ R vs w') → Ret P I.f_pdq ([d.v, .int .i64 a, .int .i64 b, .int .i64 p] ++ I.ex).toArray w R
  piv : ∀ {d : Sl} {a b : Int} {w : World} {R : List Value → World → Prop}, ((I.piv d a b).wp P tt w fun e vs w' => e = 0 ∧ R vs w') → Ret P I.f_piv ([d.v, .int .i64 a, .int .i64 b] ++ I.ex).toArray w R
  ord2 : ∀ {d : Sl} {a b : Int} {s : Option Addr} {w : World} {R : List Value → World → Prop}, ((I.ord2 d a b s).wp P tt w fun e vs w' => e = 0 ∧ R vs w') → Ret P I.f_ord2 ([d.v, .int .i64 a, .int .i64 b, .pointer s] ++ I.ex).toArray w R
  med : ∀ {d : Sl} {a b c : Int} {s : Option Addr} {w : World} {R : List Value → World → Prop}, ((I.med d a b c s).wp P tt w fun e vs w' => e = 0 ∧ R vs w') → Ret P I.f_med ([d.v, .int .i64 a, .int .i64 b, .int .i64 c, .pointer s] ++ I.ex).toArray w R
  medj : ∀ {d : Sl} {a : Int} {s : Option Addr} {w : World} {R : List Value → World → Prop}, ((I.medj d a s).wp P tt w fun e vs w' => e = 0 ∧ R vs w') → Ret P I.f_medj ([d.v, .int .i64 a, .pointer s] ++ I.ex).toArray w R
section
variable {P : Program} {I : SortI} {lt : I.E → I.E → Bool} {w : World} {l : List HP} {Q : Post} {d : Sl} {xs : List I.E}
theorem rev_c (ok : I.Ok P lt) (im : I.Impl P) (x0 : I.E) (a b : Nat) (hab : a < b) (hb : b ≤ xs.length) (h63 : xs.length < 4611686018427387904) (hs : Sat w (I.arr d xs :: l)) :
    Ret P I.f_rev ([d.v, .int .i64 a, .int .i64 b] ++ I.ex).toArray w fun vs w' => vs = [] ∧ ∃ ys, Sw a b xs ys ∧ Sat w' (I.arr d ys :: l) := im.rev <| by
  unfold SortI.rev
  refine wp_lt ?_
  refine wp_lw (y := ((b - 1 : Nat) : Int)) (by rw [w64 (by omega) (by omega)]; omega) ?_
  refine wp_mid (fun v w' => ∃ ys, Sw a b xs ys ∧ Sat w' (I.arr d ys :: l)) ?_ (fun _ w' h => ⟨rfl, rfl, h⟩)
  refine wp_loop (fun n v w => ∃ (i j : Nat) (ys : List I.E), v = ((i : Int), (j : Int), ()) ∧ a ≤ i ∧ j < b ∧ i + j = a + b - 1 ∧ j = n ∧ Sw a b xs ys ∧ Sat w (I.arr d ys :: l)) (b - 1) ?_ ?_
  · exact ⟨a, b - 1, xs, rfl, by omega, by omega, by omega, rfl, .refl _, hs⟩
  rintro n _ w ⟨i, j, ys, rfl, hi, hj, hij, rfl, hsw, hs⟩
  have hyl := hsw.length
  refine wp_ite (fun hc => ?_) fun hc => ?_
  · have hc : (i : Int) < j := of_decide_eq_true hc
    refine wp_swap ok i j rfl rfl (by omega) (by omega) hs fun w' hs => ?_
    refine wp_lw (y := ((i + 1 : Nat) : Int)) (by rw [w64 (by omega) (by omega)]; omega) ?_
    refine wp_lw (y := ((j - 1 : Nat) : Int)) (by dsimp only; rw [w64 (by omega) (by omega)]; omega) ?_
    exact wp_leave ⟨(((i + 1 : Nat) : Int), ((j - 1 : Nat) : Int), ()), j - 1, by omega, rfl, i + 1, j - 1, _, rfl, by omega, by omega, by omega, rfl, .step hsw (by omega) (by omega) (by omega) (by omega), hs⟩
  · refine wp_pass ?_
    exact wp_leave ⟨(), rfl, ys, hsw, hs⟩
def kid (p c : Nat) : Prop := c = 2 * p + 1 ∨ c = 2 * p + 2
/-- A heap from lo on, but for node r. -/
def HeapBut (lt : I.E → I.E → Bool) (ys : List I.E) (f lo hi r : Nat) : Prop :=
  (∀ p c, lo ≤ p → kid p c → c < hi → p ≠ r → ltAt lt ys (f + p) (f + c) = false) ∧
  (∀ q c, lo ≤ q → kid q r → kid r c → c < hi → ltAt lt ys (f + q) (f + c) = false)
def Heap (lt : I.E → I.E → Bool) (ys : List I.E) (f lo hi : Nat) : Prop := ∀ p c, lo ≤ p → kid p c → c < hi → ltAt lt ys (f + p) (f + c) = false
theorem heap_step (lo' : LtOk lt) {ys : List I.E} {f lo hi r c : Nat} (hf : f + hi ≤ ys.length) (h : HeapBut lt ys f lo hi r) (hlr : lo ≤ r) (hc : kid r c) (hch : c < hi)
    (hbig : ∀ c', kid r c' → c' < hi → ltAt lt ys (f + c) (f + c') = false) (hlt : ltAt lt ys (f + r) (f + c) = true) : HeapBut lt (swapL ys (f + r) (f + c)) f lo hi c := by
  have hrc : r < c := by rcases hc with h | h <;> omega
  refine ⟨fun p k hp hk hkh hpc => ?_, fun q k hq hqc hck hkh => ?_⟩
  · rw [ltAt_swap (by omega) (by omega)]
    unfold tr
    by_cases h1 : p = r
    · subst h1
      rw [if_pos rfl, if_neg (by rcases hk with h | h <;> omega)]
      by_cases h2 : k = c
      · subst h2; rw [if_pos rfl]; exact lo'.asymmAt hlt
      · rw [if_neg (by omega)]; exact hbig k hk hkh
    · rw [if_neg (show ¬ f + p = f + r by omega), if_neg (show ¬ f + p = f + c by omega)]
      by_cases h2 : k = r
      · subst h2
        rw [if_pos rfl]
        exact h.2 p c hp hk hc hch
      · rw [if_neg (show ¬ f + k = f + r by omega)]
        by_cases h3 : k = c
        · exfalso; subst h3; rcases hk with h | h <;> rcases hc with h' | h' <;> omega
        · rw [if_neg (show ¬ f + k = f + c by omega)]; exact h.1 p k hp hk hkh h1
  · have hqr : q = r := by rcases hqc with h | h <;> rcases hc with h' | h' <;> omega
    subst hqr
    have hck' : c < k := by rcases hck with h | h <;> omega
    rw [ltAt_swap (by omega) (by omega)]
    unfold tr
    rw [if_pos rfl, if_neg (show ¬ f + k = f + q by omega), if_neg (show ¬ f + k = f + c by omega)]
    exact h.1 c k (by omega) hck hkh (by omega)
theorem sift_c (ok : I.Ok P lt) (im : I.Impl P) (lo' : LtOk lt) (x0 : I.E) (lo hi f : Nat) (hlo : lo ≤ hi) (hf : f + hi ≤ xs.length) (h63 : xs.length < 2305843009213693952) (hh : HeapBut lt xs f lo hi lo) (hs : Sat w (I.arr d xs :: l)) :
    Ret P I.f_sift ([d.v, .int .i64 lo, .int .i64 hi, .int .i64 f] ++ I.ex).toArray w fun vs w' => vs = [] ∧ ∃ ys, Sw (f + lo) (f + hi) xs ys ∧ Heap lt ys f lo hi ∧ Sat w' (I.arr d ys :: l) := im.sift <| by
  unfold SortI.sift
  refine wp_lt ?_
  refine wp_mid (fun v w' => ∃ ys, Sw (f + lo) (f + hi) xs ys ∧ Heap lt ys f lo hi ∧ Sat w' (I.arr d ys :: l)) ?_ (fun _ w' h => ⟨rfl, rfl, h⟩)
  refine wp_loop (fun n v w => ∃ (r : Nat) (ys : List I.E), v = ((r : Int), ()) ∧ lo ≤ r ∧ r ≤ hi ∧ hi - r = n ∧ Sw (f + lo) (f + hi) xs ys ∧ HeapBut lt ys f lo hi r ∧ Sat w (I.arr d ys :: l)) (hi - lo) ?_ ?_
  · exact ⟨lo, xs, rfl, by omega, hlo, rfl, .refl _, hh, hs⟩
  rintro n _ w ⟨r, ys, rfl, hr, hrh, hn, hsw, hh, hs⟩
  have hyl := hsw.length
  refine wp_lw (y := ((2 * r + 1 : Nat) : Int)) (by rw [w64 (x := 2 * (r : Int)) (by omega) (by omega), w64 (by omega) (by omega)]; omega) ?_
  refine wp_ite (fun hc => ?_) fun hc => ?_
  · have hc : ((2 * r + 1 : Nat) : Int) ≥ hi := of_decide_eq_true hc
    refine wp_pass ?_
    refine wp_leave ⟨(), rfl, ys, hsw, fun p c h1 h2 h3 => hh.1 p c h1 h2 h3 ?_, hs⟩
    rintro rfl
    rcases h2 with h | h <;> omega
  have hc : ¬ ((2 * r + 1 : Nat) : Int) ≥ hi := of_decide_eq_false hc
  have e1 : IntKind.wrap .i64 (((2 * r + 1 : Nat) : Int) + 1) = ((2 * r + 2 : Nat) : Int) := by rw [w64 (by omega) (by omega)]; omega
  have e2 : IntKind.wrap .i64 ((f : Int) + ((2 * r + 1 : Nat) : Int)) = ((f + (2 * r + 1) : Nat) : Int) := by rw [w64 (by omega) (by omega)]; omega
  refine wp_gcmp ok (f := id) (f + (2 * r + 1)) (f + (2 * r + 2)) (fun h => ⟨e2, by omega⟩) (fun h => ?_) x0 hs fun w' hs => ?_
  · have h : IntKind.wrap .i64 (((2 * r + 1 : Nat) : Int) + 1) < (hi : Int) := of_decide_eq_true h
    rw [e1] at h
    refine ⟨?_, by omega⟩
    rw [e2, w64 (by omega) (by omega)]; omega
  have key : ∃ c, (if decide (IntKind.wrap .i64 (((2 * r + 1 : Nat) : Int) + 1) < (hi : Int)) && id (ltAt lt ys (f + (2 * r + 1)) (f + (2 * r + 2))) then ((2 * r + 2 : Nat) : Int) else ((2 * r + 1 : Nat) : Int)) = ((c : Nat) : Int) ∧ kid r c ∧ c < hi ∧ ∀ c', kid r c' → c' < hi → ltAt lt ys (f + c) (f + c') = false := by
    rw [e1]
    by_cases h1 : ((2 * r + 2 : Nat) : Int) < hi
    · cases h2 : ltAt lt ys (f + (2 * r + 1)) (f + (2 * r + 2)) with
      | true =>
        refine ⟨2 * r + 2, by rw [decide_eq_true h1]; rfl, .inr rfl, by omega, fun c' hk _ => ?_⟩
        rcases hk with rfl | rfl
        · exact lo'.asymmAt h2
        · exact lo'.irrefl _
      | false =>
        refine ⟨2 * r + 1, by simp, .inl rfl, by omega, fun c' hk _ => ?_⟩
        rcases hk with rfl | rfl
        · exact lo'.irrefl _
        · exact h2
    · refine ⟨2 * r + 1, by rw [decide_eq_false h1]; simp, .inl rfl, by omega, fun c' hk hc' => ?_⟩
      rcases hk with rfl | rfl
      · exact lo'.irrefl _
      · omega
  obtain ⟨c, hce, hck, hch, hbig⟩ := key
  have hrc : r < c := by rcases hck with h | h <;> omega
  have hcb : c ≤ 2 * r + 2 := by rcases hck with h | h <;> omega
  refine wp_mid (fun v w' => v = ((c : Int), ()) ∧ Sat w' (I.arr d ys :: l)) ?_ ?_
  · refine wp_ite (fun h => ?_) fun h => ?_
    · have h : (decide (IntKind.wrap .i64 (((2 * r + 1 : Nat) : Int) + 1) < (hi : Int)) && id (ltAt lt ys (f + (2 * r + 1)) (f + (2 * r + 2)))) = true := h
      rw [h, if_pos rfl] at hce
      exact wp_lw (e1.trans hce) (wp_leave ⟨((c : Int), ()), rfl, rfl, hs⟩)
    · have h : (decide (IntKind.wrap .i64 (((2 * r + 1 : Nat) : Int) + 1) < (hi : Int)) && id (ltAt lt ys (f + (2 * r + 1)) (f + (2 * r + 2)))) = false := h
      rw [h, if_neg (by simp)] at hce
      rw [hce]
      exact wp_leave ⟨((c : Int), ()), rfl, rfl, hs⟩
  rintro _ w ⟨rfl, hs⟩
  have e3 : IntKind.wrap .i64 ((f : Int) + (r : Int)) = ((f + r : Nat) : Int) := by rw [w64 (by omega) (by omega)]; omega
  have e4 : IntKind.wrap .i64 ((f : Int) + (c : Int)) = ((f + c : Nat) : Int) := by rw [w64 (by omega) (by omega)]; omega
  refine wp_plain ok (f + r) (f + c) e3 e4 (by omega) (by omega) hs fun w' hs => ?_
  refine wp_ite (fun h => ?_) fun h => ?_
  · have h : (!ltAt lt ys (f + r) (f + c)) = true := h
    simp only [Bool.not_eq_true'] at h
    refine wp_pass ?_
    refine wp_pass ?_
    refine ⟨rfl, rfl, ys, hsw, fun p k h1 h2 h3 => ?_, hs⟩
    by_cases hp : p = r
    · subst hp; exact lo'.transAt (q := f + c) (by omega) h (hbig k h2 h3)
    · exact hh.1 p k h1 h2 h3 hp
  · have h : (!ltAt lt ys (f + r) (f + c)) = false := h
    simp only [Bool.not_eq_false'] at h
    refine wp_swap ok (f + r) (f + c) e3 e4 (by omega) (by omega) hs fun w' hs => ?_
    refine wp_lt ?_
    exact wp_leave ⟨((c : Int), ()), hi - c, by omega, rfl, c, _, rfl, by omega, by omega, rfl, .step hsw (by omega) (by omega) (by omega) (by omega), heap_step lo' (by omega) hh hr hck hch hbig h, hs⟩
theorem heap_of_but {ys : List I.E} {f lo hi : Nat} (h : Heap lt ys f (lo + 1) hi) : HeapBut lt ys f lo hi lo :=
  ⟨fun p c h1 h2 h3 h4 => h p c (by omega) h2 h3, fun q c h1 h2 h3 h4 => by rcases h2 with h | h <;> omega⟩
/-- The root of a heap is the greatest. -/
theorem heap_root (lo' : LtOk lt) {ys : List I.E} {f hi : Nat} (hf : f + hi ≤ ys.length) (h : Heap lt ys f 0 hi) : ∀ k, k < hi → ltAt lt ys f (f + k) = false := by
  intro k
  induction k using Nat.strongRecOn with
  | _ k ih =>
    intro hk
    by_cases h0 : k = 0
    · subst h0; exact lo'.irrefl _
    · have hp : kid ((k - 1) / 2) k := by unfold kid; omega
      have h1 := ih ((k - 1) / 2) (by omega) (by omega)
      have h2 := h ((k - 1) / 2) k (by omega) hp hk
      exact lo'.transAt (q := f + (k - 1) / 2) (by omega) h1 h2
theorem heap_c (ok : I.Ok P lt) (im : I.Impl P) (lo' : LtOk lt) (x0 : I.E) (a b : Nat) (hab : a ≤ b) (hb : b ≤ xs.length) (h63 : xs.length < 2305843009213693952) (hs : Sat w (I.arr d xs :: l)) :
    Ret P I.f_heap ([d.v, .int .i64 a, .int .i64 b] ++ I.ex).toArray w fun vs w' => vs = [] ∧ ∃ ys, Sw a b xs ys ∧ SortedR lt ys a b ∧ Sat w' (I.arr d ys :: l) := im.heap <| by
  unfold SortI.heap
  refine wp_lt ?_
  obtain ⟨n, rfl⟩ : ∃ n, b = a + n := ⟨b - a, by omega⟩
  refine wp_lw (y := (n : Int)) (by rw [w64 (by omega) (by omega)]; omega) ?_
  refine wp_lw (y := if n = 0 then 0 else (((n - 1) / 2 : Nat) : Int)) ?_ ?_
  · rw [w64 (x := (n : Int) - 1) (by omega) (by omega)]
    split
    · rename_i h; subst h; decide
    · rw [Int.tdiv_eq_ediv_of_nonneg (by omega), w64 (by omega) (by omega)]; omega
  refine wp_mid (fun v w' => ∃ ys, Sw a (a + n) xs ys ∧ Heap lt ys a 0 n ∧ Sat w' (I.arr d ys :: l)) ?_ ?_
  · refine wp_loop (fun m v w => ∃ (i : Nat) (ys : List I.E), v = ((i : Int) - 1, ()) ∧ i = m ∧ i ≤ n + 1 ∧ Sw a (a + n) xs ys ∧ Heap lt ys a i n ∧ Sat w (I.arr d ys :: l)) (if n = 0 then 1 else (n - 1) / 2 + 1) ?_ ?_
    · refine ⟨_, xs, ?_, rfl, ?_, .refl _, fun p c h1 h2 h3 => ?_, hs⟩
      · split <;> simp
      · split <;> omega
      · exfalso
        split at h1 <;> rcases h2 with h | h <;> omega
    rintro m _ w ⟨i, ys, rfl, rfl, hi, hsw, hh, hs⟩
    have hyl := hsw.length
    refine wp_ite (fun hc => ?_) fun hc => ?_
    · have hc : (i : Int) - 1 ≥ 0 := of_decide_eq_true hc
      obtain ⟨j, rfl⟩ : ∃ j, i = j + 1 := ⟨i - 1, by omega⟩
      have e : ((j + 1 : Nat) : Int) - 1 = j := by omega
      rw [e]
      refine wp_callS () (sift_c ok im lo' x0 j n a (by omega) (by omega) (by omega) (heap_of_but hh) hs) rfl fun w' h => ?_
      obtain ⟨zs, hz, hzh, hs⟩ := h
      refine ⟨trivial, ?_⟩
      refine wp_lw (y := (j : Int) - 1) (w64 (by dsimp only; omega) (by dsimp only; omega)) ?_
      exact wp_leave ⟨((j : Int) - 1, ()), j, by omega, rfl, j, zs, rfl, rfl, by omega, hsw.trans (hz.mono (by omega) (by omega)), hzh, hs⟩
    · have hc : ¬ (i : Int) - 1 ≥ 0 := of_decide_eq_false hc
      refine wp_pass ?_
      refine wp_leave ⟨(), rfl, ys, hsw, ?_, hs⟩
      rwa [show i = 0 by omega] at hh
  rintro _ w ⟨ys, hsw, hh, hs⟩
  refine wp_lw (y := (n : Int) - 1) (w64 (by omega) (by omega)) ?_
  refine wp_mid (fun v w' => ∃ ys, Sw a (a + n) xs ys ∧ SortedR lt ys a (a + n) ∧ Sat w' (I.arr d ys :: l)) ?_ (fun _ w' h => ⟨rfl, rfl, h⟩)
  refine wp_loop (fun m v w => ∃ (i : Nat) (ys : List I.E), v = ((i : Int) - 1, ()) ∧ i = m ∧ i ≤ n ∧ Sw a (a + n) xs ys ∧ Heap lt ys a 0 i ∧ SortedR lt ys (a + i) (a + n) ∧ (∀ p q, p < i → i ≤ q → q < n → ltAt lt ys (a + q) (a + p) = false) ∧ Sat w (I.arr d ys :: l)) n ?_ ?_
  · exact ⟨n, ys, rfl, rfl, by omega, hsw, hh, fun p q h1 h2 h3 => by omega, fun p q h1 h2 h3 => by omega, hs⟩
  rintro m _ w ⟨i, ys, rfl, rfl, hi, hsw, hh, hso, hpq, hs⟩
  have hyl := hsw.length
  refine wp_ite (fun hc => ?_) fun hc => ?_
  · have hc : (i : Int) - 1 ≥ 0 := of_decide_eq_true hc
    obtain ⟨j, rfl⟩ : ∃ j, i = j + 1 := ⟨i - 1, by omega⟩
    have e : ((j + 1 : Nat) : Int) - 1 = j := by omega
    rw [e]
    refine wp_swap ok a (a + j) rfl (by dsimp only; rw [w64 (by omega) (by omega)]; omega) (by omega) (by omega) hs fun w' hs => ?_
    have hroot := heap_root lo' (by omega) hh
    have hat : ∀ p q, ltAt lt (swapL ys a (a + j)) p q = ltAt lt ys (tr a (a + j) p) (tr a (a + j) q) := fun p q => ltAt_swap (by omega) (by omega) p q
    have hbut : HeapBut lt (swapL ys a (a + j)) a 0 j 0 := by
      refine ⟨fun p c h1 h2 h3 h4 => ?_, fun q c h1 h2 h3 h4 => by rcases h2 with h | h <;> omega⟩
      rw [hat]
      unfold tr
      rw [if_neg (show ¬ a + p = a by omega), if_neg (show ¬ a + p = a + j by rcases h2 with h | h <;> omega), if_neg (show ¬ a + c = a by rcases h2 with h | h <;> omega), if_neg (show ¬ a + c = a + j by omega)]
      exact hh p c h1 h2 (by omega)
    have hso' : SortedR lt (swapL ys a (a + j)) (a + j) (a + n) := fun p q h1 h2 h3 => by
      rw [hat]
      unfold tr
      rw [if_neg (show ¬ q = a by omega), if_neg (show ¬ q = a + j by omega)]
      by_cases hp : p = a + j
      · subst hp
        by_cases hj : j = 0
        · subst hj
          simp only [Nat.add_zero, if_true]
          obtain ⟨q', rfl⟩ : ∃ q', q = a + q' := ⟨q - a, by omega⟩
          exact hpq 0 q' (by omega) (by omega) (by omega)
        · rw [if_neg (by omega), if_pos rfl]
          obtain ⟨q', rfl⟩ : ∃ q', q = a + q' := ⟨q - a, by omega⟩
          exact hpq 0 q' (by omega) (by omega) (by omega)
      · rw [if_neg (show ¬ p = a by omega), if_neg hp]
        exact hso p q (by omega) h2 h3
    have hpq' : ∀ p q, p < j → j ≤ q → q < n → ltAt lt (swapL ys a (a + j)) (a + q) (a + p) = false := fun p q h1 h2 h3 => by
      have hp' : ∃ p', tr a (a + j) (a + p) = a + p' ∧ p' < j + 1 := by
        unfold tr
        split
        · exact ⟨j, rfl, by omega⟩
        · exact ⟨p, by rw [if_neg (by omega)], by omega⟩
      obtain ⟨p', hp', hlt⟩ := hp'
      rw [hat, hp']
      unfold tr
      rw [if_neg (show ¬ a + q = a by omega)]
      by_cases hq : a + q = a + j
      · rw [if_pos hq]; exact hroot p' hlt
      · rw [if_neg hq]; exact hpq p' q hlt (by omega) h3
    refine wp_callS () (sift_c ok im lo' x0 0 j a (by omega) (by rw [swapL_length]; omega) (by rw [swapL_length]; omega) hbut hs) rfl fun w' h => ?_
    obtain ⟨zs, hz, hzh, hs⟩ := h
    refine ⟨trivial, ?_⟩
    refine wp_lw (y := (j : Int) - 1) (w64 (by dsimp only; omega) (by dsimp only; omega)) ?_
    have hz1 : Sw a (a + n) (swapL ys a (a + j)) zs := hz.mono (by omega) (by omega)
    refine wp_leave ⟨((j : Int) - 1, ()), j, by omega, rfl, j, zs, rfl, rfl, by omega, (Sw.step hsw (by omega) (by omega) (by omega) (by omega)).trans hz1, hzh, fun p q h1 h2 h3 => ?_, fun p q h1 h2 h3 => ?_, hs⟩
    · have hso' := hso' p q h1 h2 h3
      unfold ltAt at *
      rw [hz.out (by omega), hz.out (by omega)]
      exact hso'
    · -- what holds of all that the heap has
      have hall := Sw.all hz (by rw [swapL_length]; omega) (p := fun x => ∀ q y, j ≤ q → q < n → (swapL ys a (a + j))[a + q]? = some y → lt y x = false) (fun k x hk1 hk2 hx q y hq1 hq2 hy => by
        obtain ⟨k', rfl⟩ : ∃ k', k = a + k' := ⟨k - a, by omega⟩
        have := hpq' k' q (by omega) hq1 hq2
        unfold ltAt at this
        rw [hx, hy] at this
        exact this)
      unfold ltAt
      cases hx : zs[a + p]? with
      | none => split <;> simp_all
      | some x =>
        cases hy : zs[a + q]? with
        | none => rfl
        | some y =>
          rw [hz.out (by omega)] at hy
          exact hall (a + p) x (by omega) (by omega) hx q y h2 h3 hy
  · have hc : ¬ (i : Int) - 1 ≥ 0 := of_decide_eq_false hc
    refine wp_pass ?_
    refine wp_leave ⟨(), rfl, ys, hsw, ?_, hs⟩
    have : i = 0 := by omega
    subst this
    exact hso
end
end Go.Dec
namespace Go.Dec
set_option linter.unusedVariables false
set_option linter.unusedSimpArgs false
section
variable {P : Program} {I : SortI} {lt : I.E → I.E → Bool} {w : World} {l : List HP} {Q : Post} {d : Sl} {xs : List I.E}
theorem scan_up1 (ok : I.Ok P lt) (x0 : I.E) {e e1 e2 : Nat} {f : Bool → Bool} (i j a : Nat) {K : Int × Unit → Prog} (h12 : Nat.beq e e1 = false := by rfl) (hij : i ≤ j + 1) (hj : j < xs.length) (ha : a < xs.length) (h63 : xs.length < 2305843009213693952) (hs : Sat w (I.arr d xs :: l))
    (h : ∀ (r : Nat) w', i ≤ r → r ≤ j + 1 → (∀ k, i ≤ k → k < r → f (ltAt lt xs k a) = true) → (r ≤ j → f (ltAt lt xs r a) = false) → Sat w' (I.arr d xs :: l) → (K ((r : Int), ())).wp P tt w' Q) :
    (Prog.bind e [.one (.int .i64)] (.loop e1 [.one (.int .i64)] ((i : Int), ()) (u1 fun (n : Int) => (.bind e2 [.one .bool] (.tick <| .ex [.adr] (c1 fun z => decide (n ≤ (j : Int)) = true → 0 ≤ n ∧ n < ((d.len : Nat) : Int) ∧ d.a = some z) (u1 fun a' => .read (decide (n ≤ (j : Int)) = true) (ld I.T (Addr.add a' (Int.toNat n * I.sz))) (.one I.s) (fun x =>
      .ex [.adr] (c1 fun z => decide (n ≤ (j : Int)) = true → 0 ≤ (a : Int) ∧ (a : Int) < ((d.len : Nat) : Int) ∧ d.a = some z) (u1 fun a' => .read (decide (n ≤ (j : Int)) = true) (ld I.T (Addr.add a' (Int.toNat (a : Int) * I.sz))) (.one I.s) (fun y =>
      .ite (decide (n ≤ (j : Int))) (I.less x y (fun b => .untick (.done e2 [.bool (f b)]))) (.untick (.done e2 [.bool false]))))))) (u1 fun b => .ite b (.lt (.int .i64) (IntKind.wrap .i64 (n + 1)) fun n' => .done e1 [.int .i64 n']) (.done e [.int .i64 n]))))) K).wp P tt w Q := by
  refine wp_mid (fun v w' => ∃ r : Nat, v = ((r : Int), ()) ∧ i ≤ r ∧ r ≤ j + 1 ∧ (∀ k, i ≤ k → k < r → f (ltAt lt xs k a) = true) ∧ (r ≤ j → f (ltAt lt xs r a) = false) ∧ Sat w' (I.arr d xs :: l)) ?_ (by rintro _ w' ⟨r, rfl, h1, h2, h3, h4, hs⟩; exact h r w' h1 h2 h3 h4 hs)
  refine wp_loop (fun m v w => ∃ r : Nat, v = ((r : Int), ()) ∧ i ≤ r ∧ r ≤ j + 1 ∧ j + 1 - r = m ∧ (∀ k, i ≤ k → k < r → f (ltAt lt xs k a) = true) ∧ Sat w (I.arr d xs :: l)) (j + 1 - i) ⟨i, rfl, by omega, hij, rfl, fun k h1 h2 => by omega, hs⟩ ?_
  rintro m _ w ⟨r, rfl, h1, h2, h3, h4, hs⟩
  refine wp_gcmp ok (f := f) r a (fun hg => ⟨rfl, by have hg : (r : Int) ≤ (j : Int) := of_decide_eq_true hg; omega⟩) (fun _ => ⟨rfl, ha⟩) x0 hs fun w' hs => ?_
  refine wp_ite (fun hc => ?_) fun hc => ?_
  · have hc : (decide ((r : Int) ≤ (j : Int)) && f (ltAt lt xs r a)) = true := hc
    simp only [Bool.and_eq_true, decide_eq_true_eq] at hc
    refine wp_lw (y := ((r + 1 : Nat) : Int)) (by dsimp only; rw [w64 (by omega) (by omega)]; omega) ?_
    refine wp_leave ⟨(((r + 1 : Nat) : Int), ()), j + 1 - (r + 1), by omega, rfl, r + 1, rfl, by omega, by omega, rfl, fun k k1 k2 => ?_, hs⟩
    by_cases hk : k = r
    · subst hk; exact hc.2
    · exact h4 k (by omega) (by omega)
  · have hc : (decide ((r : Int) ≤ (j : Int)) && f (ltAt lt xs r a)) = false := hc
    refine wp_pass ?_ h12
    refine wp_leave ⟨((r : Int), ()), rfl, r, rfl, h1, h2, h4, fun hr => ?_, hs⟩
    rwa [decide_eq_true (show (r : Int) ≤ (j : Int) by omega), Bool.true_and] at hc
theorem scan_dn1 (ok : I.Ok P lt) (x0 : I.E) {e e1 e2 : Nat} {f : Bool → Bool} (i j a : Nat) {K : Int × Unit → Prog} (h12 : Nat.beq e e1 = false := by rfl) (hij : i ≤ j + 1) (hi1 : 1 ≤ i) (hj : j < xs.length) (ha : a < xs.length) (h63 : xs.length < 2305843009213693952) (hs : Sat w (I.arr d xs :: l))
    (h : ∀ (r : Nat) w', i ≤ r + 1 → r ≤ j → (∀ k, r < k → k ≤ j → f (ltAt lt xs k a) = true) → (i ≤ r → f (ltAt lt xs r a) = false) → Sat w' (I.arr d xs :: l) → (K ((r : Int), ())).wp P tt w' Q) :
    (Prog.bind e [.one (.int .i64)] (.loop e1 [.one (.int .i64)] ((j : Int), ()) (u1 fun (n : Int) => (.bind e2 [.one .bool] (.tick <| .ex [.adr] (c1 fun z => decide ((i : Int) ≤ n) = true → 0 ≤ n ∧ n < ((d.len : Nat) : Int) ∧ d.a = some z) (u1 fun a' => .read (decide ((i : Int) ≤ n) = true) (ld I.T (Addr.add a' (Int.toNat n * I.sz))) (.one I.s) (fun x =>
      .ex [.adr] (c1 fun z => decide ((i : Int) ≤ n) = true → 0 ≤ (a : Int) ∧ (a : Int) < ((d.len : Nat) : Int) ∧ d.a = some z) (u1 fun a' => .read (decide ((i : Int) ≤ n) = true) (ld I.T (Addr.add a' (Int.toNat (a : Int) * I.sz))) (.one I.s) (fun y =>
      .ite (decide ((i : Int) ≤ n)) (I.less x y (fun b => .untick (.done e2 [.bool (f b)]))) (.untick (.done e2 [.bool false]))))))) (u1 fun b => .ite b (.lt (.int .i64) (IntKind.wrap .i64 (n - 1)) fun n' => .done e1 [.int .i64 n']) (.done e [.int .i64 n]))))) K).wp P tt w Q := by
  refine wp_mid (fun v w' => ∃ r : Nat, v = ((r : Int), ()) ∧ i ≤ r + 1 ∧ r ≤ j ∧ (∀ k, r < k → k ≤ j → f (ltAt lt xs k a) = true) ∧ (i ≤ r → f (ltAt lt xs r a) = false) ∧ Sat w' (I.arr d xs :: l)) ?_ (by rintro _ w' ⟨r, rfl, h1, h2, h3, h4, hs⟩; exact h r w' h1 h2 h3 h4 hs)
  refine wp_loop (fun m v w => ∃ r : Nat, v = ((r : Int), ()) ∧ i ≤ r + 1 ∧ r ≤ j ∧ r = m ∧ (∀ k, r < k → k ≤ j → f (ltAt lt xs k a) = true) ∧ Sat w (I.arr d xs :: l)) j ⟨j, rfl, hij, by omega, rfl, fun k h1 h2 => by omega, hs⟩ ?_
  rintro m _ w ⟨r, rfl, h1, h2, h3, h4, hs⟩
  refine wp_gcmp ok (f := f) r a (fun hg => ⟨rfl, by have hg : (i : Int) ≤ (r : Int) := of_decide_eq_true hg; omega⟩) (fun _ => ⟨rfl, ha⟩) x0 hs fun w' hs => ?_
  refine wp_ite (fun hc => ?_) fun hc => ?_
  · have hc : (decide ((i : Int) ≤ (r : Int)) && f (ltAt lt xs r a)) = true := hc
    simp only [Bool.and_eq_true, decide_eq_true_eq] at hc
    refine wp_lw (y := ((r - 1 : Nat) : Int)) (by dsimp only; rw [w64 (by omega) (by omega)]; omega) ?_
    refine wp_leave ⟨(((r - 1 : Nat) : Int), ()), r - 1, by omega, rfl, r - 1, rfl, by omega, by omega, rfl, fun k k1 k2 => ?_, hs⟩
    by_cases hk : k = r
    · subst hk; exact hc.2
    · exact h4 k (by omega) (by omega)
  · have hc : (decide ((i : Int) ≤ (r : Int)) && f (ltAt lt xs r a)) = false := hc
    refine wp_pass ?_ h12
    refine wp_leave ⟨((r : Int), ()), rfl, r, rfl, h1, h2, h4, fun hr => ?_, hs⟩
    rwa [decide_eq_true (show (i : Int) ≤ (r : Int) by omega), Bool.true_and] at hc
theorem scan_up2 (ok : I.Ok P lt) (x0 : I.E) {e e1 e2 : Nat} {f : Bool → Bool} (i j a : Nat) {K : Int × Unit → Prog} (h12 : Nat.beq e e1 = false := by rfl) (hij : i ≤ j + 1) (hj : j < xs.length) (ha : a < xs.length) (h63 : xs.length < 2305843009213693952) (hs : Sat w (I.arr d xs :: l))
    (h : ∀ (r : Nat) w', i ≤ r → r ≤ j + 1 → (∀ k, i ≤ k → k < r → f (ltAt lt xs a k) = true) → (r ≤ j → f (ltAt lt xs a r) = false) → Sat w' (I.arr d xs :: l) → (K ((r : Int), ())).wp P tt w' Q) :
    (Prog.bind e [.one (.int .i64)] (.loop e1 [.one (.int .i64)] ((i : Int), ()) (u1 fun (n : Int) => (.bind e2 [.one .bool] (.tick <| .ex [.adr] (c1 fun z => decide (n ≤ (j : Int)) = true → 0 ≤ (a : Int) ∧ (a : Int) < ((d.len : Nat) : Int) ∧ d.a = some z) (u1 fun a' => .read (decide (n ≤ (j : Int)) = true) (ld I.T (Addr.add a' (Int.toNat (a : Int) * I.sz))) (.one I.s) (fun x =>
      .ex [.adr] (c1 fun z => decide (n ≤ (j : Int)) = true → 0 ≤ n ∧ n < ((d.len : Nat) : Int) ∧ d.a = some z) (u1 fun a' => .read (decide (n ≤ (j : Int)) = true) (ld I.T (Addr.add a' (Int.toNat n * I.sz))) (.one I.s) (fun y =>
      .ite (decide (n ≤ (j : Int))) (I.less x y (fun b => .untick (.done e2 [.bool (f b)]))) (.untick (.done e2 [.bool false]))))))) (u1 fun b => .ite b (.lt (.int .i64) (IntKind.wrap .i64 (n + 1)) fun n' => .done e1 [.int .i64 n']) (.done e [.int .i64 n]))))) K).wp P tt w Q := by
  refine wp_mid (fun v w' => ∃ r : Nat, v = ((r : Int), ()) ∧ i ≤ r ∧ r ≤ j + 1 ∧ (∀ k, i ≤ k → k < r → f (ltAt lt xs a k) = true) ∧ (r ≤ j → f (ltAt lt xs a r) = false) ∧ Sat w' (I.arr d xs :: l)) ?_ (by rintro _ w' ⟨r, rfl, h1, h2, h3, h4, hs⟩; exact h r w' h1 h2 h3 h4 hs)
  refine wp_loop (fun m v w => ∃ r : Nat, v = ((r : Int), ()) ∧ i ≤ r ∧ r ≤ j + 1 ∧ j + 1 - r = m ∧ (∀ k, i ≤ k → k < r → f (ltAt lt xs a k) = true) ∧ Sat w (I.arr d xs :: l)) (j + 1 - i) ⟨i, rfl, by omega, hij, rfl, fun k h1 h2 => by omega, hs⟩ ?_
  rintro m _ w ⟨r, rfl, h1, h2, h3, h4, hs⟩
  refine wp_gcmp ok (f := f) a r (fun _ => ⟨rfl, ha⟩) (fun hg => ⟨rfl, by have hg : (r : Int) ≤ (j : Int) := of_decide_eq_true hg; omega⟩) x0 hs fun w' hs => ?_
  refine wp_ite (fun hc => ?_) fun hc => ?_
  · have hc : (decide ((r : Int) ≤ (j : Int)) && f (ltAt lt xs a r)) = true := hc
    simp only [Bool.and_eq_true, decide_eq_true_eq] at hc
    refine wp_lw (y := ((r + 1 : Nat) : Int)) (by dsimp only; rw [w64 (by omega) (by omega)]; omega) ?_
    refine wp_leave ⟨(((r + 1 : Nat) : Int), ()), j + 1 - (r + 1), by omega, rfl, r + 1, rfl, by omega, by omega, rfl, fun k k1 k2 => ?_, hs⟩
    by_cases hk : k = r
    · subst hk; exact hc.2
    · exact h4 k (by omega) (by omega)
  · have hc : (decide ((r : Int) ≤ (j : Int)) && f (ltAt lt xs a r)) = false := hc
    refine wp_pass ?_ h12
    refine wp_leave ⟨((r : Int), ()), rfl, r, rfl, h1, h2, h4, fun hr => ?_, hs⟩
    rwa [decide_eq_true (show (r : Int) ≤ (j : Int) by omega), Bool.true_and] at hc
theorem scan_dn2 (ok : I.Ok P lt) (x0 : I.E) {e e1 e2 : Nat} {f : Bool → Bool} (i j a : Nat) {K : Int × Unit → Prog} (h12 : Nat.beq e e1 = false := by rfl) (hij : i ≤ j + 1) (hi1 : 1 ≤ i) (hj : j < xs.length) (ha : a < xs.length) (h63 : xs.length < 2305843009213693952) (hs : Sat w (I.arr d xs :: l))
    (h : ∀ (r : Nat) w', i ≤ r + 1 → r ≤ j → (∀ k, r < k → k ≤ j → f (ltAt lt xs a k) = true) → (i ≤ r → f (ltAt lt xs a r) = false) → Sat w' (I.arr d xs :: l) → (K ((r : Int), ())).wp P tt w' Q) :
    (Prog.bind e [.one (.int .i64)] (.loop e1 [.one (.int .i64)] ((j : Int), ()) (u1 fun (n : Int) => (.bind e2 [.one .bool] (.tick <| .ex [.adr] (c1 fun z => decide ((i : Int) ≤ n) = true → 0 ≤ (a : Int) ∧ (a : Int) < ((d.len : Nat) : Int) ∧ d.a = some z) (u1 fun a' => .read (decide ((i : Int) ≤ n) = true) (ld I.T (Addr.add a' (Int.toNat (a : Int) * I.sz))) (.one I.s) (fun x =>
      .ex [.adr] (c1 fun z => decide ((i : Int) ≤ n) = true → 0 ≤ n ∧ n < ((d.len : Nat) : Int) ∧ d.a = some z) (u1 fun a' => .read (decide ((i : Int) ≤ n) = true) (ld I.T (Addr.add a' (Int.toNat n * I.sz))) (.one I.s) (fun y =>
      .ite (decide ((i : Int) ≤ n)) (I.less x y (fun b => .untick (.done e2 [.bool (f b)]))) (.untick (.done e2 [.bool false]))))))) (u1 fun b => .ite b (.lt (.int .i64) (IntKind.wrap .i64 (n - 1)) fun n' => .done e1 [.int .i64 n']) (.done e [.int .i64 n]))))) K).wp P tt w Q := by
  refine wp_mid (fun v w' => ∃ r : Nat, v = ((r : Int), ()) ∧ i ≤ r + 1 ∧ r ≤ j ∧ (∀ k, r < k → k ≤ j → f (ltAt lt xs a k) = true) ∧ (i ≤ r → f (ltAt lt xs a r) = false) ∧ Sat w' (I.arr d xs :: l)) ?_ (by rintro _ w' ⟨r, rfl, h1, h2, h3, h4, hs⟩; exact h r w' h1 h2 h3 h4 hs)
  refine wp_loop (fun m v w => ∃ r : Nat, v = ((r : Int), ()) ∧ i ≤ r + 1 ∧ r ≤ j ∧ r = m ∧ (∀ k, r < k → k ≤ j → f (ltAt lt xs a k) = true) ∧ Sat w (I.arr d xs :: l)) j ⟨j, rfl, hij, by omega, rfl, fun k h1 h2 => by omega, hs⟩ ?_
  rintro m _ w ⟨r, rfl, h1, h2, h3, h4, hs⟩
  refine wp_gcmp ok (f := f) a r (fun _ => ⟨rfl, ha⟩) (fun hg => ⟨rfl, by have hg : (i : Int) ≤ (r : Int) := of_decide_eq_true hg; omega⟩) x0 hs fun w' hs => ?_
  refine wp_ite (fun hc => ?_) fun hc => ?_
  · have hc : (decide ((i : Int) ≤ (r : Int)) && f (ltAt lt xs a r)) = true := hc
    simp only [Bool.and_eq_true, decide_eq_true_eq] at hc
    refine wp_lw (y := ((r - 1 : Nat) : Int)) (by dsimp only; rw [w64 (by omega) (by omega)]; omega) ?_
    refine wp_leave ⟨(((r - 1 : Nat) : Int), ()), r - 1, by omega, rfl, r - 1, rfl, by omega, by omega, rfl, fun k k1 k2 => ?_, hs⟩
    by_cases hk : k = r
    · subst hk; exact hc.2
    · exact h4 k (by omega) (by omega)
  · have hc : (decide ((i : Int) ≤ (r : Int)) && f (ltAt lt xs a r)) = false := hc
    refine wp_pass ?_ h12
    refine wp_leave ⟨((r : Int), ()), rfl, r, rfl, h1, h2, h4, fun hr => ?_, hs⟩
    rwa [decide_eq_true (show (i : Int) ≤ (r : Int) by omega), Bool.true_and] at hc
end
end Go.Dec
namespace Go.Dec
set_option linter.unusedVariables false
set_option linter.unusedSimpArgs false
section
variable {P : Program} {I : SortI} {lt : I.E → I.E → Bool} {w : World} {l : List HP} {Q : Post} {d : Sl} {xs ys : List I.E}
def PartI (lt : I.E → I.E → Bool) (ys : List I.E) (a b i j : Nat) : Prop :=
  a + 1 ≤ i ∧ i ≤ j + 1 ∧ j < b ∧ (∀ k, a + 1 ≤ k → k < i → ltAt lt ys k a = true) ∧ (∀ k, j < k → k < b → ltAt lt ys k a = false)
def PartP (lt : I.E → I.E → Bool) (ys : List I.E) (a b m : Nat) : Prop :=
  a ≤ m ∧ m < b ∧ (∀ k, a ≤ k → k < m → ltAt lt ys k m = true) ∧ (∀ k, m < k → k < b → ltAt lt ys k m = false)
theorem part_step {a b i j : Nat} (hb : b ≤ ys.length) (h : PartI lt ys a b i j) (hij : i < j) (hi : ltAt lt ys i a = false) (hj : ltAt lt ys j a = true) : PartI lt (swapL ys i j) a b (i + 1) (j - 1) := by
  obtain ⟨h1, h2, h3, h4, h5⟩ := h
  have ha : tr i j a = a := by unfold tr; rw [if_neg (by omega), if_neg (by omega)]
  refine ⟨by omega, by omega, by omega, fun k k1 k2 => ?_, fun k k1 k2 => ?_⟩
  · rw [ltAt_swap (by omega) (by omega), ha]
    unfold tr
    split
    · exact hj
    · rw [if_neg (by omega)]; exact h4 k k1 (by omega)
  · rw [ltAt_swap (by omega) (by omega), ha]
    unfold tr
    rw [if_neg (by omega)]
    split
    · exact hi
    · exact h5 k (by omega) k2
theorem part_end {a b i j : Nat} (hb : b ≤ ys.length) (h : PartI lt ys a b i j) (hij : j < i) : PartP lt (swapL ys j a) a b j := by
  obtain ⟨h1, h2, h3, h4, h5⟩ := h
  have hj : tr j a j = a := by unfold tr; rw [if_pos rfl]
  refine ⟨by omega, h3, fun k k1 k2 => ?_, fun k k1 k2 => ?_⟩
  · rw [ltAt_swap (by omega) (by omega), hj]
    unfold tr
    rw [if_neg (by omega)]
    split
    · exact h4 j (by omega) (by omega)
    · exact h4 k (by omega) (by omega)
  · rw [ltAt_swap (by omega) (by omega), hj]
    unfold tr
    rw [if_neg (by omega), if_neg (by omega)]
    exact h5 k k1 k2
theorem part_c (ok : I.Ok P lt) (im : I.Impl P) (x0 : I.E) (a b p : Nat) (hap : a ≤ p) (hpb : p < b) (hb : b ≤ xs.length) (h63 : xs.length < 2305843009213693952) (hs : Sat w (I.arr d xs :: l)) :
    Ret P I.f_part ([d.v, .int .i64 a, .int .i64 b, .int .i64 p] ++ I.ex).toArray w fun vs w' => ∃ (m : Nat) (q : Bool) (ys : List I.E), vs = [.int .i64 m, .bool q] ∧ Sw a b xs ys ∧ PartP lt ys a b m ∧ Sat w' (I.arr d ys :: l) := im.part <| by
  unfold SortI.part
  refine wp_swap ok a p rfl rfl (by omega) (by omega) hs fun w' hs => ?_
  have hsw : Sw a b xs (swapL xs a p) := .step (.refl _) (by omega) (by omega) (by omega) (by omega)
  generalize swapL xs a p = ys at *
  have hyl := hsw.length
  refine wp_lw (y := ((a + 1 : Nat) : Int)) (by rw [w64 (by omega) (by omega)]; omega) ?_
  refine wp_lw (y := ((b - 1 : Nat) : Int)) (by rw [w64 (by omega) (by omega)]; omega) ?_
  refine scan_up1 ok x0 (f := id) (a + 1) (b - 1) a rfl (by omega) (by omega) (by omega) (by omega) hs fun i w' i1 i2 i3 i4 hs => ?_
  refine scan_dn1 ok x0 (f := not) i (b - 1) a rfl (by omega) (by omega) (by omega) (by omega) (by omega) hs fun j w' j1 j2 j3 j4 hs => ?_
  have hI : PartI lt ys a b i j := ⟨i1, j1, by omega, i3, fun k k1 k2 => by simpa using j3 k k1 (by omega)⟩
  refine wp_ite (fun hc => ?_) fun hc => ?_
  · have hc : (i : Int) > j := of_decide_eq_true hc
    refine wp_swap ok j a rfl rfl (by omega) (by omega) hs fun w' hs => ?_
    refine wp_lt ?_
    exact ⟨rfl, j, true, _, rfl, .step hsw (by omega) (by omega) (by omega) (by omega), part_end (by omega) hI (by omega), hs⟩
  · have hc : ¬ (i : Int) > j := of_decide_eq_false hc
    have hia := i4 (by omega)
    have hja : ltAt lt ys j a = true := by simpa using j4 (by omega)
    have hne : i ≠ j := by rintro rfl; rw [id, hja] at hia; cases hia
    refine wp_swap ok i j rfl rfl (by omega) (by omega) hs fun w' hs => ?_
    have hI2 := part_step (by omega) hI (by omega) hia hja
    have hsw2 : Sw a b xs (swapL ys i j) := .step hsw (by omega) (by omega) (by omega) (by omega)
    refine wp_lw (y := ((i + 1 : Nat) : Int)) (by dsimp only; rw [w64 (by omega) (by omega)]; omega) ?_
    refine wp_lw (y := ((j - 1 : Nat) : Int)) (by dsimp only; rw [w64 (by omega) (by omega)]; omega) ?_
    refine wp_mid (fun v w' => ∃ (i j : Nat) (ys : List I.E), v = ((j : Int), ()) ∧ j < i ∧ PartI lt ys a b i j ∧ Sw a b xs ys ∧ Sat w' (I.arr d ys :: l)) ?_ ?_
    · refine wp_loop (fun n v w => ∃ (i j : Nat) (ys : List I.E), v = ((i : Int), (j : Int), ()) ∧ PartI lt ys a b i j ∧ j = n ∧ Sw a b xs ys ∧ Sat w (I.arr d ys :: l)) (j - 1) ⟨i + 1, j - 1, _, rfl, hI2, rfl, hsw2, hs⟩ ?_
      clear hI hI2 hsw hsw2 hs i1 i2 i3 i4 j1 j2 j3 j4 hc hia hja hne hyl
      rintro n _ w ⟨i', j', ys, rfl, ⟨h1, h2, h3, h4, h5⟩, rfl, hsw, hs⟩
      have hyl := hsw.length
      refine wp_mid (fun v w' => ∃ (i j : Nat) (ys : List I.E), v = ((i : Int), (j : Int), ()) ∧ PartI lt ys a b i j ∧ j < j' ∧ Sw a b xs ys ∧ Sat w' (I.arr d ys :: l)) ?_ ?_
      · refine scan_up1 ok x0 (f := id) i' j' a rfl (by omega) (by omega) (by omega) (by omega) hs fun i w' i1 i2 i3 i4 hs => ?_
        refine scan_dn1 ok x0 (f := not) i j' a rfl (by omega) (by omega) (by omega) (by omega) (by omega) hs fun j w' j1 j2 j3 j4 hs => ?_
        have hI : PartI lt ys a b i j := ⟨by omega, j1, by omega, fun k k1 k2 => if hk : k < i' then h4 k k1 hk else i3 k (by omega) k2, fun k k1 k2 => if hk : j' < k then h5 k hk k2 else by simpa using j3 k k1 (by omega)⟩
        refine wp_ite (fun hc => ?_) fun hc => ?_
        · have hc : (i : Int) > j := of_decide_eq_true hc
          refine wp_pass ?_
          refine wp_pass ?_
          exact wp_leave ⟨((j : Int), ()), rfl, i, j, ys, rfl, by omega, hI, hsw, hs⟩
        · have hc : ¬ (i : Int) > j := of_decide_eq_false hc
          have hia := i4 (by omega)
          have hja : ltAt lt ys j a = true := by simpa using j4 (by omega)
          have hne : i ≠ j := by rintro rfl; rw [id, hja] at hia; cases hia
          refine wp_swap ok i j rfl rfl (by omega) (by omega) hs fun w' hs => ?_
          refine wp_lw (y := ((i + 1 : Nat) : Int)) (by dsimp only; rw [w64 (by omega) (by omega)]; omega) ?_
          refine wp_lw (y := ((j - 1 : Nat) : Int)) (by dsimp only; rw [w64 (by omega) (by omega)]; omega) ?_
          exact wp_leave ⟨(((i + 1 : Nat) : Int), ((j - 1 : Nat) : Int), ()), rfl, i + 1, j - 1, _, rfl, part_step (by omega) hI (by omega) hia hja, by omega, .step hsw (by omega) (by omega) (by omega) (by omega), hs⟩
      · rintro _ w' ⟨i, j, ys, rfl, hI, hlt, hsw, hs⟩
        exact wp_leave ⟨((i : Int), (j : Int), ()), j, hlt, rfl, i, j, ys, rfl, hI, rfl, hsw, hs⟩
    · rintro _ w' ⟨i, j, ys, rfl, hij, hI, hsw, hs⟩
      have hyl := hsw.length
      have hjb := hI.2.2.1
      have h1 := hI.1
      have h2 := hI.2.1
      refine wp_swap ok j a rfl rfl (by omega) (by omega) hs fun w' hs => ?_
      refine wp_lt ?_
      exact ⟨rfl, j, false, _, rfl, .step hsw (by omega) (by omega) (by omega) (by omega), part_end (by omega) hI hij, hs⟩
def EqI (lt : I.E → I.E → Bool) (ys : List I.E) (a b i j : Nat) : Prop :=
  a + 1 ≤ i ∧ i ≤ j + 1 ∧ j < b ∧ (∀ k, a + 1 ≤ k → k < i → ltAt lt ys a k = false) ∧ (∀ k, j < k → k < b → ltAt lt ys a k = true)
theorem eq_step {a b i j : Nat} (hb : b ≤ ys.length) (h : EqI lt ys a b i j) (hij : i < j) (hi : ltAt lt ys a i = true) (hj : ltAt lt ys a j = false) : EqI lt (swapL ys i j) a b (i + 1) (j - 1) := by
  obtain ⟨h1, h2, h3, h4, h5⟩ := h
  have ha : tr i j a = a := by unfold tr; rw [if_neg (by omega), if_neg (by omega)]
  refine ⟨by omega, by omega, by omega, fun k k1 k2 => ?_, fun k k1 k2 => ?_⟩
  · rw [ltAt_swap (by omega) (by omega), ha]
    unfold tr
    split
    · exact hj
    · rw [if_neg (by omega)]; exact h4 k k1 (by omega)
  · rw [ltAt_swap (by omega) (by omega), ha]
    unfold tr
    rw [if_neg (by omega)]
    split
    · exact hi
    · exact h5 k (by omega) k2
theorem peq_c (ok : I.Ok P lt) (im : I.Impl P) (x0 : I.E) (a b p : Nat) (hap : a ≤ p) (hpb : p < b) (hb : b ≤ xs.length) (h63 : xs.length < 2305843009213693952) (hs : Sat w (I.arr d xs :: l)) :
    Ret P I.f_peq ([d.v, .int .i64 a, .int .i64 b, .int .i64 p] ++ I.ex).toArray w fun vs w' => ∃ (m : Nat) (ys : List I.E), vs = [.int .i64 m] ∧ Sw a b xs ys ∧ ys[a]? = xs[p]? ∧ a < m ∧ m ≤ b ∧ (∀ k, a + 1 ≤ k → k < m → ltAt lt ys a k = false) ∧ (∀ k, m ≤ k → k < b → ltAt lt ys a k = true) ∧ Sat w' (I.arr d ys :: l) := im.peq <| by
  unfold SortI.peq
  refine wp_swap ok a p rfl rfl (by omega) (by omega) hs fun w' hs => ?_
  have hsw : Sw a b xs (swapL xs a p) := .step (.refl _) (by omega) (by omega) (by omega) (by omega)
  have hya : (swapL xs a p)[a]? = xs[p]? := by rw [swapL_get (by omega) (by omega)]; unfold tr; rw [if_pos rfl]
  generalize swapL xs a p = ys at *
  have hyl := hsw.length
  refine wp_lw (y := ((a + 1 : Nat) : Int)) (by rw [w64 (by omega) (by omega)]; omega) ?_
  refine wp_lw (y := ((b - 1 : Nat) : Int)) (by rw [w64 (by omega) (by omega)]; omega) ?_
  refine wp_mid (fun v w' => ∃ (i j : Nat) (ys : List I.E), v = ((i : Int), ()) ∧ j < i ∧ EqI lt ys a b i j ∧ Sw a b xs ys ∧ ys[a]? = xs[p]? ∧ Sat w' (I.arr d ys :: l)) ?_ ?_
  · refine wp_loop (fun n v w => ∃ (i j : Nat) (ys : List I.E), v = ((i : Int), (j : Int), ()) ∧ EqI lt ys a b i j ∧ j = n ∧ Sw a b xs ys ∧ ys[a]? = xs[p]? ∧ Sat w (I.arr d ys :: l)) (b - 1) ⟨a + 1, b - 1, _, rfl, ⟨by omega, by omega, by omega, fun k k1 k2 => by omega, fun k k1 k2 => by omega⟩, rfl, hsw, hya, hs⟩ ?_
    clear hsw hs hya hyl
    rintro n _ w ⟨i', j', ys, rfl, ⟨h1, h2, h3, h4, h5⟩, rfl, hsw, hya, hs⟩
    have hyl := hsw.length
    refine wp_mid (fun v w' => ∃ (i j : Nat) (ys : List I.E), v = ((i : Int), (j : Int), ()) ∧ EqI lt ys a b i j ∧ j < j' ∧ Sw a b xs ys ∧ ys[a]? = xs[p]? ∧ Sat w' (I.arr d ys :: l)) ?_ ?_
    · refine scan_up2 ok x0 (f := not) i' j' a rfl (by omega) (by omega) (by omega) (by omega) hs fun i w' i1 i2 i3 i4 hs => ?_
      refine scan_dn2 ok x0 (f := id) i j' a rfl (by omega) (by omega) (by omega) (by omega) (by omega) hs fun j w' j1 j2 j3 j4 hs => ?_
      have hI : EqI lt ys a b i j := ⟨by omega, j1, by omega, fun k k1 k2 => if hk : k < i' then h4 k k1 hk else by simpa using i3 k (by omega) k2, fun k k1 k2 => if hk : j' < k then h5 k hk k2 else j3 k k1 (by omega)⟩
      refine wp_ite (fun hc => ?_) fun hc => ?_
      · have hc : (i : Int) > j := of_decide_eq_true hc
        refine wp_pass ?_
        refine wp_pass ?_
        exact wp_leave ⟨((i : Int), ()), rfl, i, j, ys, rfl, by omega, hI, hsw, hya, hs⟩
      · have hc : ¬ (i : Int) > j := of_decide_eq_false hc
        have hia : ltAt lt ys a i = true := by simpa using i4 (by omega)
        have hja := j4 (by omega)
        have hne : i ≠ j := by rintro rfl; rw [id, hia] at hja; cases hja
        refine wp_swap ok i j rfl rfl (by omega) (by omega) hs fun w' hs => ?_
        refine wp_lw (y := ((i + 1 : Nat) : Int)) (by dsimp only; rw [w64 (by omega) (by omega)]; omega) ?_
        refine wp_lw (y := ((j - 1 : Nat) : Int)) (by dsimp only; rw [w64 (by omega) (by omega)]; omega) ?_
        refine wp_leave ⟨(((i + 1 : Nat) : Int), ((j - 1 : Nat) : Int), ()), rfl, i + 1, j - 1, _, rfl, eq_step (by omega) hI (by omega) hia hja, by omega, .step hsw (by omega) (by omega) (by omega) (by omega), ?_, hs⟩
        rw [swapL_get (by omega) (by omega)]
        unfold tr
        rw [if_neg (by omega), if_neg (by omega)]
        exact hya
    · rintro _ w' ⟨i, j, ys, rfl, hI, hlt, hsw, hya, hs⟩
      exact wp_leave ⟨((i : Int), (j : Int), ()), j, hlt, rfl, i, j, ys, rfl, hI, rfl, hsw, hya, hs⟩
  · rintro _ w' ⟨i, j, ys, rfl, hij, ⟨h1, h2, h3, h4, h5⟩, hsw, hya, hs⟩
    refine wp_lt ?_
    exact ⟨rfl, i, ys, rfl, hsw, hya, by omega, by omega, h4, fun k k1 k2 => h5 k (by omega) k2, hs⟩
end
end Go.Dec
namespace Go.Dec
set_option linter.unusedVariables false
set_option linter.unusedSimpArgs false
section
variable {P : Program} {I : SortI} {lt : I.E → I.E → Bool} {w : World} {l : List HP} {Q : Post} {d : Sl} {xs ys : List I.E}
/-- Nothing in the range is less than what stands ahead of it. -/
def Pre (lt : I.E → I.E → Bool) (xs : List I.E) (a b : Nat) : Prop := 0 < a → ∀ k, a ≤ k → k < b → ltAt lt xs k (a - 1) = false
theorem ltAt_false_iff {p q : Nat} : ltAt lt xs p q = false ↔ ∀ x y, xs[p]? = some x → xs[q]? = some y → lt x y = false := by
  unfold ltAt
  constructor
  · intro h x y hx hy; rw [hx, hy] at h; exact h
  · intro h
    split
    · rename_i x y hx hy; exact h x y hx hy
    · rfl
/-- What all elements of a range are to an element outside stays behind swaps in the range. -/
theorem Sw.outer {a b r : Nat} (h : Sw a b xs ys) (hb : b ≤ xs.length) (hr : r < a ∨ b ≤ r) (hk : ∀ k, a ≤ k → k < b → ltAt lt xs k r = false) : ∀ k, a ≤ k → k < b → ltAt lt ys k r = false := by
  intro k k1 k2
  rw [ltAt_false_iff]
  intro x y hx hy
  rw [h.out hr] at hy
  exact Sw.all h hb (p := fun x => lt x y = false) (fun k x k1 k2 hx => ltAt_false_iff.1 (hk k k1 k2) x y hx hy) k x k1 k2 hx
theorem Sw.outer' {a b r : Nat} (h : Sw a b xs ys) (hb : b ≤ xs.length) (hr : r < a ∨ b ≤ r) (hk : ∀ k, a ≤ k → k < b → ltAt lt xs r k = false) : ∀ k, a ≤ k → k < b → ltAt lt ys r k = false := by
  intro k k1 k2
  rw [ltAt_false_iff]
  intro y x hy hx
  rw [h.out hr] at hy
  exact Sw.all h hb (p := fun x => lt y x = false) (fun k x k1 k2 hx => ltAt_false_iff.1 (hk k k1 k2) y x hy hx) k x k1 k2 hx
theorem Pre.sw {a b : Nat} (h : Pre lt xs a b) (hb : b ≤ xs.length) (hs : Sw a b xs ys) : Pre lt ys a b := fun h0 => hs.outer hb (.inl (by omega)) (h h0)
theorem pins_c (ok : I.Ok P lt) (im : I.Impl P) (lo : LtOk lt) (x0 : I.E) (a b : Nat) (hab : a < b) (hb : b ≤ xs.length) (h63 : xs.length < 2305843009213693952) (hpre : Pre lt xs a b) (hs : Sat w (I.arr d xs :: l)) :
    Ret P I.f_pins ([d.v, .int .i64 a, .int .i64 b] ++ I.ex).toArray w fun vs w' => ∃ (q : Bool) (ys : List I.E), vs = [.bool q] ∧ Sw a b xs ys ∧ (q = true → SortedR lt ys a b) ∧ Sat w' (I.arr d ys :: l) := im.pins <| by
  unfold SortI.pins
  refine wp_lw (y := ((a + 1 : Nat) : Int)) (by rw [w64 (by omega) (by omega)]; omega) ?_
  refine wp_mid (fun v w' => ∃ ys, Sw a b xs ys ∧ Sat w' (I.arr d ys :: l)) ?_ (fun _ w' ⟨ys, hsw, hs⟩ => ⟨rfl, false, ys, rfl, hsw, (fun h => by cases h), hs⟩)
  refine wp_loop (fun n v w => ∃ (i c : Nat) (ys : List I.E), v = ((i : Int), (c : Int), ()) ∧ a + 1 ≤ i ∧ i ≤ b ∧ c ≤ 5 ∧ 5 - c = n ∧ Sw a b xs ys ∧ SortedR lt ys a i ∧ Sat w (I.arr d ys :: l)) 5 ⟨a + 1, 0, xs, rfl, by omega, by omega, by omega, rfl, .refl _, fun p q h1 h2 h3 => by omega, hs⟩ ?_
  rintro n _ w ⟨i, c, ys, rfl, hi, hib, hc5, hn, hsw, hso, hs⟩
  have hyl := hsw.length
  refine wp_ite (fun hc => ?_) fun hc => ?_
  · have hc : (c : Int) < 5 := of_decide_eq_true hc
    refine wp_mid (fun v w' => ∃ (i : Nat) (ys : List I.E), v = ((i : Int), ()) ∧ a + 1 ≤ i ∧ i ≤ b ∧ Sw a b xs ys ∧ SortedR lt ys a i ∧ Sat w' (I.arr d ys :: l)) ?_ ?_
    · refine wp_mid (fun v w' => ∃ (i : Nat), v = ((i : Int), ()) ∧ a + 1 ≤ i ∧ i ≤ b ∧ SortedR lt ys a i ∧ Sat w' (I.arr d ys :: l)) ?_ ?_
      · refine wp_loop (fun n v w => ∃ (i : Nat), v = ((i : Int), ()) ∧ a + 1 ≤ i ∧ i ≤ b ∧ b - i = n ∧ SortedR lt ys a i ∧ Sat w (I.arr d ys :: l)) (b - i) ⟨i, rfl, hi, hib, rfl, hso, hs⟩ ?_
        clear hs hso hib hi hn
        rintro n _ w ⟨i, rfl, hi, hib, hn, hso, hs⟩
        refine wp_gcmp ok (f := not) i (i - 1) (fun h => ⟨rfl, by have h : (i : Int) < b := of_decide_eq_true h; omega⟩) (fun h => ⟨by rw [w64 (by omega) (by omega)]; omega, by have h : (i : Int) < b := of_decide_eq_true h; omega⟩) x0 hs fun w' hs => ?_
        refine wp_ite (fun hc2 => ?_) fun hc2 => ?_
        · have hc2 : (decide ((i : Int) < b) && !ltAt lt ys i (i - 1)) = true := hc2
          simp only [Bool.and_eq_true, decide_eq_true_eq, Bool.not_eq_true'] at hc2
          refine wp_lw (y := ((i + 1 : Nat) : Int)) (by rw [w64 (by omega) (by omega)]; omega) ?_
          refine wp_leave ⟨(((i + 1 : Nat) : Int), ()), b - (i + 1), by omega, rfl, i + 1, rfl, by omega, by omega, rfl, fun p q h1 h2 h3 => ?_, hs⟩
          by_cases hq : q = i
          · subst hq
            by_cases hp : p = q - 1
            · subst hp; exact hc2.2
            · exact lo.transAt (q := q - 1) (by omega) hc2.2 (hso p (q - 1) h1 (by omega) (by omega))
          · exact hso p q h1 h2 (by omega)
        · refine wp_pass ?_
          exact wp_leave ⟨((i : Int), ()), rfl, i, rfl, hi, hib, hso, hs⟩
      · clear hs hso hib hi
        rintro _ w ⟨i, rfl, hi, hib, hso, hs⟩
        refine wp_ite (fun hc2 => ?_) fun hc2 => ?_
        · have hc2 : ((i : Int) == (b : Int)) = true := hc2
          have hc2 : i = b := by have : (i : Int) = b := by simpa using hc2
                                 omega
          subst hc2
          refine wp_pass ?_
          refine wp_pass ?_
          refine wp_pass ?_
          exact ⟨rfl, true, ys, rfl, hsw, fun _ => hso, hs⟩
        have hc2 : ((i : Int) == (b : Int)) = false := hc2
        have hc2 : i < b := by have : ¬ (i : Int) = b := by simpa using hc2
                               omega
        refine wp_ite (fun hc3 => ?_) fun hc3 => ?_
        · refine wp_pass ?_
          refine wp_pass ?_
          refine wp_pass ?_
          exact ⟨rfl, false, ys, rfl, hsw, (fun h => by cases h), hs⟩
        refine wp_swap ok i (i - 1) rfl (by dsimp only; rw [w64 (by omega) (by omega)]; omega) (by omega) (by omega) hs fun w' hs => ?_
        have hsw2 : Sw a b xs (swapL ys i (i - 1)) := .step hsw (by omega) (by omega) (by omega) (by omega)
        have hbut : ∀ p q, a ≤ p → p < q → q < i → q ≠ i - 1 → ltAt lt (swapL ys i (i - 1)) q p = false := fun p q h1 h2 h3 h4 => by
          rw [ltAt_swap (by omega) (by omega)]
          unfold tr
          rw [if_neg (by omega), if_neg (by omega), if_neg (by omega), if_neg (by omega)]
          exact hso p q h1 h2 (by omega)
        clear hso
        generalize swapL ys i (i - 1) = ys at *
        have hyl := hsw2.length
        refine wp_mid (fun v w' => ∃ ys, Sw a b xs ys ∧ SortedR lt ys a i ∧ Sat w' (I.arr d ys :: l)) ?_ ?_
        · refine wp_ite (fun hc4 => ?_) fun hc4 => ?_
          · refine wp_lw (y := ((i - 1 : Nat) : Int)) (by dsimp only; rw [w64 (by omega) (by omega)]; omega) ?_
            refine wp_mid (fun v w' => ∃ ys, Sw a b xs ys ∧ SortedR lt ys a i ∧ Sat w' (I.arr d ys :: l)) ?_ (fun _ w' h => wp_leave ⟨(), rfl, h⟩)
            refine wp_loop (fun n v w => ∃ (j : Nat) (ys : List I.E), v = ((j : Int), ()) ∧ a ≤ j ∧ j < i ∧ j = n ∧ Sw a b xs ys ∧ (∀ p q, a ≤ p → p < q → q < i → q ≠ j → ltAt lt ys q p = false) ∧ Sat w (I.arr d ys :: l)) (i - 1) ⟨i - 1, ys, rfl, by omega, by omega, rfl, hsw2, hbut, hs⟩ ?_
            clear hs hbut hyl hsw2 hsw
            rintro n _ w ⟨j, ys, rfl, hj, hji, rfl, hsw, hso, hs⟩
            have hyl := hsw.length
            refine wp_ite (fun hc5 => ?_) fun hc5 => ?_
            · have hc5 : (j : Int) ≥ 1 := of_decide_eq_true hc5
              refine wp_plain ok j (j - 1) rfl (by dsimp only; rw [w64 (by omega) (by omega)]; omega) (by omega) (by omega) hs fun w' hs => ?_
              refine wp_ite (fun hc6 => ?_) fun hc6 => ?_
              · have hc6 : (!ltAt lt ys j (j - 1)) = true := hc6
                simp only [Bool.not_eq_true'] at hc6
                refine wp_pass ?_
                refine wp_leave ⟨(), rfl, ys, hsw, fun p q h1 h2 h3 => ?_, hs⟩
                by_cases hq : q = j
                · subst hq
                  by_cases hp : p = q - 1
                  · subst hp; exact hc6
                  · exact lo.transAt (q := q - 1) (by omega) hc6 (hso p (q - 1) h1 (by omega) (by omega) (by omega))
                · exact hso p q h1 h2 h3 hq
              · have hc6 : (!ltAt lt ys j (j - 1)) = false := hc6
                simp only [Bool.not_eq_false'] at hc6
                have hja : a < j := by
                  rcases Nat.lt_or_ge a j with h | h
                  · exact h
                  · exfalso
                    have e : j = a := by omega
                    subst e
                    have := (hpre.sw hb hsw) (by omega) j (by omega) (by omega)
                    rw [this] at hc6; cases hc6
                refine wp_swap ok j (j - 1) rfl (by dsimp only; rw [w64 (by omega) (by omega)]; omega) (by omega) (by omega) hs fun w' hs => ?_
                refine wp_lw (y := ((j - 1 : Nat) : Int)) (by dsimp only; rw [w64 (by omega) (by omega)]; omega) ?_
                refine wp_leave ⟨(((j - 1 : Nat) : Int), ()), j - 1, by omega, rfl, j - 1, _, rfl, by omega, by omega, rfl, .step hsw (by omega) (by omega) (by omega) (by omega), fun p q p1 p2 p3 p4 => ?_, hs⟩
                rw [ltAt_swap (by omega) (by omega)]
                unfold tr
                by_cases q1 : q = j
                · subst q1
                  rw [if_pos rfl]
                  by_cases q2 : p = q - 1
                  · subst q2
                    rw [if_neg (by omega), if_pos rfl]
                    exact lo.asymmAt hc6
                  · rw [if_neg (by omega), if_neg q2]
                    exact hso p (q - 1) p1 (by omega) (by omega) (by omega)
                · rw [if_neg q1, if_neg p4]
                  by_cases q2 : p = j
                  · subst q2
                    rw [if_pos rfl]
                    exact hso (p - 1) q (by omega) (by omega) p3 q1
                  · rw [if_neg q2]
                    by_cases q3 : p = j - 1
                    · subst q3
                      rw [if_pos rfl]
                      exact hso j q (by omega) (by omega) p3 q1
                    · rw [if_neg q3]; exact hso p q p1 p2 p3 q1
            · have hc5 : ¬ (j : Int) ≥ 1 := of_decide_eq_false hc5
              refine wp_pass ?_
              exact wp_leave ⟨(), rfl, ys, hsw, fun p q h1 h2 h3 => hso p q h1 h2 h3 (by omega), hs⟩
          · have hc4 : ¬ IntKind.wrap .i64 ((i : Int) - a) ≥ 2 := of_decide_eq_false hc4
            rw [w64 (by omega) (by omega)] at hc4
            exact wp_leave ⟨(), rfl, ys, hsw2, fun p q h1 h2 h3 => by omega, hs⟩
        · clear hs hbut hyl hsw2 hsw
          rintro _ w ⟨ys, hsw, hso, hs⟩
          refine wp_mid (fun v w' => ∃ ys, Sw a b xs ys ∧ SortedR lt ys a i ∧ Sat w' (I.arr d ys :: l)) ?_ ?_
          · refine wp_ite (fun hc4 => ?_) fun hc4 => ?_
            · refine wp_lw (y := ((i + 1 : Nat) : Int)) (by dsimp only; rw [w64 (by omega) (by omega)]; omega) ?_
              refine wp_mid (fun v w' => ∃ ys, Sw a b xs ys ∧ SortedR lt ys a i ∧ Sat w' (I.arr d ys :: l)) ?_ (fun _ w' h => wp_leave ⟨(), rfl, h⟩)
              refine wp_loop (fun n v w => ∃ (j : Nat) (ys : List I.E), v = ((j : Int), ()) ∧ i + 1 ≤ j ∧ j ≤ b ∧ b - j = n ∧ Sw a b xs ys ∧ SortedR lt ys a i ∧ Sat w (I.arr d ys :: l)) (b - (i + 1)) ⟨i + 1, ys, rfl, by omega, by omega, rfl, hsw, hso, hs⟩ ?_
              clear hs hso hsw
              rintro n _ w ⟨j, ys, rfl, hj, hji, hn, hsw, hso, hs⟩
              have hyl := hsw.length
              refine wp_ite (fun hc5 => ?_) fun hc5 => ?_
              · have hc5 : (j : Int) < b := of_decide_eq_true hc5
                refine wp_plain ok j (j - 1) rfl (by dsimp only; rw [w64 (by omega) (by omega)]; omega) (by omega) (by omega) hs fun w' hs => ?_
                refine wp_ite (fun hc6 => ?_) fun hc6 => ?_
                · refine wp_pass ?_
                  exact wp_leave ⟨(), rfl, ys, hsw, hso, hs⟩
                · refine wp_swap ok j (j - 1) rfl (by dsimp only; rw [w64 (by omega) (by omega)]; omega) (by omega) (by omega) hs fun w' hs => ?_
                  refine wp_lw (y := ((j + 1 : Nat) : Int)) (by dsimp only; rw [w64 (by omega) (by omega)]; omega) ?_
                  refine wp_leave ⟨(((j + 1 : Nat) : Int), ()), b - (j + 1), by omega, rfl, j + 1, _, rfl, by omega, by omega, rfl, .step hsw (by omega) (by omega) (by omega) (by omega), fun p q p1 p2 p3 => ?_, hs⟩
                  rw [ltAt_swap (by omega) (by omega)]
                  unfold tr
                  rw [if_neg (by omega), if_neg (by omega), if_neg (by omega), if_neg (by omega)]
                  exact hso p q p1 p2 p3
              · refine wp_pass ?_
                exact wp_leave ⟨(), rfl, ys, hsw, hso, hs⟩
            · exact wp_leave ⟨(), rfl, ys, hsw, hso, hs⟩
          · clear hs hso hsw
            rintro _ w ⟨ys, hsw, hso, hs⟩
            exact wp_leave ⟨((i : Int), ()), rfl, i, ys, rfl, hi, hib, hsw, hso, hs⟩
    · clear hs hso hib hi hsw
      rintro _ w ⟨i, ys, rfl, hi, hib, hsw, hso, hs⟩
      refine wp_lw (y := ((c + 1 : Nat) : Int)) (by dsimp only; rw [w64 (by omega) (by omega)]; omega) ?_
      exact wp_leave ⟨((i : Int), ((c + 1 : Nat) : Int), ()), 5 - (c + 1), by omega, rfl, i, c + 1, ys, rfl, hi, hib, by omega, rfl, hsw, hso, hs⟩
  · refine wp_pass ?_
    exact wp_leave ⟨(), rfl, ys, hsw, hs⟩
end
end Go.Dec
namespace Go.Dec
set_option linter.unusedVariables false
set_option linter.unusedSimpArgs false
/-- What is known of the sort's helpers. -/
structure SortI.Ok2 (P : Program) (I : SortI) : Prop where
  one : One P I.ti
  zer : Zer P I.ti (.int .i64 0)
  xone : One P I.xs
  xzer : Zer P I.xs (.int .u64 0)
  next : ∀ {b : Nat} {u : Int} {w : World} {l : List HP}, Sat w (pt b (.cells #[.int .u64 u] I.xs) :: l) → Ret P I.fNext #[.pointer (some ⟨b, 0, none⟩)] w fun vs w' => ∃ v u', vs = [.int .u64 v] ∧ Sat w' (pt b (.cells #[.int .u64 u'] I.xs) :: l)
  pow : ∀ {n : Nat} {w : World} {l : List HP}, 8 ≤ n → n < 1152921504606846976 → Sat w l → Ret P I.fPow #[.int .i64 n] w fun vs w' => ∃ m : Nat, vs = [.int .u64 m] ∧ 1 ≤ m ∧ m ≤ 2 * n ∧ Sat w' l
section
variable {P : Program} {I : SortI} {lt : I.E → I.E → Bool} {w : World} {l : List HP} {Q : Post} {d : Sl} {xs ys : List I.E}
abbrev SortI.ctr (I : SortI) (c : Nat) (n : Int) : HP := pt c (.cells #[.int .i64 n] I.ti)
theorem ord2_c (ok : I.Ok P lt) (im : I.Impl P) (ok2 : I.Ok2 P) (a b c : Nat) (n : Int) (ha : a < xs.length) (hb : b < xs.length) (h63 : xs.length < 2305843009213693952) (hs : Sat w (I.arr d xs :: I.ctr c n :: l)) :
    Ret P I.f_ord2 ([d.v, .int .i64 a, .int .i64 b, .pointer (some ⟨c, 0, none⟩)] ++ I.ex).toArray w fun vs w' => ∃ (x y : Nat) (n : Int), vs = [.int .i64 x, .int .i64 y] ∧ ((x = a ∧ y = b) ∨ (x = b ∧ y = a)) ∧ Sat w' (I.arr d xs :: I.ctr c n :: l) := im.ord2 <| by
  haveI := ok2.one
  unfold SortI.ord2
  refine wp_plain ok b a rfl rfl hb ha hs fun w' hs => ?_
  refine wp_ite (fun hc => ?_) fun hc => ?_
  · refine wp_ex (⟨c, 0, none⟩, ()) rfl ?_
    refine wp_ld (x := n) hs rfl ?_
    refine wp_ex (⟨c, 0, none⟩, ()) rfl ?_
    refine wp_st1 hs rfl rfl rfl fun w' hs => ⟨trivial, ?_⟩
    refine wp_lt (wp_lt ?_)
    exact ⟨rfl, b, a, _, rfl, .inr ⟨rfl, rfl⟩, (hs.focS d)⟩
  · refine wp_lt (wp_lt ?_)
    exact ⟨rfl, a, b, n, rfl, .inl ⟨rfl, rfl⟩, hs⟩
theorem med_c (ok : I.Ok P lt) (im : I.Impl P) (ok2 : I.Ok2 P) (a b e c : Nat) (n : Int) (ha : a < xs.length) (hb : b < xs.length) (he : e < xs.length) (h63 : xs.length < 2305843009213693952) (hs : Sat w (I.arr d xs :: I.ctr c n :: l)) :
    Ret P I.f_med ([d.v, .int .i64 a, .int .i64 b, .int .i64 e, .pointer (some ⟨c, 0, none⟩)] ++ I.ex).toArray w fun vs w' => ∃ (x : Nat) (n : Int), vs = [.int .i64 x] ∧ (x = a ∨ x = b ∨ x = e) ∧ Sat w' (I.arr d xs :: I.ctr c n :: l) := im.med <| by
  unfold SortI.med
  refine wp_call (ord2_c ok im ok2 a b c n ha hb h63 hs) fun vs w' h => ?_
  obtain ⟨x, y, n, rfl, h1, hs⟩ := h
  refine ⟨((x : Int), (y : Int), ()), rfl, trivial, wp_lt (wp_lt ?_)⟩
  refine wp_call (ord2_c ok im ok2 y e c n (by omega) he h63 hs) fun vs w' h => ?_
  obtain ⟨x2, y2, n, rfl, h2, hs⟩ := h
  refine ⟨((x2 : Int), (y2 : Int), ()), rfl, trivial, wp_lt (wp_lt ?_)⟩
  refine wp_call (ord2_c ok im ok2 x x2 c n (by omega) (by omega) h63 hs) fun vs w' h => ?_
  obtain ⟨x3, y3, n, rfl, h3, hs⟩ := h
  refine ⟨((x3 : Int), (y3 : Int), ()), rfl, trivial, wp_lt (wp_lt (wp_lt ?_))⟩
  exact ⟨rfl, y3, n, rfl, by omega, hs⟩
theorem medj_c (ok : I.Ok P lt) (im : I.Impl P) (ok2 : I.Ok2 P) (a c : Nat) (n : Int) (h0 : 1 ≤ a) (ha : a + 1 < xs.length) (h63 : xs.length < 2305843009213693952) (hs : Sat w (I.arr d xs :: I.ctr c n :: l)) :
    Ret P I.f_medj ([d.v, .int .i64 a, .pointer (some ⟨c, 0, none⟩)] ++ I.ex).toArray w fun vs w' => ∃ (x : Nat) (n : Int), vs = [.int .i64 x] ∧ a - 1 ≤ x ∧ x ≤ a + 1 ∧ Sat w' (I.arr d xs :: I.ctr c n :: l) := im.medj <| by
  unfold SortI.medj
  have e1 : IntKind.wrap .i64 ((a : Int) - 1) = ((a - 1 : Nat) : Int) := by rw [w64 (by omega) (by omega)]; omega
  have e2 : IntKind.wrap .i64 ((a : Int) + 1) = ((a + 1 : Nat) : Int) := by rw [w64 (by omega) (by omega)]; omega
  rw [e1, e2]
  refine wp_call (med_c ok im ok2 (a - 1) a (a + 1) c n (by omega) (by omega) (by omega) h63 hs) fun vs w' h => ?_
  obtain ⟨x, n, rfl, h1, hs⟩ := h
  refine ⟨((x : Int), ()), rfl, trivial, wp_lt ?_⟩
  exact ⟨rfl, x, n, rfl, by omega, by omega, hs⟩
theorem piv_c (ok : I.Ok P lt) (im : I.Impl P) (ok2 : I.Ok2 P) (a b : Nat) (hab : a + 8 ≤ b) (hb : b ≤ xs.length) (h63 : xs.length < 1152921504606846976) (hs : Sat w (I.arr d xs :: l)) :
    Ret P I.f_piv ([d.v, .int .i64 a, .int .i64 b] ++ I.ex).toArray w fun vs w' => ∃ (x : Nat) (h : Int), vs = [.int .i64 x, .int .i64 h] ∧ a ≤ x ∧ x < b ∧ Sat w' (I.arr d xs :: l) := im.piv <| by
  haveI := ok2.one
  haveI := ok2.zer
  unfold SortI.piv
  obtain ⟨n, rfl⟩ : ∃ n, b = a + n := ⟨b - a, by omega⟩
  refine wp_lw (y := (n : Int)) (by rw [w64 (by omega) (by omega)]; omega) ?_
  refine wp_newZ hs fun c w' hs => ⟨trivial, ?_⟩
  have hs : Sat w' (I.arr d xs :: I.ctr c 0 :: l) := hs.focS d
  have e4 : Int.tdiv (n : Int) 4 = ((n / 4 : Nat) : Int) := by rw [Int.tdiv_eq_ediv_of_nonneg (by omega)]; omega
  have e0 : IntKind.wrap .i64 (Int.tdiv (n : Int) 4) = ((n / 4 : Nat) : Int) := by rw [e4, w64 (by omega) (by omega)]
  refine wp_lw (y := ((a + n / 4 : Nat) : Int)) (by rw [e0, w64 (x := _ * _) (by omega) (by omega), w64 (by omega) (by omega)]; omega) ?_
  refine wp_lw (y := ((a + n / 4 * 2 : Nat) : Int)) (by rw [e0, w64 (x := _ * _) (by omega) (by omega), w64 (by omega) (by omega)]; omega) ?_
  refine wp_lw (y := ((a + n / 4 * 3 : Nat) : Int)) (by rw [e0, w64 (x := _ * _) (by omega) (by omega), w64 (by omega) (by omega)]; omega) ?_
  refine wp_mid (fun v w' => ∃ (x : Nat) (m : Int), v = ((x : Int), ()) ∧ a ≤ x ∧ x < a + n ∧ Sat w' (I.arr d xs :: I.ctr c m :: l)) ?_ ?_
  · refine wp_ite (fun hc => ?_) fun hc => ?_
    · refine wp_mid (fun v w' => ∃ (x y z : Nat) (m : Int), v = ((x : Int), (y : Int), (z : Int), ()) ∧ a ≤ x ∧ x < a + n ∧ a ≤ y ∧ y < a + n ∧ a ≤ z ∧ z < a + n ∧ Sat w' (I.arr d xs :: I.ctr c m :: l)) ?_ ?_
      · refine wp_ite (fun hc => ?_) fun hc => ?_
        · have hc : (n : Int) ≥ 50 := of_decide_eq_true hc
          refine wp_call (medj_c ok im ok2 (a + n / 4) c _ (by omega) (by omega) (by omega) hs) fun vs w' h => ?_
          obtain ⟨x, m, rfl, h1, h2, hs⟩ := h
          refine ⟨((x : Int), ()), rfl, trivial, wp_lt ?_⟩
          refine wp_call (medj_c ok im ok2 (a + n / 4 * 2) c _ (by omega) (by omega) (by omega) hs) fun vs w' h => ?_
          obtain ⟨y, m, rfl, h3, h4, hs⟩ := h
          refine ⟨((y : Int), ()), rfl, trivial, wp_lt ?_⟩
          refine wp_call (medj_c ok im ok2 (a + n / 4 * 3) c _ (by omega) (by omega) (by omega) hs) fun vs w' h => ?_
          obtain ⟨z, m, rfl, h5, h6, hs⟩ := h
          refine ⟨((z : Int), ()), rfl, trivial, wp_lt ?_⟩
          exact wp_leave ⟨((x : Int), (y : Int), (z : Int), ()), rfl, x, y, z, m, rfl, by omega, by omega, by omega, by omega, by omega, by omega, hs⟩
        · exact wp_leave ⟨(((a + n / 4 : Nat) : Int), ((a + n / 4 * 2 : Nat) : Int), ((a + n / 4 * 3 : Nat) : Int), ()), rfl, a + n / 4, a + n / 4 * 2, a + n / 4 * 3, _, rfl, by omega, by omega, by omega, by omega, by omega, by omega, hs⟩
      · rintro _ w' ⟨x, y, z, m, rfl, h1, h2, h3, h4, h5, h6, hs⟩
        refine wp_call (med_c ok im ok2 x y z c m (by omega) (by omega) (by omega) (by omega) hs) fun vs w' h => ?_
        obtain ⟨r, m, rfl, h7, hs⟩ := h
        refine ⟨((r : Int), ()), rfl, trivial, wp_lt ?_⟩
        exact wp_leave ⟨((r : Int), ()), rfl, r, m, rfl, by omega, by omega, hs⟩
    · exact wp_leave ⟨(((a + n / 4 * 2 : Nat) : Int), ()), rfl, a + n / 4 * 2, _, rfl, by omega, by omega, hs⟩
  · rintro _ w' ⟨x, m, rfl, h1, h2, hs⟩
    refine wp_ld (x := m) hs rfl ?_
    refine wp_lt ?_
    refine wp_ite (fun hc => ?_) fun hc => ?_
    · exact wp_lt ⟨rfl, x, _, rfl, h1, h2, (hs.focB c).tail⟩
    · refine wp_lt ?_
      refine wp_ite (fun hc => ?_) fun hc => ?_
      · exact wp_lt ⟨rfl, x, _, rfl, h1, h2, (hs.focB c).tail⟩
      · exact wp_lt ⟨rfl, x, _, rfl, h1, h2, (hs.focB c).tail⟩
theorem and_lt {x : Int} {m : Nat} (hm : 1 ≤ m) (hm2 : m ≤ 2305843009213693952) : IntKind.wrap .i64 (IntKind.wrap .u64 (((BitVec.toNat (BitVec.ofInt 64 x &&& BitVec.ofInt 64 (IntKind.wrap .u64 ((m : Int) - 1))) : Nat) : Int))) = (((BitVec.toNat (BitVec.ofInt 64 x &&& BitVec.ofInt 64 (IntKind.wrap .u64 ((m : Int) - 1))) : Nat) : Int)) ∧
    (BitVec.toNat (BitVec.ofInt 64 x &&& BitVec.ofInt 64 (IntKind.wrap .u64 ((m : Int) - 1)))) < m := by
  have hu : ∀ z : Int, IntKind.wrap .u64 z = z % 18446744073709551616 := fun z => by simp [IntKind.wrap, IntKind.bits, IntKind.signed]
  have h1 : IntKind.wrap .u64 ((m : Int) - 1) = ((m - 1 : Nat) : Int) := by rw [hu]; omega
  rw [h1]
  have h2 : (BitVec.toNat (BitVec.ofInt 64 x &&& BitVec.ofInt 64 ((m - 1 : Nat) : Int))) < m := by
    rw [BitVec.toNat_and]
    have : (BitVec.ofInt 64 ((m - 1 : Nat) : Int)).toNat = m - 1 := by rw [BitVec.toNat_ofInt]; omega
    rw [this]
    have := Nat.and_le_right (n := (BitVec.ofInt 64 x).toNat) (m := m - 1)
    omega
  refine ⟨?_, h2⟩
  generalize (BitVec.toNat (BitVec.ofInt 64 x &&& BitVec.ofInt 64 ((m - 1 : Nat) : Int))) = r at *
  rw [hu, w64 (by omega) (by omega)]; omega
theorem brk_c (ok : I.Ok P lt) (im : I.Impl P) (ok2 : I.Ok2 P) (a b : Nat) (hab : a ≤ b) (hb : b ≤ xs.length) (h63 : xs.length < 576460752303423488) (hs : Sat w (I.arr d xs :: l)) :
    Ret P I.f_brk ([d.v, .int .i64 a, .int .i64 b] ++ I.ex).toArray w fun vs w' => vs = [] ∧ ∃ ys, Sw a b xs ys ∧ Sat w' (I.arr d ys :: l) := im.brk <| by
  haveI := ok2.xone
  haveI := ok2.xzer
  unfold SortI.brk
  obtain ⟨n, rfl⟩ : ∃ n, b = a + n := ⟨b - a, by omega⟩
  refine wp_lw (y := (n : Int)) (by rw [w64 (by omega) (by omega)]; omega) ?_
  refine wp_mid (fun v w' => ∃ ys, Sw a (a + n) xs ys ∧ Sat w' (I.arr d ys :: l)) ?_ (fun _ w' h => ⟨rfl, rfl, h⟩)
  refine wp_ite (fun hc => ?_) fun hc => ?_
  · have hc : (n : Int) ≥ 8 := of_decide_eq_true hc
    refine wp_newZ hs fun c w' hs => ⟨trivial, ?_⟩
    refine wp_st1 hs rfl rfl rfl fun w' hs => ⟨trivial, ?_⟩
    refine wp_call (ok2.pow (n := n) (by omega) (by omega) hs) fun vs w' h => ?_
    obtain ⟨m, rfl, hm1, hm2, hs⟩ := h
    refine ⟨((m : Int), ()), rfl, trivial, wp_lt ?_⟩
    have e4 : Int.tdiv (n : Int) 4 = ((n / 4 : Nat) : Int) := by rw [Int.tdiv_eq_ediv_of_nonneg (by omega)]; omega
    have e0 : IntKind.wrap .i64 ((a : Int) + IntKind.wrap .i64 (IntKind.wrap .i64 (Int.tdiv n 4) * 2)) = ((a + n / 4 * 2 : Nat) : Int) := by
      rw [e4, w64 (x := ((n / 4 : Nat) : Int)) (by omega) (by omega), w64 (x := _ * _) (by omega) (by omega), w64 (by omega) (by omega)]; omega
    rw [e0]
    refine wp_lw (y := ((a + n / 4 * 2 - 1 : Nat) : Int)) (by rw [w64 (by omega) (by omega)]; omega) ?_
    have e1 : IntKind.wrap .i64 (((a + n / 4 * 2 : Nat) : Int) + 1) = ((a + n / 4 * 2 + 1 : Nat) : Int) := by rw [w64 (by omega) (by omega)]; omega
    rw [e1]
    refine wp_mid (fun v w' => ∃ ys, Sw a (a + n) xs ys ∧ Sat w' (I.arr d ys :: l)) ?_ (fun _ w' h => wp_leave ⟨(), rfl, h⟩)
    have hs : ∃ u, Sat w' (pt c (.cells #[.int .u64 u] I.xs) :: I.arr d xs :: l) := ⟨_, hs⟩
    obtain ⟨u, hs⟩ := hs
    refine wp_loop (fun k v w => ∃ (i : Nat) (u : Int) (ys : List I.E), v = ((i : Int), ()) ∧ a + n / 4 * 2 - 1 ≤ i ∧ i ≤ a + n / 4 * 2 + 2 ∧ a + n / 4 * 2 + 2 - i = k ∧ Sw a (a + n) xs ys ∧ Sat w (pt c (.cells #[.int .u64 u] I.xs) :: I.arr d ys :: l)) 3 ⟨a + n / 4 * 2 - 1, u, xs, rfl, by omega, by omega, by omega, .refl _, hs⟩ ?_
    clear hs
    rintro k _ w ⟨i, u, ys, rfl, hi1, hi2, hk, hsw, hs⟩
    have hyl := hsw.length
    refine wp_ite (fun hc2 => ?_) fun hc2 => ?_
    · have hc2 : (i : Int) ≤ ((a + n / 4 * 2 + 1 : Nat) : Int) := of_decide_eq_true hc2
      refine wp_call (ok2.next hs) fun vs w' h => ?_
      obtain ⟨v, u', rfl, hs⟩ := h
      refine ⟨(v, ()), rfl, trivial, ?_⟩
      obtain ⟨ea, el⟩ := and_lt (x := v) hm1 (by omega)
      refine wp_lw ea ?_
      generalize BitVec.toNat (BitVec.ofInt 64 v &&& BitVec.ofInt 64 (IntKind.wrap .u64 ((m : Int) - 1))) = r at *
      refine wp_mid (fun v w' => ∃ q : Nat, v = ((q : Int), ()) ∧ q < n ∧ Sat w' (pt c (.cells #[.int .u64 u'] I.xs) :: I.arr d ys :: l)) ?_ ?_
      · refine wp_ite (fun hc3 => ?_) fun hc3 => ?_
        · have hc3 : (r : Int) ≥ n := of_decide_eq_true hc3
          refine wp_lw (y := ((r - n : Nat) : Int)) (by rw [w64 (by omega) (by omega)]; omega) ?_
          exact wp_leave ⟨(((r - n : Nat) : Int), ()), rfl, r - n, rfl, by omega, hs⟩
        · have hc3 : ¬ (r : Int) ≥ n := of_decide_eq_false hc3
          exact wp_leave ⟨((r : Int), ()), rfl, r, rfl, by omega, hs⟩
      · rintro _ w' ⟨q, rfl, hq, hs⟩
        have hs := hs.focS d
        refine wp_swap ok i (a + q) rfl (by dsimp only; rw [w64 (by omega) (by omega)]; omega) (by omega) (by omega) hs fun w' hs => ?_
        refine wp_lw (y := ((i + 1 : Nat) : Int)) (by dsimp only; rw [w64 (by omega) (by omega)]; omega) ?_
        exact wp_leave ⟨(((i + 1 : Nat) : Int), ()), a + n / 4 * 2 + 2 - (i + 1), by omega, rfl, i + 1, u', _, rfl, by omega, by omega, rfl, .step hsw (by omega) (by omega) (by omega) (by omega), hs.focB c⟩
    · refine wp_pass ?_
      exact wp_leave ⟨(), rfl, ys, hsw, (hs.focS d).perm (List.Perm.swap _ _ _) |>.tail⟩
  · exact wp_leave ⟨(), rfl, xs, .refl _, hs⟩
end
end Go.Dec
namespace Go.Dec
set_option linter.unusedVariables false
set_option linter.unusedSimpArgs false
section
variable {P : Program} {I : SortI} {lt : I.E → I.E → Bool} {w : World} {l : List HP} {Q : Post} {d : Sl} {xs ys zs us : List I.E}
theorem ltAt_out {a b p q : Nat} (h : Sw a b xs ys) (hp : p < a ∨ b ≤ p) (hq : q < a ∨ b ≤ q) : ltAt lt ys p q = ltAt lt xs p q := by
  unfold ltAt; rw [h.out hp, h.out hq]
theorem SortedR.out {a b c e : Nat} (h : SortedR lt xs c e) (hs : Sw a b xs ys) (hd : e ≤ a ∨ b ≤ c) : SortedR lt ys c e := fun p q h1 h2 h3 => by
  rw [ltAt_out hs (by omega) (by omega)]; exact h p q h1 h2 h3
def PartQ (lt : I.E → I.E → Bool) (vs : List I.E) (a b m : Nat) : Prop := (∀ k, a ≤ k → k < m → ltAt lt vs m k = false) ∧ (∀ k, m < k → k < b → ltAt lt vs k m = false)
theorem PartQ.left {a b m : Nat} (h : PartQ lt xs a b m) (hm : m ≤ xs.length) (hs : Sw a m xs ys) : PartQ lt ys a b m :=
  ⟨hs.outer' hm (.inr (by omega)) h.1, fun k h1 h2 => by rw [ltAt_out hs (by omega) (by omega)]; exact h.2 k h1 h2⟩
theorem PartQ.right {a b m : Nat} (h : PartQ lt xs a b m) (hb : b ≤ xs.length) (hs : Sw (m + 1) b xs ys) : PartQ lt ys a b m :=
  ⟨fun k h1 h2 => by rw [ltAt_out hs (by omega) (by omega)]; exact h.1 k h1 h2, fun k h1 h2 => hs.outer hb (.inl (by omega)) (fun k k1 k2 => h.2 k (by omega) k2) k (by omega) h2⟩
theorem sorted_parts (lo : LtOk lt) {a b m : Nat} (hm : m < xs.length) (h : PartQ lt xs a b m) (h1 : SortedR lt xs a m) (h2 : SortedR lt xs (m + 1) b) : SortedR lt xs a b := by
  intro p q hp hpq hq
  by_cases c1 : q < m
  · exact h1 p q hp hpq c1
  by_cases c2 : m < p
  · exact h2 p q (by omega) hpq hq
  by_cases c3 : q = m
  · subst c3; exact h.1 p hp hpq
  by_cases c4 : p = m
  · subst c4; exact h.2 q hpq hq
  exact lo.transAt hm (h.2 q (by omega) hq) (h.1 p hp (by omega))
/-- Where the sort of [a, b) stands while it works on [c, e). -/
structure Stand (lt : I.E → I.E → Bool) (xs : List I.E) (a b : Nat) (ys : List I.E) (c e : Nat) : Prop where
  h1 : a ≤ c
  h2 : c ≤ e
  h3 : e ≤ b
  sw : Sw a b xs ys
  pre : Pre lt ys c e
  fin : ∀ zs, Sw c e ys zs → SortedR lt zs c e → SortedR lt zs a b
theorem Stand.step {a b c e : Nat} (h : Stand lt xs a b ys c e) (hb : b ≤ xs.length) (hs : Sw c e ys zs) : Stand lt xs a b zs c e :=
  ⟨h.h1, h.h2, h.h3, h.sw.trans (hs.mono h.h1 h.h3), h.pre.sw (by rw [h.sw.length]; have := h.h3; omega) hs, fun us h1 h2 => h.fin us (hs.trans h1) h2⟩
theorem Stand.end {a b c e : Nat} (h : Stand lt xs a b ys c e) (hs : Sw c e ys zs) (hso : SortedR lt zs c e) : Sw a b xs zs ∧ SortedR lt zs a b :=
  ⟨h.sw.trans (hs.mono h.h1 h.h3), h.fin zs hs hso⟩
theorem Stand.equals (lo : LtOk lt) {a b c e p m : Nat} (h : Stand lt xs a b ys c e) (hb : b ≤ xs.length) (hc : 0 < c) (hp : ltAt lt ys (c - 1) p = false) (hs : Sw c e ys zs) (he : zs[c]? = ys[p]?) (h1 : c < m) (h2 : m ≤ e)
    (h3 : ∀ k, c + 1 ≤ k → k < m → ltAt lt zs c k = false) (h4 : ∀ k, m ≤ k → k < e → ltAt lt zs c k = true) : Stand lt xs a b zs m e := by
  have hst := h.step hb hs
  obtain ⟨g1, g2, g3, gsw, gpre, gfin⟩ := hst
  have hl := gsw.length
  have h3' : ∀ k, c ≤ k → k < m → ltAt lt zs c k = false := fun k k1 k2 => if hk : k = c then by subst hk; exact lo.irrefl _ else h3 k (by omega) k2
  have h4' : ∀ k, m ≤ k → k < e → ltAt lt zs k c = false := fun k k1 k2 => lo.asymmAt (h4 k k1 k2)
  have hcc : ltAt lt zs (c - 1) c = false := by
    unfold ltAt at *
    rw [hs.out (k := c - 1) (by omega), he]; exact hp
  have hkp : ∀ k p, m ≤ k → k < e → c ≤ p → p < m → ltAt lt zs k p = false := fun k p k1 k2 p1 p2 => lo.transAt (q := c) (by omega) (h4' k k1 k2) (h3' p p1 p2)
  refine ⟨by omega, h2, g3, gsw, fun _ k k1 k2 => hkp k (m - 1) k1 k2 (by omega) (by omega), fun us hu hso => gfin us (hu.mono (by omega) (Nat.le_refl _)) fun p q p1 p2 p3 => ?_⟩
  by_cases c1 : q < m
  · rw [ltAt_out hu (by omega) (by omega)]
    exact lo.transAt (q := c - 1) (by omega) (gpre hc q (by omega) (by omega)) (lo.transAt (q := c) (by omega) hcc (h3' p p1 (by omega)))
  by_cases c2 : p < m
  · exact hu.outer (by omega) (.inl c2) (fun k k1 k2 => hkp k p k1 k2 p1 c2) q (by omega) p3
  · exact hso p q (by omega) p2 p3
theorem pdq_c (ok : I.Ok P lt) (im : I.Impl P) (ok2 : I.Ok2 P) (lo : LtOk lt) (x0 : I.E) : ∀ (N a b : Nat) (lim : Int) {w : World} {l : List HP} {d : Sl} {xs : List I.E}, b - a ≤ N → a ≤ b → b ≤ xs.length → xs.length < 576460752303423488 → Pre lt xs a b → Sat w (I.arr d xs :: l) →
    Ret P I.f_pdq ([d.v, .int .i64 a, .int .i64 b, .int .i64 lim] ++ I.ex).toArray w fun vs w' => vs = [] ∧ ∃ ys, Sw a b xs ys ∧ SortedR lt ys a b ∧ Sat w' (I.arr d ys :: l) := by
  intro N
  induction N using Nat.strongRecOn with
  | _ N ih =>
  intro a b lim w l d xs hN hab hb h63 hpre hs
  refine im.pdq ?_
  unfold SortI.pdq
  refine wp_loop (fun n v w => ∃ (c e : Nat) (lim : Int) (wb wp : Bool) (ys : List I.E), v = ((c : Int), (e : Int), lim, wb, wp, ()) ∧ e - c = n ∧ Stand lt xs a b ys c e ∧ Sat w (I.arr d ys :: l)) (b - a) ⟨a, b, lim, true, true, xs, rfl, rfl, ⟨by omega, hab, by omega, .refl _, hpre, fun _ _ h => h⟩, hs⟩ ?_
  clear hs
  rintro n _ w ⟨c, e, lim, wb, wp, ys, rfl, hn, hst, hs⟩
  have hce := hst.h2
  have heb := hst.h3
  have hac := hst.h1
  have hyl := hst.sw.length
  refine wp_mid (fun v w' => ∃ (c' e' : Nat) (lim : Int) (wb wp : Bool) (ys : List I.E), v = ((c' : Int), (e' : Int), lim, wb, wp, ()) ∧ e' - c' < e - c ∧ Stand lt xs a b ys c' e' ∧ Sat w' (I.arr d ys :: l)) ?_ (by
    rintro _ w' ⟨c', e', lim, wb, wp, ys, rfl, hlt, hst, hs⟩
    exact wp_leave ⟨((c' : Int), (e' : Int), lim, wb, wp, ()), e' - c', by omega, rfl, c', e', lim, wb, wp, ys, rfl, rfl, hst, hs⟩)
  refine wp_lw (y := ((e - c : Nat) : Int)) (by dsimp only; rw [w64 (by omega) (by omega)]; omega) ?_
  refine wp_ite (fun hc => ?_) fun hc => ?_
  · refine wp_call (im.ins (ins_c ok lo x0 c e hce (by omega) (by omega) hs)) fun vs w' h => ?_
    obtain ⟨rfl, zs, hsw, hso, hs⟩ := h
    refine ⟨(), rfl, trivial, ?_⟩
    refine wp_pass ?_
    refine wp_pass ?_
    exact ⟨rfl, rfl, zs, (hst.end hsw hso).1, (hst.end hsw hso).2, hs⟩
  have hc : ¬ ((e - c : Nat) : Int) ≤ 12 := of_decide_eq_false hc
  refine wp_ite (fun hc2 => ?_) fun hc2 => ?_
  · refine wp_callS () (heap_c ok im lo x0 c e hce (by omega) (by omega) hs) rfl fun w' h => ?_
    obtain ⟨zs, hsw, hso, hs⟩ := h
    refine ⟨trivial, ?_⟩
    refine wp_pass ?_
    refine wp_pass ?_
    exact ⟨rfl, rfl, zs, (hst.end hsw hso).1, (hst.end hsw hso).2, hs⟩
  refine wp_mid (fun v w' => ∃ (lim : Int) (ys : List I.E), v = (lim, ()) ∧ Stand lt xs a b ys c e ∧ Sat w' (I.arr d ys :: l)) ?_ ?_
  · refine wp_ite (fun hc3 => ?_) fun hc3 => ?_
    · refine wp_callS () (brk_c ok im ok2 c e hce (by omega) (by omega) hs) rfl fun w' h => ?_
      obtain ⟨zs, hsw, hs⟩ := h
      refine ⟨trivial, wp_lt ?_⟩
      exact wp_leave ⟨(_, ()), rfl, _, zs, rfl, hst.step hb hsw, hs⟩
    · exact wp_leave ⟨(lim, ()), rfl, lim, ys, rfl, hst, hs⟩
  clear hs hst hyl
  rintro _ w ⟨lim, ys, rfl, hst, hs⟩
  have hyl := hst.sw.length
  refine wp_call (piv_c ok im ok2 c e (by omega) (by omega) (by omega) hs) fun vs w' h => ?_
  obtain ⟨x, hint, rfl, hx1, hx2, hs⟩ := h
  refine ⟨((x : Int), hint, ()), rfl, trivial, wp_lt (wp_lt ?_)⟩
  refine wp_mid (fun v w' => ∃ (x : Nat) (hint : Int) (ys : List I.E), v = ((x : Int), hint, ()) ∧ c ≤ x ∧ x < e ∧ Stand lt xs a b ys c e ∧ Sat w' (I.arr d ys :: l)) ?_ ?_
  · refine wp_ite (fun hc3 => ?_) fun hc3 => ?_
    · refine wp_callS () (rev_c ok im x0 c e (by omega) (by omega) (by omega) hs) rfl fun w' h => ?_
      obtain ⟨zs, hsw, hs⟩ := h
      refine ⟨trivial, ?_⟩
      refine wp_lw (y := ((e - 1 - (x - c) : Nat) : Int)) (by dsimp only; rw [w64 (x := (e : Int) - 1) (by omega) (by omega), w64 (x := (x : Int) - c) (by omega) (by omega), w64 (by omega) (by omega)]; omega) ?_
      exact wp_leave ⟨(((e - 1 - (x - c) : Nat) : Int), 1, ()), rfl, _, _, zs, rfl, by omega, by omega, hst.step hb hsw, hs⟩
    · exact wp_leave ⟨((x : Int), hint, ()), rfl, x, hint, ys, rfl, hx1, hx2, hst, hs⟩
  clear hs hst hyl hx1 hx2
  rintro _ w ⟨x, hint, ys, rfl, hx1, hx2, hst, hs⟩
  have hyl := hst.sw.length
  refine wp_mid (fun v w' => ∃ (ys : List I.E), Stand lt xs a b ys c e ∧ Sat w' (I.arr d ys :: l)) ?_ ?_
  · refine wp_ite (fun hc3 => ?_) fun hc3 => ?_
    · refine wp_call (pins_c ok im lo x0 c e (by omega) (by omega) (by omega) hst.pre hs) fun vs w' h => ?_
      obtain ⟨q, zs, rfl, hsw, hso, hs⟩ := h
      refine ⟨(q, ()), rfl, trivial, ?_⟩
      refine wp_ite (fun hc4 => ?_) fun hc4 => ?_
      · have hso := hso hc4
        refine wp_pass ?_
        refine wp_pass ?_
        refine wp_pass ?_
        exact ⟨rfl, rfl, zs, (hst.end hsw hso).1, (hst.end hsw hso).2, hs⟩
      · exact wp_leave ⟨(), rfl, zs, hst.step hb hsw, hs⟩
    · exact wp_leave ⟨(), rfl, ys, hst, hs⟩
  clear hs hst hyl
  rintro _ w ⟨ys, hst, hs⟩
  have hyl := hst.sw.length
  refine wp_gcmp ok (f := not) (c - 1) x (fun h => ⟨by have h : (c : Int) > 0 := of_decide_eq_true h; dsimp only; rw [w64 (by omega) (by omega)]; omega, by omega⟩) (fun h => ⟨rfl, by omega⟩) x0 hs fun w' hs => ?_
  refine wp_ite (fun hc3 => ?_) fun hc3 => ?_
  · have hc3 : (decide ((c : Int) > 0) && !ltAt lt ys (c - 1) x) = true := hc3
    simp only [Bool.and_eq_true, decide_eq_true_eq, Bool.not_eq_true'] at hc3
    refine wp_call (peq_c ok im x0 c e x hx1 hx2 (by omega) (by omega) hs) fun vs w' h => ?_
    obtain ⟨m, zs, rfl, hsw, he, h1, h2, h3, h4, hs⟩ := h
    refine ⟨((m : Int), ()), rfl, trivial, wp_lt (wp_lt ?_)⟩
    exact wp_leave ⟨((m : Int), (e : Int), lim, wb, wp, ()), rfl, m, e, lim, wb, wp, zs, rfl, by omega, hst.equals lo hb (by omega) hc3.2 hsw he h1 h2 h3 h4, hs⟩
  · refine wp_call (part_c ok im x0 c e x hx1 hx2 (by omega) (by omega) hs) fun vs w' h => ?_
    obtain ⟨m, q, zs, rfl, hsw, ⟨h1, h2, h3, h4⟩, hs⟩ := h
    have hst2 := hst.step hb hsw
    have hzl := hst2.sw.length
    have hPQ : PartQ lt zs c e m := ⟨fun k k1 k2 => lo.asymmAt (h3 k k1 k2), h4⟩
    refine ⟨((m : Int), q, ()), rfl, trivial, wp_lt (wp_lt (wp_lt ?_))⟩
    refine wp_lw (y := ((m - c : Nat) : Int)) (by dsimp only; rw [w64 (by omega) (by omega)]; omega) ?_
    refine wp_lw (y := ((e - m : Nat) : Int)) (by dsimp only; rw [w64 (by omega) (by omega)]; omega) ?_
    refine wp_lt ?_
    refine wp_mid (fun v w' => ∃ (c' e' : Nat) (bb : Bool) (us : List I.E), v = ((c' : Int), (e' : Int), bb, ()) ∧ e' - c' < e - c ∧ Stand lt xs a b us c' e' ∧ Sat w' (I.arr d us :: l)) ?_ ?_
    · refine wp_ite (fun hc5 => ?_) fun hc5 => ?_
      · refine wp_lt ?_
        refine wp_callS () (ih (m - c) (by omega) c m lim (Nat.le_refl _) h1 (by omega) (by omega) (fun h0 k k1 k2 => hst2.pre h0 k k1 (by omega)) hs) rfl fun w' h => ?_
        obtain ⟨us, husw, huso, hs⟩ := h
        have hul := husw.length
        refine ⟨trivial, ?_⟩
        refine wp_lw (y := ((m + 1 : Nat) : Int)) (by dsimp only; rw [w64 (by omega) (by omega)]; omega) ?_
        refine wp_leave ⟨(((m + 1 : Nat) : Int), (e : Int), _, ()), rfl, m + 1, e, _, us, rfl, by omega, ⟨by omega, by omega, heb, hst2.sw.trans (husw.mono (by omega) (by omega)), fun _ k k1 k2 => ?_, fun vs hv hvs => ?_⟩, hs⟩
        · rw [ltAt_out husw (by omega) (by omega)]; exact h4 k (by omega) k2
        · refine hst2.fin vs ((husw.mono (by omega) (by omega)).trans (hv.mono (by omega) (by omega))) ?_
          have hQ1 := hPQ.left (by omega) husw
          have hQ2 := hQ1.right (by omega) hv
          exact sorted_parts lo (by rw [hv.length]; omega) hQ2 (huso.out hv (by omega)) hvs
      · refine wp_lt ?_
        have em : IntKind.wrap .i64 ((m : Int) + 1) = ((m + 1 : Nat) : Int) := by rw [w64 (by omega) (by omega)]; omega
        rw [em]
        refine wp_callS () (ih (e - (m + 1)) (by omega) (m + 1) e lim (Nat.le_refl _) (by omega) (by omega) (by omega) (fun _ k k1 k2 => h4 k (by omega) k2) hs) rfl fun w' h => ?_
        obtain ⟨us, husw, huso, hs⟩ := h
        have hul := husw.length
        refine ⟨trivial, wp_lt ?_⟩
        refine wp_leave ⟨((c : Int), (m : Int), decide (((e - m : Nat) : Int) ≥ IntKind.wrap .i64 (Int.tdiv ((e - c : Nat) : Int) 8)), ()), rfl, c, m, _, us, rfl, by omega, ⟨by omega, by omega, by omega, hst2.sw.trans (husw.mono (by omega) (by omega)), fun h0 k k1 k2 => ?_, fun vs hv hvs => ?_⟩, hs⟩
        · rw [ltAt_out husw (by omega) (by omega)]; exact hst2.pre h0 k k1 (by omega)
        · refine hst2.fin vs ((husw.mono (by omega) (by omega)).trans (hv.mono (by omega) (by omega))) ?_
          have hQ1 := hPQ.right (by omega) husw
          have hQ2 := hQ1.left (by omega) hv
          exact sorted_parts lo (by rw [hv.length]; omega) hQ2 hvs (huso.out hv (by omega))
    · rintro _ w' ⟨c', e', bb, us, rfl, hlt, hst3, hs⟩
      exact wp_leave ⟨((c' : Int), (e' : Int), lim, bb, q, ()), rfl, c', e', lim, bb, q, us, rfl, hlt, hst3, hs⟩
/-- All of a slice, sorted. -/
theorem pdq_all (ok : I.Ok P lt) (im : I.Impl P) (ok2 : I.Ok2 P) (lo : LtOk lt) (x0 : I.E) (lim : Int) (h63 : xs.length < 576460752303423488) (hs : Sat w (I.arr d xs :: l)) :
    Ret P I.f_pdq ([d.v, .int .i64 0, .int .i64 xs.length, .int .i64 lim] ++ I.ex).toArray w fun vs w' => vs = [] ∧ ∃ ys, ys.Perm xs ∧ ys.Pairwise (fun x y => lt y x = false) ∧ Sat w' (I.arr d ys :: l) := by
  refine Calls.mono (pdq_c ok im ok2 lo x0 xs.length 0 xs.length lim (by omega) (by omega) (Nat.le_refl _) h63 (fun h => absurd h (by omega)) hs) fun e w' ⟨vs, he, hv, ys, hsw, hso, hs⟩ => ⟨vs, he, hv, ys, hsw.perm, ?_, hs⟩
  rw [List.pairwise_iff_getElem]
  intro i j hi hj hij
  have hl := hsw.length
  have := hso i j (by omega) hij (by omega)
  unfold ltAt at this
  rwa [List.getElem?_eq_getElem hi, List.getElem?_eq_getElem hj] at this
end
end Go.Dec
namespace Go.Dec
set_option linter.unusedVariables false
set_option linter.unusedSimpArgs false
set_option maxRecDepth 4000
def lenTbl : ByteArray := ByteArray.mk #[0, 1, 2, 2, 3, 3, 3, 3, 4, 4, 4, 4, 4, 4, 4, 4, 5, 5, 5, 5, 5, 5, 5, 5, 5, 5, 5, 5, 5, 5, 5, 5, 6, 6, 6, 6, 6, 6, 6, 6, 6, 6, 6, 6, 6, 6, 6, 6, 6, 6, 6, 6, 6, 6, 6, 6, 6, 6, 6, 6, 6, 6, 6, 6, 7, 7, 7, 7, 7, 7, 7, 7, 7, 7, 7, 7, 7, 7, 7, 7, 7, 7, 7, 7, 7, 7, 7, 7, 7, 7, 7, 7, 7, 7, 7, 7, 7, 7, 7, 7, 7, 7, 7, 7, 7, 7, 7, 7, 7, 7, 7, 7, 7, 7, 7, 7, 7, 7, 7, 7, 7, 7, 7, 7, 7, 7, 7, 7, 8, 8, 8, 8, 8, 8, 8, 8, 8, 8, 8, 8, 8, 8, 8, 8, 8, 8, 8, 8, 8, 8, 8, 8, 8, 8, 8, 8, 8, 8, 8, 8, 8, 8, 8, 8, 8, 8, 8, 8, 8, 8, 8, 8, 8, 8, 8, 8, 8, 8, 8, 8, 8, 8, 8, 8, 8, 8, 8, 8, 8, 8, 8, 8, 8, 8, 8, 8, 8, 8, 8, 8, 8, 8, 8, 8, 8, 8, 8, 8, 8, 8, 8, 8, 8, 8, 8, 8, 8, 8, 8, 8, 8, 8, 8, 8, 8, 8, 8, 8, 8, 8, 8, 8, 8, 8, 8, 8, 8, 8, 8, 8, 8, 8, 8, 8, 8, 8, 8, 8, 8, 8, 8, 8, 8, 8, 8, 8]
theorem lenTbl_get : ∀ i : Fin 256, ∃ k : Nat, bt lenTbl (i.val : Int) = k ∧ k ≤ 8 ∧ (1 ≤ i.val → 2 ^ k ≤ 2 * i.val) := by
  have h : ∀ i : Fin 256, 0 ≤ bt lenTbl (i.val : Int) ∧ (bt lenTbl (i.val : Int)).toNat ≤ 8 ∧ (1 ≤ i.val → 2 ^ (bt lenTbl (i.val : Int)).toNat ≤ 2 * i.val) := by decide
  intro i
  obtain ⟨h1, h2, h3⟩ := h i
  exact ⟨(bt lenTbl (i.val : Int)).toNat, by omega, h2, h3⟩
theorem wrapu (x : Int) : IntKind.wrap .u64 x = x % 18446744073709551616 := by simp [IntKind.wrap, IntKind.bits, IntKind.signed]
theorem wrapu8 (x : Int) : IntKind.wrap .u8 x = x % 256 := by simp [IntKind.wrap, IntKind.bits, IntKind.signed]
section
variable {w : World} {l : List HP}
/-- One step: x is shifted while it is great. -/
structure LenS (n x s B : Nat) : Prop where
  h1 : x * 2 ^ s ≤ n
  h2 : 1 ≤ x
  h3 : x < B
  h4 : s ≤ 64
theorem LenS.shift {n x s : Nat} (a b : Nat) (h : LenS n x s (2 ^ (a + b))) (hx : 2 ^ a ≤ x) (hs : s + a ≤ 64) : LenS n (x / 2 ^ a) (s + a) (2 ^ b) := by
  obtain ⟨h1, h2, h3, h4⟩ := h
  have hp : 0 < 2 ^ a := Nat.two_pow_pos a
  refine ⟨?_, Nat.div_pos hx hp, ?_, hs⟩
  · rw [Nat.pow_add, ← Nat.mul_assoc, Nat.mul_right_comm]
    exact Nat.le_trans (Nat.mul_le_mul_right _ (Nat.div_mul_le_self x (2 ^ a))) h1
  · rw [Nat.div_lt_iff_lt_mul hp, Nat.mul_comm, ← Nat.pow_add]; exact h3
theorem len64_c (n : Nat) (h0 : 1 ≤ n) (h1 : n < 18446744073709551616) (hs : Sat w l) : Ret P F.math_bits_Len64 #[.int .u64 n] w fun vs w' => (∃ k : Nat, vs = [.int .i64 k] ∧ k ≤ 64 ∧ 2 ^ k ≤ 2 * n) ∧ Sat w' l :=
  math_bits_Len64_calls n <| by
    unfold math_bits_Len64
    refine wp_mid (fun v w' => (∃ x s : Nat, v = ((x : Int), (s : Int), ()) ∧ LenS n x s (2 ^ 32) ∧ s ≤ 32) ∧ Sat w' l) ?_ ?_
    · refine wp_ite (fun hc => ?_) fun hc => ?_
      · have hc : (n : Int) ≥ 4294967296 := of_decide_eq_true hc
        refine wp_lw (y := ((n / 2 ^ 32 : Nat) : Int)) (by rw [Int.fdiv_eq_ediv_of_nonneg _ (by omega)]; omega) ?_
        exact wp_leave ⟨(((n / 2 ^ 32 : Nat) : Int), ((32 : Nat) : Int), ()), rfl, ⟨_, 32, rfl, by have := LenS.shift (n := n) (x := n) (s := 0) 32 32 ⟨by omega, h0, by omega, by omega⟩ (by omega) (by omega); simpa using this, by omega⟩, hs⟩
      · have hc : ¬ (n : Int) ≥ 4294967296 := of_decide_eq_false hc
        exact wp_leave ⟨((n : Int), ((0 : Nat) : Int), ()), rfl, ⟨n, 0, rfl, ⟨by omega, h0, by omega, by omega⟩, by omega⟩, hs⟩
    rintro _ w ⟨⟨x, s, rfl, hx, hs1⟩, hs⟩
    refine wp_mid (fun v w' => (∃ x s : Nat, v = ((x : Int), (s : Int), ()) ∧ LenS n x s (2 ^ 16) ∧ s ≤ 48) ∧ Sat w' l) ?_ ?_
    · refine wp_ite (fun hc => ?_) fun hc => ?_
      · have hc : (x : Int) ≥ 65536 := of_decide_eq_true hc
        refine wp_lw (y := ((x / 2 ^ 16 : Nat) : Int)) (by dsimp only; rw [Int.fdiv_eq_ediv_of_nonneg _ (by omega)]; omega) ?_
        refine wp_lw (y := ((s + 16 : Nat) : Int)) (by dsimp only; rw [w64 (by omega) (by omega)]; omega) ?_
        exact wp_leave ⟨(((x / 2 ^ 16 : Nat) : Int), ((s + 16 : Nat) : Int), ()), rfl, ⟨_, _, rfl, LenS.shift 16 16 hx (by omega) (by omega), by omega⟩, hs⟩
      · have hc : ¬ (x : Int) ≥ 65536 := of_decide_eq_false hc
        exact wp_leave ⟨((x : Int), (s : Int), ()), rfl, ⟨x, s, rfl, ⟨hx.h1, hx.h2, by omega, hx.h4⟩, by omega⟩, hs⟩
    clear hs hx hs1
    rintro _ w ⟨⟨x, s, rfl, hx, hs1⟩, hs⟩
    refine wp_mid (fun v w' => (∃ x s : Nat, v = ((x : Int), (s : Int), ()) ∧ LenS n x s (2 ^ 8) ∧ s ≤ 56) ∧ Sat w' l) ?_ ?_
    · refine wp_ite (fun hc => ?_) fun hc => ?_
      · have hc : (x : Int) ≥ 256 := of_decide_eq_true hc
        refine wp_lw (y := ((x / 2 ^ 8 : Nat) : Int)) (by dsimp only; rw [Int.fdiv_eq_ediv_of_nonneg _ (by omega)]; omega) ?_
        refine wp_lw (y := ((s + 8 : Nat) : Int)) (by dsimp only; rw [w64 (by omega) (by omega)]; omega) ?_
        exact wp_leave ⟨(((x / 2 ^ 8 : Nat) : Int), ((s + 8 : Nat) : Int), ()), rfl, ⟨_, _, rfl, LenS.shift 8 8 hx (by omega) (by omega), by omega⟩, hs⟩
      · have hc : ¬ (x : Int) ≥ 256 := of_decide_eq_false hc
        exact wp_leave ⟨((x : Int), (s : Int), ()), rfl, ⟨x, s, rfl, ⟨hx.h1, hx.h2, by omega, hx.h4⟩, by omega⟩, hs⟩
    clear hs hx hs1
    rintro _ w ⟨⟨x, s, rfl, hx, hs1⟩, hs⟩
    have hx3 := hx.h3
    have e : IntKind.wrap .u8 (x : Int) = x := by rw [wrapu8]; omega
    have e' : IntKind.wrap .u8 ((x : Int), (s : Int), ()).1 = x := e
    obtain ⟨k, hk1, hk2, hk3⟩ := lenTbl_get ⟨x, by omega⟩
    refine wp_must (by rw [e']; omega) ?_
    refine wp_lw (y := ((s + k : Nat) : Int)) ?_ ?_
    · show IntKind.wrap .i64 ((s : Int) + IntKind.wrap .i64 (bt lenTbl (IntKind.wrap .u8 (x : Int)))) = _
      rw [e, hk1, w64 (x := (k : Int)) (by omega) (by omega), w64 (by omega) (by omega)]; omega
    · refine ⟨rfl, ⟨s + k, rfl, by omega, ?_⟩, hs⟩
      have h5 := hk3 hx.h2
      have h6 := hx.h1
      rw [Nat.pow_add]
      calc 2 ^ s * 2 ^ k ≤ 2 ^ s * (2 * x) := Nat.mul_le_mul_left _ h5
        _ = 2 * (x * 2 ^ s) := by rw [Nat.mul_comm (2 ^ s), Nat.mul_assoc]
        _ ≤ 2 * n := by omega
theorem len_c (n : Nat) (h0 : 1 ≤ n) (h1 : n < 18446744073709551616) (hs : Sat w l) : Ret P F.math_bits_Len #[.int .u64 n] w fun vs w' => (∃ k : Nat, vs = [.int .i64 k] ∧ k ≤ 64 ∧ 2 ^ k ≤ 2 * n) ∧ Sat w' l :=
  math_bits_Len_calls n <| by
    unfold math_bits_Len
    refine wp_call (len64_c n h0 h1 hs) fun vs w' ⟨⟨k, hv, h2, h3⟩, hs⟩ => ?_
    subst hv
    exact ⟨((k : Int), ()), rfl, trivial, rfl, ⟨k, rfl, h2, h3⟩, hs⟩
theorem len0_c (hs : Sat w l) : Ret P F.math_bits_Len #[.int .u64 0] w fun vs w' => vs = [.int .i64 0] ∧ Sat w' l :=
  math_bits_Len_calls 0 <| by
    unfold math_bits_Len
    refine wp_callS (0, ()) (vs₀ := [.int .i64 0]) (R := fun w' => Sat w' l) ?_ rfl fun w' hs => ⟨trivial, rfl, rfl, hs⟩
    refine math_bits_Len64_calls 0 ?_
    unfold math_bits_Len64
    refine wp_mid (fun v w' => v = (0, 0, ()) ∧ Sat w' l) (wp_ite_f rfl (wp_leave ⟨(0, 0, ()), rfl, rfl, hs⟩)) ?_
    rintro _ w ⟨rfl, hs⟩
    refine wp_mid (fun v w' => v = (0, 0, ()) ∧ Sat w' l) (wp_ite_f rfl (wp_leave ⟨(0, 0, ()), rfl, rfl, hs⟩)) ?_
    clear hs
    rintro _ w ⟨rfl, hs⟩
    refine wp_mid (fun v w' => v = (0, 0, ()) ∧ Sat w' l) (wp_ite_f rfl (wp_leave ⟨(0, 0, ()), rfl, rfl, hs⟩)) ?_
    clear hs
    rintro _ w ⟨rfl, hs⟩
    refine wp_must (by decide) (wp_lw (y := 0) ?_ ⟨rfl, rfl, hs⟩)
    show IntKind.wrap .i64 (0 + IntKind.wrap .i64 (bt lenTbl (IntKind.wrap .u8 0))) = 0
    decide
theorem pow_c (n : Nat) (h0 : 8 ≤ n) (h1 : n < 1152921504606846976) (hs : Sat w l) : Ret P F.slices_nextPowerOfTwo #[.int .i64 n] w fun vs w' => ∃ m : Nat, vs = [.int .u64 m] ∧ 1 ≤ m ∧ m ≤ 2 * n ∧ Sat w' l :=
  slices_nextPowerOfTwo_calls n <| by
    unfold slices_nextPowerOfTwo
    have e : IntKind.wrap .u64 (n : Int) = n := by rw [wrapu]; omega
    rw [e]
    refine wp_call (len_c n (by omega) (by omega) hs) fun vs w' ⟨⟨k, hv, h2, h3⟩, hs⟩ => ?_
    subst hv
    refine ⟨((k : Int), ()), rfl, trivial, wp_must (by dsimp only; omega) ?_⟩
    have hp := Nat.two_pow_pos k
    refine wp_lw (y := ((2 ^ k : Nat) : Int)) ?_ ?_
    · show IntKind.wrap .u64 (1 * 2 ^ min (Int.toNat (k : Int)) 64) = _
      rw [Int.toNat_natCast, Nat.min_eq_left h2, Int.one_mul]
      have : ((2 : Int) ^ k) = ((2 ^ k : Nat) : Int) := by simp
      rw [this]
      generalize 2 ^ k = p at *
      rw [wrapu]; omega
    · exact ⟨rfl, 2 ^ k, rfl, hp, h3, hs⟩
theorem next_c {b : Nat} {u : Int} (hs : Sat w (pt b (.cells #[.int .u64 u] T.slices_xorshift) :: l)) : Ret P F.slices_xorshift_Next #[.pointer (some ⟨b, 0, none⟩)] w fun vs w' => ∃ v u', vs = [.int .u64 v] ∧ Sat w' (pt b (.cells #[.int .u64 u'] T.slices_xorshift) :: l) :=
  slices_xorshift_Next_calls (some ⟨b, 0, none⟩) <| by
    unfold slices_xorshift_Next
    have step : ∀ {w : World} {u : Int} {Q : Post} {k : Prog} {f : Int → Int → Int}, Sat w (pt b (.cells #[.int .u64 u] T.slices_xorshift) :: l) → (∀ w' u', Sat w' (pt b (.cells #[.int .u64 u'] T.slices_xorshift) :: l) → k.wp P tt w' Q) →
        (Prog.tick <| .ex [.adr] (c1 fun a => some (Addr.mk b 0 none) = some a) (u1 fun a1 => .read True (ld T.slices_xorshift a1) (sI .u64) (u1 fun (n2 : Int) => .ex [.adr] (c1 fun a => some (Addr.mk b 0 none) = some a) (u1 fun a4 => .read True (ld T.slices_xorshift a4) (sI .u64) (u1 fun (n5 : Int) =>
          .ex [.adr] (c1 fun a => some (Addr.mk b 0 none) = some a) (u1 fun a7 => .actU (st T.slices_xorshift a7 (.int .u64 (f n2 n5))) <| .untick k)))))).wp P tt w Q := fun hs h => by
      refine wp_tick fun w2 hw => ?_
      have hs := hs.heap hw
      refine wp_ex (⟨b, 0, none⟩, ()) rfl ?_
      refine wp_ld hs rfl ?_
      refine wp_ex (⟨b, 0, none⟩, ()) rfl ?_
      refine wp_ld hs rfl ?_
      refine wp_ex (⟨b, 0, none⟩, ()) rfl ?_
      refine wp_st1 hs rfl rfl rfl fun w' hs => ⟨trivial, ?_⟩
      exact wp_untick (h w' _ hs)
    refine step (f := fun n2 n5 => IntKind.wrap .u64 (((BitVec.toNat (BitVec.ofInt 64 n2 ^^^ BitVec.ofInt 64 (IntKind.wrap .u64 (n5 * 8192))) : Nat) : Int))) hs fun w' u' hs => ?_
    refine step (f := fun n2 n5 => IntKind.wrap .u64 (((BitVec.toNat (BitVec.ofInt 64 n2 ^^^ BitVec.ofInt 64 (Int.fdiv n5 128)) : Nat) : Int))) hs fun w' u' hs => ?_
    refine step (f := fun n2 n5 => IntKind.wrap .u64 (((BitVec.toNat (BitVec.ofInt 64 n2 ^^^ BitVec.ofInt 64 (IntKind.wrap .u64 (n5 * 131072))) : Nat) : Int))) hs fun w' u' hs => ?_
    refine wp_ex (⟨b, 0, none⟩, ()) rfl ?_
    refine wp_ld hs rfl ?_
    exact wp_lt ⟨rfl, _, _, rfl, hs⟩
end
end Go.Dec
namespace Go.Dec
set_option linter.unusedVariables false
set_option linter.unusedSimpArgs false
def sortStr : SortI where
  T := T.string
  s := .one .str
  sz := 1
  less := fun x y k => .call F.cmp_Less_string [.string x.1, .string y.1] sB (u1 k)
  ex := []
  xs := T.slices_xorshift
  ti := T.int
  fNext := F.slices_xorshift_Next
  fPow := F.slices_nextPowerOfTwo
  f_sift := F.slices_siftDownOrdered_string
  f_heap := F.slices_heapSortOrdered_string
  f_ins := F.slices_insertionSortOrdered_string
  f_brk := F.slices_breakPatternsOrdered_string
  f_rev := F.slices_reverseRangeOrdered_string
  f_pins := F.slices_partialInsertionSortOrdered_string
  f_peq := F.slices_partitionEqualOrdered_string
  f_part := F.slices_partitionOrdered_string
  f_ord2 := F.slices_order2Ordered_string
  f_med := F.slices_medianOrdered_string
  f_medj := F.slices_medianAdjacentOrdered_string
  f_piv := F.slices_choosePivotOrdered_string
  f_pdq := F.slices_pdqsortOrdered_string
theorem sortStr_impl : sortStr.Impl P where
  sift h := slices_siftDownOrdered_string_calls _ _ _ _ h
  heap h := slices_heapSortOrdered_string_calls _ _ _ h
  ins h := slices_insertionSortOrdered_string_calls _ _ _ h
  brk h := slices_breakPatternsOrdered_string_calls _ _ _ h
  rev h := slices_reverseRangeOrdered_string_calls _ _ _ h
  pins h := slices_partialInsertionSortOrdered_string_calls _ _ _ h
  peq h := slices_partitionEqualOrdered_string_calls _ _ _ _ h
  part h := slices_partitionOrdered_string_calls _ _ _ _ h
  ord2 h := slices_order2Ordered_string_calls _ _ _ _ h
  med h := slices_medianOrdered_string_calls _ _ _ _ _ h
  medj h := slices_medianAdjacentOrdered_string_calls _ _ _ h
  piv h := slices_choosePivotOrdered_string_calls _ _ _ h
  pdq h := slices_pdqsortOrdered_string_calls _ _ _ _ h
theorem sortStr_ok2 : sortStr.Ok2 P where
  one := inferInstanceAs (One P T.int)
  zer := inferInstanceAs (Zer P T.int _)
  xone := inferInstanceAs (One P T.slices_xorshift)
  xzer := inferInstanceAs (Zer P T.slices_xorshift _)
  next h := next_c h
  pow h1 h2 h := pow_c _ h1 h2 h
theorem less_string_c {w : World} {l : List HP} (x y : ByteArray) (hs : Sat w l) : Ret P F.cmp_Less_string #[.string x, .string y] w fun vs w' => vs = [.bool (Op.bytesLess (ByteArray.toList x) (ByteArray.toList y))] ∧ Sat w' l :=
  cmp_Less_string_calls x y <| by
    unfold cmp_Less_string
    refine wp_mid (fun v w' => v = (Op.bytesLess (ByteArray.toList x) (ByteArray.toList y), ()) ∧ Sat w' l) ?_ (by rintro _ w' ⟨rfl, hs⟩; exact ⟨rfl, rfl, hs⟩)
    refine wp_callS (false, ()) (cmp_isNaN_string_calls x (R := fun vs w' => vs = [.bool false] ∧ Sat w' l) ?_) rfl fun w' hs => ⟨trivial, ?_⟩
    · refine ⟨rfl, ?_, hs⟩
      rw [show (ByteArray.toList x == ByteArray.toList x) = true from beq_self_eq_true _]; rfl
    · exact wp_ite_f rfl (wp_lt (wp_leave ⟨(_, ()), rfl, rfl, hs⟩))
def toEs (s : ByteArray) : sortStr.E := (s, ())
def ofEs (e : sortStr.E) : ByteArray := e.1
theorem flat_toEs : ∀ xs : List ByteArray, (xs.map toEs).flatMap sortStr.enc = xs.flatMap encT
  | [] => rfl
  | x :: r => by rw [List.map_cons, List.flatMap_cons, List.flatMap_cons, flat_toEs r]; rfl
theorem flat_ofEs : ∀ xs : List sortStr.E, (xs.map ofEs).flatMap encT = xs.flatMap sortStr.enc
  | [] => rfl
  | x :: r => by rw [List.map_cons, List.flatMap_cons, List.flatMap_cons, flat_ofEs r]; rfl
theorem of_toEs (xs : List ByteArray) : (xs.map toEs).map ofEs = xs := by rw [List.map_map]; exact List.map_id xs
def ltE (x y : sortStr.E) : Bool := Op.bytesLess (ByteArray.toList (ofEs x)) (ByteArray.toList (ofEs y))
theorem sortStr_ok : sortStr.Ok P ltE where
  pos := by decide
  enc _ := rfl
  ld w A x h := by
    exact At.ld1 (T := T.string) h rfl
  size := (inferInstance : One P T.string).ok.2
  cells _ := rfl
  one x := by intro u hu; obtain rfl := List.mem_singleton.1 hu; rfl
  less hs h := wp_callS (_, ()) (less_string_c _ _ hs) rfl fun w' hs => ⟨trivial, h w' hs⟩
section
variable {w : World} {l : List HP}
theorem sort_string_c (x : Sl) (xs : List ByteArray) (hlt : LtOk ltE) (h63 : xs.length < 576460752303423488) (hs : Sat w (slc T.string 1 x (xs.flatMap encT) :: l)) :
    Ret P F.slices_Sort_s_string_string #[x.v] w fun vs w' => vs = [] ∧ ∃ ys : List ByteArray, ys.Perm xs ∧ ys.Pairwise (fun a b => Op.bytesLess (ByteArray.toList b) (ByteArray.toList a) = false) ∧ Sat w' (slc T.string 1 x (ys.flatMap encT) :: l) :=
  slices_Sort_s_string_string_calls x <| by
    unfold slices_Sort_s_string_string
    have hl : x.len = xs.length := hs.rd.len (enc := encT) (fun _ => rfl) (by decide)
    refine wp_lt ?_
    rw [hl]
    have hs : Sat w (sortStr.arr x (xs.map toEs) :: l) := by
      refine hs.imp fun p hp => ?_
      rw [SortI.arr, flat_toEs]; exact hp
    have hfin : ∀ {w' : World}, (∃ ys, ys.Perm (xs.map toEs) ∧ ys.Pairwise (fun x y => ltE y x = false) ∧ Sat w' (sortStr.arr x ys :: l)) → ∃ ys : List ByteArray, ys.Perm xs ∧ ys.Pairwise (fun a b => Op.bytesLess (ByteArray.toList b) (ByteArray.toList a) = false) ∧ Sat w' (slc T.string 1 x (ys.flatMap encT) :: l) := by
      rintro w' ⟨ys, hp, hso, hs⟩
      refine ⟨ys.map ofEs, ?_, ?_, ?_⟩
      · have := hp.map ofEs
        rwa [of_toEs] at this
      · rw [List.pairwise_map]
        exact hso
      · refine hs.imp fun p hp => ?_
        rw [flat_ofEs]; exact hp
    have hlen : Ret P F.math_bits_Len #[.int .u64 (IntKind.wrap .u64 (xs.length : Int))] w fun vs w' => (∃ k : Int, vs = [.int .i64 k]) ∧ Sat w' (sortStr.arr x (xs.map toEs) :: l) := by
      by_cases h0 : xs.length = 0
      · rw [h0]
        exact Calls.mono (len0_c hs) fun e w' ⟨vs, he, hv, hs⟩ => ⟨vs, he, ⟨0, hv⟩, hs⟩
      · have e : IntKind.wrap .u64 (xs.length : Int) = xs.length := by rw [wrapu]; omega
        rw [e]
        exact Calls.mono (len_c xs.length (by omega) (by omega) hs) fun e w' ⟨vs, he, ⟨k, hv, _, _⟩, hs⟩ => ⟨vs, he, ⟨k, hv⟩, hs⟩
    refine wp_call hlen fun vs w' ⟨⟨k, hv⟩, hs⟩ => ?_
    subst hv
    refine ⟨(k, ()), rfl, trivial, ?_⟩
    have := pdq_all sortStr_ok sortStr_impl sortStr_ok2 hlt (toEs ⟨#[]⟩) k (by rw [List.length_map]; exact h63) hs
    rw [List.length_map] at this
    refine wp_callS () this rfl fun w' h => ⟨trivial, rfl, rfl, hfin h⟩
end
end Go.Dec
namespace Go.Dec
open Go.Proofs Go.Proofs.YtfnldnodhfkojaaGreat
set_option linter.unusedVariables false
set_option linter.unusedSimpArgs false
/-- The names that begin so, rising. -/
def namesF (p : ByteArray) (fs : List FileA) : List ByteArray := (fs.map (·.name)).filter (preF p)
def restr (W : World) (X : Nat → Bool) : PH := ⟨fun b => if X b then W.heap[b]? else none, World.env' W⟩
section
variable {w W : World} {l : List HP} {X : Nat → Bool}
theorem satR_old (hs : Sat w l) (hB : RowKit.Below w.heap.size w W) : satL l (restr W fun b => decide (b < w.heap.size)) := by
  refine satL_sub ⟨fun b o h => ?_, ?_⟩ hs
  · have h : w.heap[b]? = some o := h
    have hlt : b < w.heap.size := (Array.getElem?_eq_some_iff.1 h).1
    show (if decide (b < w.heap.size) = true then W.heap[b]? else none) = some o
    rw [if_pos (decide_eq_true hlt), hB.block b hlt, h]
  · show World.env' w = World.env' W
    unfold World.env'
    rw [hB.os, hB.output]
theorem satR_new {b : Nat} {o : Obj} (hs : satL l (restr W X)) (hX : X b = false) (hb : W.heap[b]? = some o) : satL (pt b o :: l) (restr W fun c => X c || decide (c = b)) := by
  refine ⟨⟨fun c => if c = b then some o else none, World.env' W⟩, restr W X, ⟨fun c u h => ?_, rfl⟩, ⟨fun c u h => ?_, rfl⟩, fun c => ?_, by simp [pt], hs⟩
  · simp only at h
    split at h
    · rename_i hc; subst hc
      obtain rfl := Option.some.inj h
      show (if (X c || decide (c = c)) = true then W.heap[c]? else none) = some o
      rw [if_pos (by simp), hb]
    · cases h
  · have h : (if X c = true then W.heap[c]? else none) = some u := h
    split at h
    · rename_i hc
      show (if (X c || decide (c = b)) = true then W.heap[c]? else none) = some u
      rw [if_pos (by rw [hc]; rfl), h]
    · cases h
  · by_cases hc : c = b
    · subst hc; right
      show (if X c = true then W.heap[c]? else none) = none
      rw [if_neg (by rw [hX]; simp)]
    · left; simp [hc]
theorem satR_done (hs : satL l (restr W X)) : Sat W l := by
  refine satL_sub (p := restr W X) ⟨fun b o h => ?_, rfl⟩ hs
  have h : (if X b = true then W.heap[b]? else none) = some o := h
  split at h
  · exact h
  · cases h
end
theorem sorted_unique : ∀ {a b : List ByteArray}, a.Perm b → (a.Pairwise fun x y => ltS y x = false) → (b.Pairwise fun x y => ltS x y = true) → a = b
  | a, [], hp, _, _ => hp.eq_nil
  | [], y :: b, hp, _, _ => absurd hp.symm.eq_nil (by simp)
  | x :: a, y :: b, hp, ha, hb => by
    rw [List.pairwise_cons] at ha hb
    have hxy : x = y := by
      by_cases h : x = y
      · exact h
      · have hx : x ∈ b := (List.mem_cons.1 (hp.mem_iff.1 (List.mem_cons_self ..))).resolve_left h
        have hy : y ∈ a := (List.mem_cons.1 (hp.mem_iff.2 (List.mem_cons_self ..))).resolve_left (fun e => h e.symm)
        have h1 := hb.1 x hx
        rw [ha.1 y hy] at h1; cases h1
    subst hxy
    rw [sorted_unique (List.Perm.cons_inv hp) ha.2 hb.2]
theorem ltE_ok : LtOk ltE where
  asymm {x y} h := ltS_asymm h
  trans {x y z} h1 h2 := by
    have h1 : ltS (ofEs x) (ofEs y) = false := h1
    have h2 : ltS (ofEs y) (ofEs z) = false := h2
    show ltS (ofEs x) (ofEs z) = false
    cases h : ltS (ofEs x) (ofEs z) with
    | false => rfl
    | true =>
      rcases ltS_total (ofEs x) (ofEs y) with h3 | h3 | h3
      · rw [h3] at h1; cases h1
      · rw [← h3, h] at h2; cases h2
      · have := ltS_trans h3 h; rw [this] at h2; cases h2
def bytesOf (x : List UInt8) : ByteArray := ⟨x.toArray⟩
theorem flat_encT (xs : List ByteArray) : xs.flatMap encT = xs.map Value.string := by
  induction xs with
  | nil => rfl
  | cons x r ih => rw [List.flatMap_cons, ih]; rfl
theorem pairwise_names {fs : List FileA} (h : fs.Pairwise fun a b => ltS a.name b.name = true) (p : ByteArray) : (namesF p fs).Pairwise fun x y => ltS x y = true := by
  unfold namesF
  refine List.Pairwise.filter _ ?_
  rw [List.pairwise_map]; exact h
/-- The map's datum, as the kit's contract for its keys wants it. -/
theorem owns_of {w : World} {m : Nat} {es : List (ByteArray × Nat)} {l : List HP} (hs : Sat w (mapP ekS evF m es :: l)) (hlen : es.length ≤ 1000) (hn : ∀ x ∈ es, x.1.size ≤ 24) :
    ∃ D0 : DataW Unit, w.ownsMap Tryz.prog 9 (fun _ => some (.lit (.bool true), [])) m 1000 D0 ∧ Maps.size D0 ≤ 1000 ∧ ((strKeys D0).map bytesOf).Perm (es.map Prod.fst) := by
  obtain ⟨E, c, hm, hs⟩ := hs.mapOpen
  have hsz := hm.size
  obtain ⟨xs, h1, h2, h3, h4, h5⟩ := hm
  have hE : E.size ≤ 1000 := by omega
  have hml : 1000 ≤ maxLen := by decide
  have hkeys : ∀ e ∈ E.toList, ∃ x ∈ xs, e.key = .string x.1 := fun e he => by
    have : (e.key, e.val) ∈ E.toList.map (fun e => (e.key, e.val)) := List.mem_map.2 ⟨e, he, rfl⟩
    rw [h3] at this
    obtain ⟨x, hx, hxe⟩ := List.mem_map.1 this
    exact ⟨x, hx, (Prod.mk.inj hxe).1.symm⟩
  have hrd : ∀ e ∈ E.toList, ∀ s, e.key = .string s → WideElems.rd (H := Unit) Tryz.prog 9 (fun _ => some (.lit (.bool true), [])) e = some (.string s.data.toList, .lit (.bool true)) := fun e he s hk => by
    obtain ⟨x, hx, hxe⟩ := hkeys e he
    rw [hk] at hxe
    obtain rfl : s = x.1 := by cases hxe; rfl
    have h24 := hn x (h1.mem_iff.1 hx)
    have : keyOf Tryz.prog 9 (.string x.1) = some (.string x.1.data.toList) := WideMaps.keyOf_string_mk (by kernel_rfl) (by omega)
    unfold WideElems.rd
    rw [hk, this]; rfl
  refine ⟨.map ((E.toList.map (WideElems.rg Tryz.prog 9 fun _ => some (.lit (.bool true), []))).foldr DataW.insert []), ⟨E, c, hs.get, ⟨by omega, ⟨h5, ?_, ?_⟩, fun e he => ?_⟩, hE, rfl⟩, ?_, ?_⟩
  · rw [List.Nodup, List.pairwise_map]
    exact h4.imp fun h => Nat.ne_of_lt h
  · have hk : E.toList.map (·.key) = xs.map fun x => Value.string x.1 := by
      have := congrArg (List.map Prod.fst) h3
      rw [List.map_map, List.map_map] at this
      exact this
    rw [hk, List.Nodup, List.pairwise_map]
    rw [List.Nodup, List.pairwise_map] at h2
    exact h2.imp fun h e => h (Value.string.inj e)
  · obtain ⟨x, hx, hxe⟩ := hkeys e he
    exact ⟨_, hrd e he x.1 hxe⟩
  · show ((E.toList.map _).foldr DataW.insert []).length ≤ 1000
    rw [length_sorted, List.length_map, Array.length_toList]; exact hE
  · have hp := (WideShapes.sorted_perm (E.toList.map (WideElems.rg (H := Unit) Tryz.prog 9 fun _ => some (.lit (.bool true), [])))).map (fun p : Lit × DataW Unit => bytesOf (Go.strOf p.1))
    have e1 : (strKeys (DataW.map ((E.toList.map (WideElems.rg (H := Unit) Tryz.prog 9 fun _ => some (.lit (.bool true), []))).foldr DataW.insert []))).map bytesOf = ((E.toList.map (WideElems.rg (H := Unit) Tryz.prog 9 fun _ => some (.lit (.bool true), []))).foldr DataW.insert []).map (fun p : Lit × DataW Unit => bytesOf (Go.strOf p.1)) := by
      simp only [strKeys, List.map_map]; rfl
    rw [e1]
    refine hp.trans ?_
    rw [List.map_map]
    have e2 : E.toList.map ((fun p : Lit × DataW Unit => bytesOf (Go.strOf p.1)) ∘ WideElems.rg Tryz.prog 9 fun _ => some (.lit (.bool true), [])) = xs.map Prod.fst := by
      have h6 : E.toList.map (fun e => match e.key with | .string s => s | _ => ⟨#[]⟩) = xs.map Prod.fst := by
        have := congrArg (List.map fun x : Value × Value => match x.1 with | .string s => s | _ => ⟨#[]⟩) h3
        rw [List.map_map, List.map_map] at this
        exact this
      rw [← h6]
      refine List.map_congr_left fun e he => ?_
      obtain ⟨x, hx, hxe⟩ := hkeys e he
      show bytesOf (Go.strOf (WideElems.rg (H := Unit) Tryz.prog 9 (fun _ => some (.lit (.bool true), [])) e).1) = _
      rw [WideElems.rg_of (hrd e he x.1 hxe), hxe]
      show bytesOf x.1.data.toList = x.1
      exact bytes_ext rfl
    rw [e2]
    exact h1.map _
section
variable {w : World} {l r : List HP} {d : Nat} {A : DiskA}
theorem names_c (p : ByteArray) [hf : Fo l dk d A r] (hs : Sat w l) : Ret P F.disk_Disk_Names #[.pointer (some ⟨d, 0, none⟩), .string p] w fun vs w' => ∃ x : Sl, vs = [x.v] ∧ Sat w' (slc T.string 1 x ((namesF p A.fs).flatMap encT) :: dk d A :: r) := by
  have hs0 := hs.perm hf.perm
  obtain ⟨m, FS, hp, hok, hs1⟩ := dk_open hs0
  have hkv : (FS.map fun t => (t.f.name, t.at_)).map Prod.fst = (FS.map FileM.f).map (·.name) := by rw [List.map_map, List.map_map]; rfl
  have hlen : (FS.map fun t => (t.f.name, t.at_)).length ≤ 1000 := by
    have := hp.length_eq; have := hok.many; simp at *; omega
  obtain ⟨D0, hown, hsz, hkeys⟩ := owns_of (hs1.pick [1]) hlen fun x hx => by
    obtain ⟨t, ht, rfl⟩ := List.mem_map.1 hx
    exact hok.names _ (hp.mem_iff.1 (List.mem_map.2 ⟨t, ht, rfl⟩))
  rw [hkv] at hkeys
  have hkeys := hkeys.trans (hp.map (·.name))
  have hb := hs1.get
  have hd : d < w.heap.size := (Array.getElem?_eq_some_iff.1 hb).1
  have hc : w.cell? ⟨d, 4, none⟩ = some (.map (some m)) := by rw [cell_of hb]; rfl
  have hfin := callsIn_wide.1 (names_in (n := 3) (Nat.le_refl _) d m 1000 p w D0 hown hd hc hsz (fun v W => ∃ x : Sl, v = x.v ∧ Sat W (slc T.string 1 x ((namesF p A.fs).flatMap encT) :: dk d A :: r)) ?_)
  · exact Calls.mono hfin fun e w' ⟨v, he, x, hv, hs⟩ => ⟨[x.v], by rw [he, hv]; rfl, x, rfl, hs⟩
  intro D ss v W hD hS hbox hrow hB hK
  have hsR := satR_old hs0 hB
  have hsR := satR_new hsR (b := w.heap.size + 1) (by simp) hbox
  have hDB : D ≠ w.heap.size + 1 := by omega
  have hsR := satR_new hsR (b := D) (by simp; omega) hK
  have hpS : ((posF p ss).map bytesOf).Perm (namesF p A.fs) := by
    have h1 := ((hS.map bytesOf).trans hkeys).filter (preF p)
    rw [List.filter_map] at h1
    exact h1
  have hflat : ((posF p ss).map bytesOf).flatMap encT = (posF p ss).map encStr := by
    rw [flat_encT, List.map_map]; rfl
  have hlen2 : ((posF p ss).map bytesOf).length < 576460752303423488 := by
    rw [hpS.length_eq]
    have h1 : (namesF p A.fs).length ≤ A.fs.length := by unfold namesF; exact Nat.le_trans (List.length_filter_le _ _) (by simp)
    have := hok.many
    omega
  obtain ⟨x, rfl, hsx⟩ : ∃ x : Sl, v = x.v ∧ Sat W (slc T.string 1 x (((posF p ss).map bytesOf).flatMap encT) :: pt D (.deferred (some [])) :: pt (w.heap.size + 1) (.cells #[v] 68) :: dk d A :: r) := by
    rw [hflat]
    obtain ⟨hxl, h | ⟨g, cap, cur, rfl, hg, hgb, hcap, -, hcur, htk⟩⟩ := hrow
    · obtain ⟨rfl, hn0⟩ := h
      have : posF p ss = [] := List.length_eq_zero_iff.1 hn0
      rw [this]
      exact ⟨⟨none, 0, 0⟩, rfl, (satR_done hsR).slc_nil⟩
    · have hgB : g ≠ w.heap.size + 1 := fun e => by
        subst e
        have hbox : W.heap[w.heap.size + 1]? = some (.cells #[_] 68 (0, 0)) := hbox
        rw [hbox] at hgb
        cases hgb
      have hgD : g ≠ D := fun e => by subst e; rw [hK] at hgb; cases hgb
      have hsR := satR_done (satR_new hsR (b := g) (by simp; omega) hgb)
      refine ⟨⟨some ⟨g, 0, none⟩, (posF p ss).length, cap⟩, rfl, hsR.imp fun q hq => .inr ⟨g, 0, cur, (0, 0), rfl, hq, by simp, hcap, by simp [hcur], fun i hi => ?_, unfrozen_zero _ _⟩⟩
      rw [← htk, List.length_take] at hi
      rw [← htk, Nat.zero_add, List.getElem?_take, if_pos (by omega)]
      simp
  refine callsIn_wide.2 (Calls.mono (sort_string_c x _ ltE_ok hlen2 hsx) ?_)
  rintro e w' ⟨vs, rfl, rfl, ys, hys, hso, hs'⟩
  have hB1 := (hs'.pick [2]).get
  have hD1 := (hs'.pick [1]).get
  refine ⟨rfl, by rw [cell_of hB1]; rfl, hD1, x, rfl, ?_⟩
  have hset : Sat (setB w' D (.deferred none)) _ := (hs'.pick [1]).set (o' := .deferred none)
  rw [sorted_unique (hys.trans hpS) hso (pairwise_names hok.sorted p)] at hset
  exact hset.sub
end
end Go.Dec
