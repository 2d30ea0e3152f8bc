/- Disks: what they hold, in plain words, and what memory holds for them. Disks: New, Name, may, spend, Used, Free, Gone, Fuse, Room. Disks: Read, Size, Kept, drop, Remove, Cut, Rename. Disks: drop, Remove, Cut, Rename. Disks: Rename, Append. -/
import Derived.Test.YtnfaklmndojeaaaFns0
import Derived.Test.YtnfaklmndojeaaaTypes
import Derived.Test.YtnfaklmndojeaaaOpsY
namespace Go.Dec
set_option linter.unusedVariables false
set_option linter.unusedSimpArgs false

theorem bytes_ext {a b : ByteArray} (h : a.data.toList = b.data.toList) : a = b := by
  cases a; cases b; exact congrArg ByteArray.mk (Array.ext' h)

/-! ### Order of texts -/
theorem less_irrefl : ∀ x : List UInt8, Op.bytesLess x x = false
  | [] => rfl
  | a :: x => by rw [Op.bytesLess, less_irrefl x]; simp
theorem less_trans : ∀ {x y z : List UInt8}, Op.bytesLess x y = true → Op.bytesLess y z = true → Op.bytesLess x z = true
  | [], _, [], _, h => by cases ‹List UInt8› <;> simp [Op.bytesLess] at h
  | [], _, _ :: _, _, _ => rfl
  | _ :: _, [], _, h, _ => by simp [Op.bytesLess] at h
  | _ :: _, _ :: _, [], _, h => by simp [Op.bytesLess] at h
  | a :: x, b :: y, c :: z, h1, h2 => by
    simp only [Op.bytesLess, Bool.or_eq_true, decide_eq_true_eq, Bool.and_eq_true, beq_iff_eq] at h1 h2 ⊢
    rcases h1 with h1 | ⟨rfl, h1⟩
    · rcases h2 with h2 | ⟨rfl, h2⟩
      · exact .inl (UInt8.lt_trans h1 h2)
      · exact .inl h1
    · rcases h2 with h2 | ⟨rfl, h2⟩
      · exact .inl h2
      · exact .inr ⟨rfl, less_trans h1 h2⟩
theorem less_total : ∀ (x y : List UInt8), Op.bytesLess x y = true ∨ x = y ∨ Op.bytesLess y x = true
  | [], [] => .inr (.inl rfl)
  | [], _ :: _ => .inl rfl
  | _ :: _, [] => .inr (.inr rfl)
  | a :: x, b :: y => by
    simp only [Op.bytesLess, Bool.or_eq_true, decide_eq_true_eq, Bool.and_eq_true, beq_iff_eq, List.cons.injEq]
    rcases Nat.lt_trichotomy a.toNat b.toNat with h | h | h
    · exact .inl (.inl (UInt8.lt_iff_toNat_lt.2 h))
    · have := UInt8.toNat_inj.1 h
      subst this
      rcases less_total x y with h | rfl | h
      · exact .inl (.inr ⟨rfl, h⟩)
      · exact .inr (.inl ⟨rfl, rfl⟩)
      · exact .inr (.inr (.inr ⟨rfl, h⟩))
    · exact .inr (.inr (.inl (UInt8.lt_iff_toNat_lt.2 h)))
/-- A text comes ahead of another. -/
def ltS (a b : ByteArray) : Bool := Op.bytesLess (ByteArray.toList a) (ByteArray.toList b)
theorem ltS_irrefl (a : ByteArray) : ltS a a = false := less_irrefl _
theorem ltS_trans {a b c : ByteArray} (h1 : ltS a b = true) (h2 : ltS b c = true) : ltS a c = true := less_trans h1 h2
theorem ltS_total (a b : ByteArray) : ltS a b = true ∨ a = b ∨ ltS b a = true := by
  rcases less_total (ByteArray.toList a) (ByteArray.toList b) with h | h | h
  · exact .inl h
  · exact .inr (.inl (bytes_toList.1 h))
  · exact .inr (.inr h)
theorem ltS_asymm {a b : ByteArray} (h : ltS a b = true) : ltS b a = false := by
  cases hb : ltS b a with
  | false => rfl
  | true => have := ltS_trans h hb; rw [ltS_irrefl] at this; cases this

/-! ### Disks -/
structure FileA where
  name : ByteArray
  b : List UInt8
  kept : Nat
structure DiskA where
  room : Nat
  left : Int
  gone : Bool
  fs : List FileA

def used (fs : List FileA) : Nat := (fs.map fun f => f.b.length).sum
def DiskA.free (A : DiskA) : Nat := A.room - used A.fs
def okC (c : UInt8) : Bool := (97 ≤ c.toNat && c.toNat ≤ 122) || (48 ≤ c.toNat && c.toNat ≤ 57) || c.toNat == 46 || c.toNat == 45
def nameF (s : ByteArray) : Bool := s.data.toList.all okC && (1 ≤ s.size && s.size ≤ 24)
def hasF (fs : List FileA) (n : ByteArray) : Bool := fs.any fun f => decide (f.name = n)
def doneA (A : DiskA) : DiskA := if A.left > 0 then { A with left := A.left - 1, gone := decide (A.left - 1 = 0) } else A
/-- One file, changed. -/
def updF (n : ByteArray) (g : FileA → FileA) (f : FileA) : FileA := if f.name = n then g f else f
def insF (x : FileA) : List FileA → List FileA
  | [] => [x]
  | f :: r => if ltS x.name f.name then x :: f :: r else f :: insF x r
def dropF (n : ByteArray) (fs : List FileA) : List FileA := fs.filter fun f => !decide (f.name = n)

def appendA (A : DiskA) (n : ByteArray) (bs : List UInt8) : Int × DiskA :=
  if A.gone then (9, A) else if nameF n = false then (2, A) else if bs.length > A.free ∨ (hasF A.fs n = false ∧ A.fs.length ≥ 128) then (5, A) else
    (0, doneA { A with fs := if hasF A.fs n then A.fs.map (updF n fun f => { f with b := f.b ++ bs }) else insF ⟨n, bs, 0⟩ A.fs })
def asked (ns : List ByteArray) (n : ByteArray) : Bool := ns.isEmpty || ns.any fun m => decide (m = n)
def syncF (ns : List ByteArray) (f : FileA) : FileA := if asked ns f.name then { f with kept := f.b.length } else f
def syncA (A : DiskA) (ns : List ByteArray) : Int × DiskA :=
  if A.gone then (9, A) else if ns.all (hasF A.fs) = false then (3, A) else (0, doneA { A with fs := A.fs.map (syncF ns) })
def lenF (fs : List FileA) (n : ByteArray) : Nat := match fs.find? fun f => decide (f.name = n) with
  | some f => f.b.length
  | none => 0
def cutA' (A : DiskA) (n : ByteArray) (k : Int) : Int × DiskA :=
  if A.gone then (9, A) else if hasF A.fs n = false then (3, A) else if k < 0 ∨ k > lenF A.fs n then (2, A) else
    (0, doneA { A with fs := A.fs.map (updF n fun f => { f with b := f.b.take k.toNat, kept := min f.kept k.toNat }) })
def renA (A : DiskA) (a b : ByteArray) : Int × DiskA :=
  if A.gone then (9, A) else match A.fs.find? fun f => decide (f.name = a) with
    | none => (3, A)
    | some f => if nameF b = false then (2, A) else (0, doneA (if a = b then A else { A with fs := insF { f with name := b } (dropF b (dropF a A.fs)) }))
def remA (A : DiskA) (n : ByteArray) : Int × DiskA :=
  if A.gone then (9, A) else if hasF A.fs n = false then (3, A) else (0, doneA { A with fs := dropF n A.fs })
def fuseA (A : DiskA) (n : Int) : DiskA := if A.gone then A else { A with left := if n < 0 then -1 else n, gone := decide (n = 0) }
def lastN (f : FileA) (more : Int) : Nat := f.kept + (min more.toNat (f.b.length - f.kept))
def pickN (ps : List Int) (i : Nat) : Int := if ps = [] then 0 else ps.getD (i % ps.length) 0
def crashF (ps : List Int) (f : FileA) (i : Nat) : FileA := { f with b := f.b.take (lastN f (pickN ps i)), kept := lastN f (pickN ps i) }
def crashA (A : DiskA) (ps : List Int) : DiskA := ⟨A.room, -1, false, A.fs.mapIdx fun i f => crashF ps f i⟩

/-- What stays so. -/
structure okA (A : DiskA) : Prop where
  room : A.room ≤ 4194304
  used : used A.fs ≤ 4194304
  many : A.fs.length ≤ 128
  left : -1 ≤ A.left ∧ A.left ≤ 9223372036854775807
  sorted : A.fs.Pairwise fun a b => ltS a.name b.name = true
  kept : ∀ f ∈ A.fs, f.kept ≤ f.b.length
  names : ∀ f ∈ A.fs, f.name.size ≤ 24

theorem used_cons (f : FileA) (fs : List FileA) : used (f :: fs) = f.b.length + used fs := by simp [used]
theorem used_perm {a b : List FileA} (h : a.Perm b) : used a = used b := (h.map _).sum_nat
theorem used_mem : ∀ {fs : List FileA} {f : FileA}, f ∈ fs → f.b.length ≤ used fs
  | g :: r, f, h => by
    rw [used_cons]
    rcases List.mem_cons.1 h with rfl | h
    · omega
    · have := used_mem h; omega
theorem names_nodup {fs : List FileA} (h : fs.Pairwise fun a b => ltS a.name b.name = true) : (fs.map (·.name)).Nodup := by
  rw [List.Nodup, List.pairwise_map]
  exact h.imp fun {a b} hab e => by rw [e, ltS_irrefl] at hab; cases hab
theorem hasF_iff {fs : List FileA} {n : ByteArray} : hasF fs n = true ↔ ∃ f ∈ fs, f.name = n := by simp [hasF]
theorem hasF_not {fs : List FileA} {n : ByteArray} : hasF fs n = false ↔ ∀ f ∈ fs, f.name ≠ n := by simp [hasF]

/-! ### What memory holds -/
instance : ByE P T.s_uint8 T.uint8 := ⟨by kernel_rfl, by kernel_rfl, by kernel_rfl⟩
instance : StT P T.string := ⟨by kernel_rfl⟩
instance : KeyT P T.string ekS := keyT_str (by kernel_rfl)
instance : MapT P T.m_string_p_disk_file T.string (.pointer none) := ⟨T.p_disk_file, by kernel_rfl, by kernel_rfl⟩

abbrev evF (b : Nat) : Value := .pointer (some ⟨b, 0, none⟩)
/-- A file: its block, its bytes' slice, what it is. -/
structure FileM where
  at_ : Nat
  x : Sl
  f : FileA
def fileP (t : FileM) : HP := HP.star (pt t.at_ (.cells #[t.x.v, .int .i64 t.f.kept] T.disk_file)) (slc T.uint8 1 t.x (t.f.b.flatMap encU))
def dk (d : Nat) (A : DiskA) : HP := HP.ex fun m : Nat => HP.ex fun FS : List FileM => HP.and ((FS.map (·.f)).Perm A.fs ∧ okA A)
  (HP.star (pt d (.cells #[.int .i64 A.left, .bool A.gone, .int .i64 A.room, .int .i64 (used A.fs), .map (some m)] T.disk_Disk))
    (HP.star (mapP ekS evF m (FS.map fun t => (t.f.name, t.at_))) (HP.all (FS.map fileP))))

section
variable {w : World} {l r : List HP}

theorem Sat.all_nil (hs : Sat w l) : Sat w (HP.all [] :: l) :=
  ⟨⟨fun _ => none, World.env' w⟩, World.ph w, ⟨(fun _ _ h => by cases h), rfl⟩, PH.sub_refl _, (fun _ => Or.inl rfl), trivial, hs⟩
theorem Sat.all_cons {a : HP} {L : List HP} (hs : Sat w (HP.all (a :: L) :: l)) : Sat w (a :: HP.all L :: l) := by
  refine Sat.star (A := a) (B := HP.all L) (hs.imp fun p h => ?_)
  obtain ⟨p1, p2, h1, h2, hd, hA, hl⟩ := h
  exact ⟨p1, p2, h1, h2, hd, hA, hl⟩
theorem Sat.all_put {a : HP} {L : List HP} (hs : Sat w (a :: HP.all L :: l)) : Sat w (HP.all (a :: L) :: l) := by
  refine (Sat.star_mk (A := a) (B := HP.all L) hs).imp fun p h => ?_
  obtain ⟨p1, p2, h1, h2, hd, hA, hl⟩ := h
  exact ⟨p1, p2, h1, h2, hd, hA, hl⟩
theorem Sat.all_perm {L L' : List HP} (hp : L.Perm L') (hs : Sat w (HP.all L :: l)) : Sat w (HP.all L' :: l) := hs.imp fun p h => satL_perm hp h

theorem dk_open {d : Nat} {A : DiskA} (hs : Sat w (dk d A :: l)) : ∃ (m : Nat) (FS : List FileM), (FS.map FileM.f).Perm A.fs ∧ okA A ∧
    Sat w (pt d (.cells #[.int .i64 A.left, .bool A.gone, .int .i64 A.room, .int .i64 (used A.fs), .map (some m)] T.disk_Disk) :: mapP ekS evF m (FS.map fun t => (t.f.name, t.at_)) :: HP.all (FS.map fileP) :: l) := by
  obtain ⟨m, hs⟩ := hs.ex
  obtain ⟨FS, hs⟩ := hs.ex
  obtain ⟨⟨h1, h2⟩, hs⟩ := hs.and
  have hs := hs.star
  have hs := (hs.pick [1]).star
  exact ⟨m, FS, h1, h2, hs.pick [2, 0, 0]⟩
theorem dk_shut {d : Nat} {A : DiskA} {m : Nat} {FS : List FileM} (hp : (FS.map FileM.f).Perm A.fs) (hok : okA A)
    (hs : Sat w (pt d (.cells #[.int .i64 A.left, .bool A.gone, .int .i64 A.room, .int .i64 (used A.fs : Nat), .map (some m)] T.disk_Disk) :: mapP ekS evF m (FS.map fun t => (t.f.name, t.at_)) :: HP.all (FS.map fileP) :: l)) : Sat w (dk d A :: l) := by
  refine .ex_mk m (.ex_mk FS (.and_mk ⟨hp, hok⟩ (.star_mk ?_)))
  refine (Sat.star_mk (hs.pick [1, 1])).pick [1]
/-- A disk, put together again out of its parts. -/
theorem dk_close {d : Nat} {A : DiskA} (m : Nat) {FS : List FileM} {r1 r2 r3 l' : List HP} {u : Int} (hp : (FS.map FileM.f).Perm A.fs) (hok : okA A) (hs : Sat w l)
    [h1 : FocB l d (.cells [.int .i64 A.left, .bool A.gone, .int .i64 A.room, .int .i64 u, .map (some m)].toArray T.disk_Disk) r1] [h2 : FoM r1 m ekS evF (FS.map fun t => (t.f.name, t.at_)) r2] [h3 : Foc r2 (HP.all (FS.map fileP)) r3] [h4 : Sub r3 l']
    (hu : u = (used A.fs : Nat) := by rfl) : Sat w (dk d A :: l') := by
  subst hu
  have h5 : Sat w (dk d A :: r3) := dk_shut hp hok (hs.perm (h1.perm.trans (.cons _ (h2.perm.trans (.cons _ h3.perm)))))
  exact h5.sub
/-- One file's parts. -/
theorem file_open {FS : List FileM} {t : FileM} (hs : Sat w l) [h : Foc l (HP.all (FS.map fileP)) r] (ht : t ∈ FS) : ∃ FS', FS.Perm (t :: FS') ∧
    Sat w (pt t.at_ (.cells #[t.x.v, .int .i64 t.f.kept] T.disk_file) :: slc T.uint8 1 t.x (t.f.b.flatMap encU) :: HP.all (FS'.map fileP) :: r) := by
  obtain ⟨s, u, rfl⟩ := List.append_of_mem ht
  have hp : (s ++ t :: u).Perm (t :: (s ++ u)) := List.perm_middle
  exact ⟨s ++ u, hp, (((hs.perm h.perm).all_perm (hp.map fileP)).all_cons).star⟩
/-- A file, put together again. -/
theorem file_close {FS : List FileM} (t : FileM) {r1 r2 r3 : List HP} (hs : Sat w l) [h1 : FocB l t.at_ (.cells [.slice t.x.a t.x.len t.x.cap, .int .i64 t.f.kept].toArray T.disk_file) r1] [h2 : FocS r1 t.x T.uint8 1 (t.f.b.flatMap encU) r2] [h3 : Foc r2 (HP.all (FS.map fileP)) r3] :
    Sat w (HP.all ((t :: FS).map fileP) :: r3) :=
  Sat.all_put (Sat.star_mk (A := pt t.at_ (.cells #[t.x.v, .int .i64 t.f.kept] T.disk_file)) (B := slc T.uint8 1 t.x (t.f.b.flatMap encU)) (hs.perm (h1.perm.trans (.cons _ (h2.perm.trans (.cons _ h3.perm))))))
end

end Go.Dec

namespace Go.Dec
set_option linter.unusedVariables false
set_option linter.unusedSimpArgs false

section
variable {w : World} {l r : List HP} {d : Nat} {A : DiskA}

theorem new_ok (n : Nat) (hn : n ≤ 4194304) (hs : Sat w l) : Ret P F.disk_New #[.int .i64 n] w fun vs w' => ∃ d, vs = [.pointer (some ⟨d, 0, none⟩), .int .i64 0] ∧ Sat w' (dk d ⟨n, -1, false, []⟩ :: l) :=
  disk_New_calls n <| by
    unfold disk_New
    refine wp_ifF ?_
    refine wp_mmake ekS evF hs fun m w' hs => ?_
    refine wp_boxO hs fun d w' hs => ?_
    refine ⟨rfl, d, rfl, ?_⟩
    exact dk_shut (FS := []) (.refl _) ⟨hn, by simp [used], by simp, by simp, by simp, by simp, by simp⟩ ((hs.all_nil).pick [1, 1, 0])

theorem new_no (n : Int) (hn : n < 0 ∨ n > 4194304) (hs : Sat w l) : Ret P F.disk_New #[.int .i64 n] w fun vs w' => vs = [.pointer none, .int .i64 2] ∧ Sat w' l :=
  disk_New_calls n <| by
    unfold disk_New
    refine wp_ifT ?_
    exact ⟨rfl, rfl, hs⟩

theorem okC_int (c : UInt8) : ((!(decide ((c.toNat : Int) ≥ 97) && decide ((c.toNat : Int) ≤ 122)) && !(decide ((c.toNat : Int) ≥ 48) && decide ((c.toNat : Int) ≤ 57)) && (c.toNat : Int) != 46 && (c.toNat : Int) != 45) = true ↔ okC c = false) := by
  simp [okC]; omega

theorem name_c (s : ByteArray) (hs : Sat w l) : Ret P F.disk_Name #[.string s] w fun vs w' => vs = [.bool (nameF s)] ∧ Sat w' l :=
  disk_Name_calls s <| by
    unfold disk_Name
    refine wp_if (fun h => ?_) fun h => ?_
    · refine ⟨rfl, ?_, hs⟩
      have : nameF s = false := by simp [nameF]; omega
      rw [this]
    refine wp_toB hs fun x w' hs => ?_
    have hl := hs.slen x
    have hsz : s.data.toList.length = s.size := by simp
    refine wp_mid (fun _ w' => s.data.toList.all okC = true ∧ Sat w' l) ?_ ?_
    · refine wp_loop (fun n v w => ∃ i : Nat, v = ((i : Int), ()) ∧ i ≤ s.data.toList.length ∧ s.data.toList.length - i = n ∧ (s.data.toList.take i).all okC = true ∧ Sat w (slc T.uint8 1 x (s.data.toList.flatMap encU) :: l)) s.data.toList.length ⟨0, rfl, by omega, rfl, rfl, hs⟩ ?_
      clear hs
      rintro n _ w ⟨i, rfl, hi, hn, hall, hs⟩
      refine wp_on ?_
      refine wp_if (fun hc => ?_) fun hc => ?_
      · have hil : i < s.data.toList.length := by omega
        refine wp_ix1 hs i hil ?_
        refine wp_lt (wp_lt (wp_lt ?_))
        have htk : (s.data.toList.take (i + 1)).all okC = okC s.data.toList[i] := by
          rw [List.take_add_one, List.getElem?_eq_getElem hil, List.all_append, hall]; simp
        refine wp_ite (fun h3 => ?_) fun h3 => ?_
        · have h3 := (okC_int _).1 h3
          refine wp_pass (wp_pass ?_)
          refine ⟨rfl, ?_, hs.tail⟩
          have : nameF s = false := by
            have : s.data.toList.all okC = false := by
              rw [← List.take_append_drop (i + 1) s.data.toList, List.all_append, htk, h3]; rfl
            simp only [nameF, this, Bool.false_and]
          rw [this]
        · have h3 : okC s.data.toList[i] = true := by
            cases hk : okC s.data.toList[i] with
            | true => rfl
            | false => have := (okC_int _).2 hk; rw [this] at h3; cases h3
          refine wp_dn (us' := [.int .i64 ((i + 1 : Nat) : Int)]) (by (try simp (disch := omega) only [w64]); first | rfl | (congr; omega)) ?_
          refine wp_lp (s.data.toList.length - (i + 1)) ?_
          exact ⟨i + 1, rfl, by omega, rfl, by rw [htk, h3], hs⟩
      · refine wp_pass (wp_lv ⟨?_, hs.tail⟩)
        rwa [List.take_of_length_le (by omega)] at hall
    · rintro _ w' ⟨hall, hs⟩
      refine wp_on ?_
      refine ⟨rfl, ?_, hs⟩
      have : nameF s = true := by simp only [nameF, hall, Bool.true_and, Bool.and_eq_true, decide_eq_true_eq]; omega
      rw [this]

theorem rname_c (s : ByteArray) (hsz : s.size ≤ 1000000) (hs : Sat w l) : Ret P F.towpathref04_Name #[.string s] w fun vs w' => vs = [.bool (nameF s)] ∧ Sat w' l :=
  towpathref04_Name_calls s <| by
    unfold towpathref04_Name
    have hl : s.data.toList.length = s.size := by simp
    refine wp_mid (fun _ w' => s.data.toList.all okC = true ∧ Sat w' l) ?_ ?_
    · refine wp_loop (fun n v w => ∃ i : Nat, v = ((i : Int), ()) ∧ i ≤ s.data.toList.length ∧ s.data.toList.length - i = n ∧ (s.data.toList.take i).all okC = true ∧ Sat w l) s.data.toList.length ⟨0, rfl, by omega, rfl, rfl, hs⟩ ?_
      clear hs
      rintro n _ w ⟨i, rfl, hi, hn, hall, hs⟩
      refine wp_on ?_
      refine wp_if (fun hc => ?_) fun hc => ?_
      · have hil : i < s.data.toList.length := by omega
        have hb : bt s (i : Int) = ((s.data.toList[i]).toNat : Int) := by
          unfold bt
          rw [Int.toNat_natCast, List.getD_eq_getElem?_getD, List.getElem?_eq_getElem hil]; rfl
        refine wp_mu ?_
        refine wp_lt ?_
        rw [hb]
        have htk : (s.data.toList.take (i + 1)).all okC = okC s.data.toList[i] := by
          rw [List.take_add_one, List.getElem?_eq_getElem hil, List.all_append, hall]; simp
        have hok : (decide (((s.data.toList[i]).toNat : Int) ≥ 97) && decide (((s.data.toList[i]).toNat : Int) ≤ 122) || decide (((s.data.toList[i]).toNat : Int) ≥ 48) && decide (((s.data.toList[i]).toNat : Int) ≤ 57) || ((s.data.toList[i]).toNat : Int) == 46 || ((s.data.toList[i]).toNat : Int) == 45) = okC s.data.toList[i] := by
          rw [Bool.eq_iff_iff]; simp [okC]; omega
        rw [hok]
        refine wp_if (fun h3 => ?_) fun h3 => ?_
        · refine wp_pass (wp_pass ?_)
          refine ⟨rfl, ?_, hs⟩
          have h3 : okC s.data.toList[i] = false := by simpa using h3
          have : nameF s = false := by
            have : s.data.toList.all okC = false := by
              rw [← List.take_append_drop (i + 1) s.data.toList, List.all_append, htk, h3]; rfl
            simp only [nameF, this, Bool.false_and]
          rw [this]
        · have h3 : okC s.data.toList[i] = true := by simpa using h3
          refine wp_ltx (y := ((i + 1 : Nat) : Int)) ?_
          refine wp_lp (s.data.toList.length - (i + 1)) ?_
          exact ⟨i + 1, rfl, by omega, rfl, by rw [htk, h3], hs⟩
      · refine wp_pass (wp_lv ⟨?_, hs⟩)
        rwa [List.take_of_length_le (by omega)] at hall
    · rintro _ w' ⟨hall, hs⟩
      refine wp_on ?_
      refine wp_lt ?_
      refine ⟨rfl, ?_, hs⟩
      congr 2
      rw [Bool.eq_iff_iff]; simp only [nameF, hall, Bool.true_and, Bool.and_eq_true, decide_eq_true_eq]; omega

theorem may_c [hf : Fo l dk d A r] (hs : Sat w l) : Ret P F.disk_Disk_may #[.pointer (some ⟨d, 0, none⟩)] w fun vs w' => vs = [.int .i64 (if A.gone then 9 else 0)] ∧ Sat w' (dk d A :: r) :=
  disk_Disk_may_calls _ <| by
    unfold disk_Disk_may
    obtain ⟨m, FS, hp, hok, hs⟩ := dk_open (hs.perm hf.perm)
    refine wp_lt (wp_ifF ?_ (by simp))
    (repeat (first | with_reducible (first | refine wp_on ?_ | refine wp_nn ?_ | refine wp_nng ?_ | refine wp_ldO hs ?_ | refine wp_ldG hs ?_ | refine wp_untick ?_ | refine wp_tk hs fun _ hs => ?_ | refine wp_newO hs fun _ _ hs => ?_ | refine wp_boxO hs fun _ _ hs => ?_ | refine wp_stO hs fun _ hs => ?_ | refine wp_stG hs fun _ hs => ?_) | (apply wp_must; (focus first | trivial | omega | assumption)) | refine wp_ltw ?_ | refine wp_lt ?_))
    refine wp_if (fun h => ?_) fun h => ?_
    · exact ⟨rfl, by rw [if_pos h], dk_close m hp hok hs⟩
    · exact ⟨rfl, by rw [if_neg h], dk_close m hp hok hs⟩

theorem spend_c {m : Nat} {n room u : Int} (hn : n ≤ 9223372036854775807 ∧ -1 ≤ n) [hf : FocB l d (.cells #[.int .i64 n, .bool false, .int .i64 room, .int .i64 u, .map (some m)] T.disk_Disk) r] (hs : Sat w l) :
    Ret P F.disk_power_spend #[.pointer (some (Addr.add ⟨d, 0, none⟩ 0))] w fun vs w' => vs = [] ∧
      Sat w' (pt d (.cells #[.int .i64 (if n > 0 then n - 1 else n), .bool (if n > 0 then decide (n - 1 = 0) else false), .int .i64 room, .int .i64 u, .map (some m)] T.disk_Disk) :: r) :=
  disk_power_spend_calls _ <| by
    unfold disk_power_spend
    have hs := hs.focB d
    (repeat (first | with_reducible (first | refine wp_on ?_ | refine wp_nn ?_ | refine wp_nng ?_ | refine wp_ldO hs ?_ | refine wp_ldG hs ?_ | refine wp_untick ?_ | refine wp_tk hs fun _ hs => ?_ | refine wp_newO hs fun _ _ hs => ?_ | refine wp_boxO hs fun _ _ hs => ?_ | refine wp_stO hs fun _ hs => ?_ | refine wp_stG hs fun _ hs => ?_) | (apply wp_must; (focus first | trivial | omega | assumption)) | refine wp_ltw ?_ | refine wp_lt ?_))
    refine wp_mid (fun _ w' => Sat w' (pt d (.cells #[.int .i64 (if n > 0 then n - 1 else n), .bool (if n > 0 then decide (n - 1 = 0) else false), .int .i64 room, .int .i64 u, .map (some m)] T.disk_Disk) :: r)) ?_ ?_
    · refine wp_if (fun h => ?_) fun h => ?_
      · (repeat (first | with_reducible (first | refine wp_on ?_ | refine wp_nn ?_ | refine wp_nng ?_ | refine wp_ldO hs ?_ | refine wp_ldG hs ?_ | refine wp_untick ?_ | refine wp_tk hs fun _ hs => ?_ | refine wp_newO hs fun _ _ hs => ?_ | refine wp_boxO hs fun _ _ hs => ?_ | refine wp_stO hs fun _ hs => ?_ | refine wp_stG hs fun _ hs => ?_) | (apply wp_must; (focus first | trivial | omega | assumption)) | refine wp_ltw ?_ | refine wp_lt ?_))
        refine wp_lv ?_
        rw [if_pos h, if_pos h]
        rw [w64 (x := n - 1) (by omega) (by omega)] at hs
        exact hs
      · refine wp_lv ?_
        rw [if_neg h, if_neg h]; exact hs
    · rintro _ w' hs
      refine wp_on ?_
      exact ⟨rfl, rfl, hs⟩

/-- What 'spend' leaves is what is said of it. -/
theorem doneA_eq (A : DiskA) (h : A.gone = false) : doneA A = ⟨A.room, if A.left > 0 then A.left - 1 else A.left, if A.left > 0 then decide (A.left - 1 = 0) else false, A.fs⟩ := by
  unfold doneA
  split
  · rfl
  · rw [← h]

theorem used_c [hf : Fo l dk d A r] (hs : Sat w l) : Ret P F.disk_Disk_Used #[.pointer (some ⟨d, 0, none⟩)] w fun vs w' => vs = [.int .i64 (used A.fs : Nat)] ∧ Sat w' (dk d A :: r) :=
  disk_Disk_Used_calls _ <| by
    unfold disk_Disk_Used
    obtain ⟨m, FS, hp, hok, hs⟩ := dk_open (hs.perm hf.perm)
    refine wp_ifF ?_ (by simp)
    (repeat (first | with_reducible (first | refine wp_on ?_ | refine wp_nn ?_ | refine wp_nng ?_ | refine wp_ldO hs ?_ | refine wp_ldG hs ?_ | refine wp_untick ?_ | refine wp_tk hs fun _ hs => ?_ | refine wp_newO hs fun _ _ hs => ?_ | refine wp_boxO hs fun _ _ hs => ?_ | refine wp_stO hs fun _ hs => ?_ | refine wp_stG hs fun _ hs => ?_) | (apply wp_must; (focus first | trivial | omega | assumption)) | refine wp_ltw ?_ | refine wp_lt ?_))
    exact ⟨rfl, rfl, dk_close m hp hok hs⟩

theorem free_c [hf : Fo l dk d A r] (hs : Sat w l) : Ret P F.disk_Disk_Free #[.pointer (some ⟨d, 0, none⟩)] w fun vs w' => vs = [.int .i64 (A.free : Nat)] ∧ Sat w' (dk d A :: r) :=
  disk_Disk_Free_calls _ <| by
    unfold disk_Disk_Free
    obtain ⟨m, FS, hp, hok, hs⟩ := dk_open (hs.perm hf.perm)
    refine wp_ifF ?_ (by simp)
    have h1 := hok.room
    have h2 := hok.used
    refine wp_tk hs fun w' hs => ?_
    refine wp_nn ?_
    refine wp_ldO hs ?_
    refine wp_nn ?_
    refine wp_ldO hs ?_
    refine wp_lw (y := (A.free : Nat)) ?_ ?_
    · have e : IntKind.wrap .i64 ((A.room : Int) - (used A.fs : Nat)) = (A.room : Int) - (used A.fs : Nat) := w64e
      rw [e]
      unfold DiskA.free
      split <;> omega
    exact wp_untick ⟨rfl, rfl, dk_close m hp hok hs⟩

theorem gone_c [hf : Fo l dk d A r] (hs : Sat w l) : Ret P F.disk_Disk_Gone #[.pointer (some ⟨d, 0, none⟩)] w fun vs w' => vs = [.bool A.gone] ∧ Sat w' (dk d A :: r) :=
  disk_Disk_Gone_calls _ <| by
    unfold disk_Disk_Gone
    obtain ⟨m, FS, hp, hok, hs⟩ := dk_open (hs.perm hf.perm)
    (repeat (first | with_reducible (first | refine wp_on ?_ | refine wp_nn ?_ | refine wp_nng ?_ | refine wp_ldO hs ?_ | refine wp_ldG hs ?_ | refine wp_untick ?_ | refine wp_tk hs fun _ hs => ?_ | refine wp_newO hs fun _ _ hs => ?_ | refine wp_boxO hs fun _ _ hs => ?_ | refine wp_stO hs fun _ hs => ?_ | refine wp_stG hs fun _ hs => ?_) | (apply wp_must; (focus first | trivial | omega | assumption)) | refine wp_ltw ?_ | refine wp_lt ?_))
    exact ⟨rfl, by simp, dk_close m hp hok hs⟩

theorem fuse_c (n : Int) (hn : -9223372036854775808 ≤ n ∧ n ≤ 9223372036854775807) [hf : Fo l dk d A r] (hs : Sat w l) : Ret P F.disk_Disk_Fuse #[.pointer (some ⟨d, 0, none⟩), .int .i64 n] w fun vs w' => vs = [] ∧ Sat w' (dk d (fuseA A n) :: r) :=
  disk_Disk_Fuse_calls _ n <| by
    unfold disk_Disk_Fuse
    obtain ⟨m, FS, hp, hok, hs⟩ := dk_open (hs.perm hf.perm)
    refine wp_nng ?_
    refine wp_ldO hs ?_
    unfold fuseA
    refine wp_if (fun h => ?_) fun h => ?_
    · have h : A.gone = true := by simpa using h
      rw [if_pos h]
      exact ⟨rfl, rfl, dk_close m hp hok hs⟩
    · have h : ¬ A.gone = true := by simpa using h
      rw [if_neg h]
      have e : (if -1 > n then -1 else n) = if n < 0 then -1 else n := by split <;> split <;> omega
      rw [e]
      have hok' : okA { A with left := if n < 0 then -1 else n, gone := decide (n = 0) } := ⟨hok.room, hok.used, hok.many, by show -1 ≤ (if n < 0 then -1 else n) ∧ (if n < 0 then -1 else n) ≤ 9223372036854775807; split <;> omega, hok.sorted, hok.kept, hok.names⟩
      (repeat (first | with_reducible (first | refine wp_on ?_ | refine wp_nn ?_ | refine wp_nng ?_ | refine wp_ldO hs ?_ | refine wp_ldG hs ?_ | refine wp_untick ?_ | refine wp_tk hs fun _ hs => ?_ | refine wp_newO hs fun _ _ hs => ?_ | refine wp_boxO hs fun _ _ hs => ?_ | refine wp_stO hs fun _ hs => ?_ | refine wp_stG hs fun _ hs => ?_) | (apply wp_must; (focus first | trivial | omega | assumption)) | refine wp_ltw ?_ | refine wp_lt ?_))
      have eb : (n == 0) = decide (n = 0) := by rw [Bool.eq_iff_iff]; simp
      rw [eb] at hs
      exact ⟨rfl, rfl, dk_close m hp hok' hs⟩

theorem room_ok (n : Nat) (hn : n ≤ 4194304) [hf : Fo l dk d A r] (hs : Sat w l) : Ret P F.disk_Disk_Room #[.pointer (some ⟨d, 0, none⟩), .int .i64 n] w fun vs w' => vs = [.int .i64 0] ∧ Sat w' (dk d { A with room := n } :: r) :=
  disk_Disk_Room_calls _ n <| by
    unfold disk_Disk_Room
    obtain ⟨m, FS, hp, hok, hs⟩ := dk_open (hs.perm hf.perm)
    refine wp_lt (wp_ifF ?_ (by simp))
    refine wp_lt (wp_ifF ?_)
    (repeat (first | with_reducible (first | refine wp_on ?_ | refine wp_nn ?_ | refine wp_nng ?_ | refine wp_ldO hs ?_ | refine wp_ldG hs ?_ | refine wp_untick ?_ | refine wp_tk hs fun _ hs => ?_ | refine wp_newO hs fun _ _ hs => ?_ | refine wp_boxO hs fun _ _ hs => ?_ | refine wp_stO hs fun _ hs => ?_ | refine wp_stG hs fun _ hs => ?_) | (apply wp_must; (focus first | trivial | omega | assumption)) | refine wp_ltw ?_ | refine wp_lt ?_))
    exact ⟨rfl, rfl, dk_close m (A := { A with room := n }) hp ⟨hn, hok.used, hok.many, hok.left, hok.sorted, hok.kept, hok.names⟩ hs⟩
theorem room_no (n : Int) (hn : n < 0 ∨ n > 4194304) [hf : Fo l dk d A r] (hs : Sat w l) : Ret P F.disk_Disk_Room #[.pointer (some ⟨d, 0, none⟩), .int .i64 n] w fun vs w' => vs = [.int .i64 2] ∧ Sat w' (dk d A :: r) :=
  disk_Disk_Room_calls _ n <| by
    unfold disk_Disk_Room
    refine wp_lt (wp_ifF ?_ (by simp))
    refine wp_lt (wp_ifT ?_)
    exact ⟨rfl, rfl, hs.perm hf.perm⟩

end
end Go.Dec

namespace Go.Dec
set_option linter.unusedVariables false
set_option linter.unusedSimpArgs false

/-! ### Lists of files -/
theorem find_name {fs : List FileA} {n : ByteArray} (hs : (fs.map (·.name)).Nodup) {f : FileA} (hf : f ∈ fs) (hn : f.name = n) : fs.find? (fun f => decide (f.name = n)) = some f := by
  subst hn
  induction fs with
  | nil => cases hf
  | cons g r ih =>
    rw [List.map_cons, List.nodup_cons] at hs
    rcases List.mem_cons.1 hf with rfl | hf
    · rw [List.find?_cons_of_pos (by simp)]
    · rw [List.find?_cons_of_neg (by simp; exact fun e => hs.1 (List.mem_map.2 ⟨f, hf, e.symm⟩))]
      exact ih hs.2 hf
theorem find_none {fs : List FileA} {n : ByteArray} (h : ∀ f ∈ fs, f.name ≠ n) : fs.find? (fun f => decide (f.name = n)) = none := List.find?_eq_none.2 fun f hf => by simpa using h f hf
theorem lenF_eq {fs : List FileA} {n : ByteArray} (hs : (fs.map (·.name)).Nodup) {f : FileA} (hf : f ∈ fs) (hn : f.name = n) : lenF fs n = f.b.length := by rw [lenF, find_name hs hf hn]

section
variable {w : World} {l r : List HP} {d : Nat} {A : DiskA}

/-- What a map's entry, or none, says of the files. -/
theorem in_fs {FS : List FileM} (hp : (FS.map FileM.f).Perm A.fs) {n : ByteArray} {b : Nat} (h : (n, b) ∈ FS.map fun t => (t.f.name, t.at_)) : ∃ t ∈ FS, t.at_ = b ∧ t.f.name = n ∧ t.f ∈ A.fs := by
  obtain ⟨t, ht, he⟩ := List.mem_map.1 h
  simp only [Prod.mk.injEq] at he
  exact ⟨t, ht, he.2, he.1, hp.mem_iff.1 (List.mem_map.2 ⟨t, ht, rfl⟩)⟩
theorem not_fs {FS : List FileM} (hp : (FS.map FileM.f).Perm A.fs) {n : ByteArray} (h : ∀ b, (n, b) ∉ FS.map fun t => (t.f.name, t.at_)) : ∀ f ∈ A.fs, f.name ≠ n := fun f hf e => by
  obtain ⟨t, ht, rfl⟩ := List.mem_map.1 (hp.mem_iff.2 hf)
  exact h t.at_ (List.mem_map.2 ⟨t, ht, by rw [e]⟩)

/-- One file told apart: the others have other names. -/
theorem apart {FS FS' : List FileM} {t : FileM} (hp : (FS.map FileM.f).Perm A.fs) (hok : okA A) (h : FS.Perm (t :: FS')) :
    A.fs.Perm (t.f :: FS'.map FileM.f) ∧ (∀ f ∈ FS'.map FileM.f, f.name ≠ t.f.name) ∧ t.f ∈ A.fs := by
  have h1 : A.fs.Perm (t.f :: FS'.map FileM.f) := hp.symm.trans (h.map FileM.f)
  have h2 : ((t.f :: FS'.map FileM.f).map (·.name)).Nodup := (h1.map _).nodup_iff.1 (names_nodup hok.sorted)
  rw [List.map_cons, List.nodup_cons] at h2
  exact ⟨h1, fun f hf e => h2.1 (List.mem_map.2 ⟨f, hf, e⟩), h1.mem_iff.2 (List.mem_cons_self ..)⟩

theorem clone_c (x : Sl) (bs : List UInt8) (hb : bs.length ≤ 100000000) [hf : FocR l x 1 (bs.flatMap encU)] (hs : Sat w l) : Ret P F.bytes_Clone #[x.v] w fun vs w' => ∃ z : Sl, vs = [z.v] ∧ Sat w' (slc T.uint8 1 z (bs.flatMap encU) :: l) :=
  bytes_Clone_calls x <| by
    unfold bytes_Clone
    refine wp_if (fun h => ?_) fun h => ?_
    · have : bs = [] := by
        obtain ⟨hlen, h0 | ⟨b, off, arr, T', fr, ha, -⟩⟩ := hf.rd w hs
        · rw [flat_len, h0] at hlen; exact List.length_eq_zero_iff.1 (by omega)
        · rw [h] at ha; cases ha
      subst this
      exact ⟨rfl, ⟨none, 0, 0⟩, rfl, hs.slc_nil⟩
    · refine wp_slit hs ([] : List UInt8) (enc := encU) bs0 fun b w' hs => ?_
      refine wp_app' hs (xs := ([] : List UInt8)) (ys := bs) (enc := encU) (fun z w' hs => ?_) (by simp; omega)
      exact ⟨rfl, z, rfl, hs⟩

theorem read_c (n : ByteArray) [hf : Fo l dk d A r] (hs : Sat w l) : Ret P F.disk_Disk_Read #[.pointer (some ⟨d, 0, none⟩), .string n] w fun vs w' =>
    (∃ f ∈ A.fs, f.name = n ∧ ∃ z : Sl, vs = [z.v, .int .i64 0] ∧ Sat w' (slc T.uint8 1 z (f.b.flatMap encU) :: dk d A :: r)) ∨ ((∀ f ∈ A.fs, f.name ≠ n) ∧ vs = [.slice none 0 0, .int .i64 3] ∧ Sat w' (dk d A :: r)) :=
  disk_Disk_Read_calls _ n <| by
    unfold disk_Disk_Read
    obtain ⟨m, FS, hp, hok, hs⟩ := dk_open (hs.perm hf.perm)
    refine wp_ifF ?_ (by simp)
    (repeat (first | with_reducible (first | refine wp_on ?_ | refine wp_nn ?_ | refine wp_nng ?_ | refine wp_ldO hs ?_ | refine wp_ldG hs ?_ | refine wp_untick ?_ | refine wp_tk hs fun _ hs => ?_ | refine wp_newO hs fun _ _ hs => ?_ | refine wp_boxO hs fun _ _ hs => ?_ | refine wp_stO hs fun _ hs => ?_ | refine wp_stG hs fun _ hs => ?_) | (apply wp_must; (focus first | trivial | omega | assumption)) | refine wp_ltw ?_ | refine wp_lt ?_))
    refine wp_look hs (fun b hb => ?_) fun hb => ?_
    · obtain ⟨t, ht, rfl, rfl, hA⟩ := in_fs hp hb
      obtain ⟨FS', hpm, hs⟩ := file_open hs ht
      refine wp_ifF ?_ (by simp)
      (repeat (first | with_reducible (first | refine wp_on ?_ | refine wp_nn ?_ | refine wp_nng ?_ | refine wp_ldO hs ?_ | refine wp_ldG hs ?_ | refine wp_untick ?_ | refine wp_tk hs fun _ hs => ?_ | refine wp_newO hs fun _ _ hs => ?_ | refine wp_boxO hs fun _ _ hs => ?_ | refine wp_stO hs fun _ hs => ?_ | refine wp_stG hs fun _ hs => ?_) | (apply wp_must; (focus first | trivial | omega | assumption)) | refine wp_ltw ?_ | refine wp_lt ?_))
      have hlen : t.f.b.length ≤ 4194304 := Nat.le_trans (used_mem hA) hok.used
      refine wp_call (clone_c t.x t.f.b (by omega) hs) fun _ _ hs => ?_
      obtain ⟨z, rfl, hs⟩ := hs
      refine ret_of ?_
      (repeat (first | with_reducible (first | refine wp_on ?_ | refine wp_nn ?_ | refine wp_nng ?_ | refine wp_ldO hs ?_ | refine wp_ldG hs ?_ | refine wp_untick ?_ | refine wp_tk hs fun _ hs => ?_ | refine wp_newO hs fun _ _ hs => ?_ | refine wp_boxO hs fun _ _ hs => ?_ | refine wp_stO hs fun _ hs => ?_ | refine wp_stG hs fun _ hs => ?_) | (apply wp_must; (focus first | trivial | omega | assumption)) | refine wp_ltw ?_ | refine wp_lt ?_))
      refine ⟨rfl, .inl ⟨t.f, hA, rfl, z, rfl, ?_⟩⟩
      have hs := (file_close t hs).all_perm (hpm.symm.map fileP)
      have hs := dk_close (d := d) (A := A) (l' := slc T.uint8 1 z (t.f.b.flatMap encU) :: r) m hp hok hs
      exact hs.sub
    · refine wp_ifT ?_ (by rfl)
      exact ⟨rfl, .inr ⟨not_fs hp hb, rfl, dk_close m hp hok hs⟩⟩

/-- What Size and Kept tell. -/
def sizeF (fs : List FileA) (n : ByteArray) : Nat × Nat := match fs.find? fun f => decide (f.name = n) with
  | some f => (f.b.length, f.kept)
  | none => (0, 0)

theorem at_c (n : ByteArray) [hf : Fo l dk d A r] (hs : Sat w l) : Ret P F.disk_Disk_at #[.pointer (some ⟨d, 0, none⟩), .string n] w fun vs w' =>
    ∃ x : Sl, vs = [.agg [x.v, .int .i64 (sizeF A.fs n).2].toArray] ∧ x.len = (sizeF A.fs n).1 ∧ Sat w' (dk d A :: r) :=
  disk_Disk_at_calls _ n <| by
    unfold disk_Disk_at
    obtain ⟨m, FS, hp, hok, hs⟩ := dk_open (hs.perm hf.perm)
    (repeat (first | with_reducible (first | refine wp_on ?_ | refine wp_nn ?_ | refine wp_nng ?_ | refine wp_ldO hs ?_ | refine wp_ldG hs ?_ | refine wp_untick ?_ | refine wp_tk hs fun _ hs => ?_ | refine wp_newO hs fun _ _ hs => ?_ | refine wp_boxO hs fun _ _ hs => ?_ | refine wp_stO hs fun _ hs => ?_ | refine wp_stG hs fun _ hs => ?_) | (apply wp_must; (focus first | trivial | omega | assumption)) | refine wp_ltw ?_ | refine wp_lt ?_))
    refine wp_look hs (fun b hb => ?_) fun hb => ?_
    · obtain ⟨t, ht, rfl, rfl, hA⟩ := in_fs hp hb
      refine wp_ifF ?_ (by simp)
      (repeat (first | with_reducible (first | refine wp_on ?_ | refine wp_nn ?_ | refine wp_nng ?_ | refine wp_ldO hs ?_ | refine wp_ldG hs ?_ | refine wp_untick ?_ | refine wp_tk hs fun _ hs => ?_ | refine wp_newO hs fun _ _ hs => ?_ | refine wp_boxO hs fun _ _ hs => ?_ | refine wp_stO hs fun _ hs => ?_ | refine wp_stG hs fun _ hs => ?_) | (apply wp_must; (focus first | trivial | omega | assumption)) | refine wp_ltw ?_ | refine wp_lt ?_))
      refine wp_look hs (fun b2 hb2 => ?_) fun hb2 => absurd hb (hb2 _)
      obtain ⟨t2, ht2, rfl, hn2, hA2⟩ := in_fs hp hb2
      obtain ⟨FS', hpm, hs⟩ := file_open hs ht2
      (repeat (first | with_reducible (first | refine wp_on ?_ | refine wp_nn ?_ | refine wp_nng ?_ | refine wp_ldO hs ?_ | refine wp_ldG hs ?_ | refine wp_untick ?_ | refine wp_tk hs fun _ hs => ?_ | refine wp_newO hs fun _ _ hs => ?_ | refine wp_boxO hs fun _ _ hs => ?_ | refine wp_stO hs fun _ hs => ?_ | refine wp_stG hs fun _ hs => ?_) | (apply wp_must; (focus first | trivial | omega | assumption)) | refine wp_ltw ?_ | refine wp_lt ?_))
      refine ⟨rfl, t2.x, ?_, ?_, ?_⟩
      · rw [sizeF, find_name (names_nodup hok.sorted) hA2 hn2]
      · rw [sizeF, find_name (names_nodup hok.sorted) hA2 hn2]; exact hs.slen t2.x
      · have hs := (file_close t2 hs).all_perm (hpm.symm.map fileP)
        exact dk_close m hp hok hs
    · refine wp_ifT ?_ (by simp)
      (repeat (first | with_reducible (first | refine wp_on ?_ | refine wp_nn ?_ | refine wp_nng ?_ | refine wp_ldO hs ?_ | refine wp_ldG hs ?_ | refine wp_untick ?_ | refine wp_tk hs fun _ hs => ?_ | refine wp_newO hs fun _ _ hs => ?_ | refine wp_boxO hs fun _ _ hs => ?_ | refine wp_stO hs fun _ hs => ?_ | refine wp_stG hs fun _ hs => ?_) | (apply wp_must; (focus first | trivial | omega | assumption)) | refine wp_ltw ?_ | refine wp_lt ?_))
      refine ⟨rfl, ⟨none, 0, 0⟩, ?_, ?_, dk_close m hp hok hs⟩
      · rw [sizeF, find_none (not_fs hp hb)]; rfl
      · rw [sizeF, find_none (not_fs hp hb)]

theorem size_c (n : ByteArray) [hf : Fo l dk d A r] (hs : Sat w l) : Ret P F.disk_Disk_Size #[.pointer (some ⟨d, 0, none⟩), .string n] w fun vs w' => vs = [.int .i64 (sizeF A.fs n).1] ∧ Sat w' (dk d A :: r) :=
  disk_Disk_Size_calls _ n <| by
    unfold disk_Disk_Size
    refine wp_call (at_c n hs) fun _ _ hs => ?_
    obtain ⟨x, rfl, hx, hs⟩ := hs
    refine ret_of ?_
    rw [hx]
    (repeat (first | with_reducible (first | refine wp_on ?_ | refine wp_nn ?_ | refine wp_nng ?_ | refine wp_ldO hs ?_ | refine wp_ldG hs ?_ | refine wp_untick ?_ | refine wp_tk hs fun _ hs => ?_ | refine wp_newO hs fun _ _ hs => ?_ | refine wp_boxO hs fun _ _ hs => ?_ | refine wp_stO hs fun _ hs => ?_ | refine wp_stG hs fun _ hs => ?_) | (apply wp_must; (focus first | trivial | omega | assumption)) | refine wp_ltw ?_ | refine wp_lt ?_))
    exact ⟨rfl, rfl, hs⟩
theorem kept_c (n : ByteArray) [hf : Fo l dk d A r] (hs : Sat w l) : Ret P F.disk_Disk_Kept #[.pointer (some ⟨d, 0, none⟩), .string n] w fun vs w' => vs = [.int .i64 (sizeF A.fs n).2] ∧ Sat w' (dk d A :: r) :=
  disk_Disk_Kept_calls _ n <| by
    unfold disk_Disk_Kept
    refine wp_call (at_c n hs) fun _ _ hs => ?_
    obtain ⟨x, rfl, hx, hs⟩ := hs
    refine ret_of ?_
    (repeat (first | with_reducible (first | refine wp_on ?_ | refine wp_nn ?_ | refine wp_nng ?_ | refine wp_ldO hs ?_ | refine wp_ldG hs ?_ | refine wp_untick ?_ | refine wp_tk hs fun _ hs => ?_ | refine wp_newO hs fun _ _ hs => ?_ | refine wp_boxO hs fun _ _ hs => ?_ | refine wp_stO hs fun _ hs => ?_ | refine wp_stG hs fun _ hs => ?_) | (apply wp_must; (focus first | trivial | omega | assumption)) | refine wp_ltw ?_ | refine wp_lt ?_))
    exact ⟨rfl, rfl, hs⟩

end
end Go.Dec

namespace Go.Dec
set_option linter.unusedVariables false
set_option linter.unusedSimpArgs false

/-! ### Lists of files, changed -/
theorem dropF_perm {fs fs' : List FileA} {f : FileA} (hp : fs.Perm (f :: fs')) (hne : ∀ g ∈ fs', g.name ≠ f.name) : (dropF f.name fs).Perm fs' := by
  have h1 := hp.filter fun g => !decide (g.name = f.name)
  rw [List.filter_cons_of_neg (by simp)] at h1
  have h2 : fs'.filter (fun g => !decide (g.name = f.name)) = fs' := List.filter_eq_self.2 fun g hg => by simpa using hne g hg
  rw [h2] at h1
  exact h1
theorem dropF_none {fs : List FileA} {n : ByteArray} (h : ∀ f ∈ fs, f.name ≠ n) : dropF n fs = fs := List.filter_eq_self.2 fun g hg => by simpa using h g hg
theorem map_updF_perm {fs fs' : List FileA} {f : FileA} {g : FileA → FileA} (hp : fs.Perm (f :: fs')) (hne : ∀ g ∈ fs', g.name ≠ f.name) : (fs.map (updF f.name g)).Perm (g f :: fs') := by
  have h1 := hp.map (updF f.name g)
  rw [List.map_cons] at h1
  have h2 : fs'.map (updF f.name g) = fs' := by
    conv => rhs; rw [← List.map_id fs']
    exact List.map_congr_left fun x hx => by rw [updF, if_neg (hne x hx)]; rfl
  rw [h2, updF, if_pos rfl] at h1
  exact h1
theorem updF_name {n : ByteArray} {g : FileA → FileA} (hg : ∀ f, (g f).name = f.name) (f : FileA) : (updF n g f).name = f.name := by
  unfold updF; split
  · exact hg f
  · rfl
theorem sorted_map {fs : List FileA} {g : FileA → FileA} (hg : ∀ f, (g f).name = f.name) (h : fs.Pairwise fun a b => ltS a.name b.name = true) : (fs.map g).Pairwise fun a b => ltS a.name b.name = true := by
  rw [List.pairwise_map]
  exact h.imp fun {a b} hab => by rw [hg, hg]; exact hab
theorem sorted_dropF {fs : List FileA} (n : ByteArray) (h : fs.Pairwise fun a b => ltS a.name b.name = true) : (dropF n fs).Pairwise fun a b => ltS a.name b.name = true := h.filter _
theorem mem_dropF {fs : List FileA} {n : ByteArray} {f : FileA} : f ∈ dropF n fs ↔ f ∈ fs ∧ f.name ≠ n := by simp [dropF, List.mem_filter]
theorem insF_perm (x : FileA) : ∀ fs : List FileA, (insF x fs).Perm (x :: fs)
  | [] => .refl _
  | f :: r => by
    rw [insF]; split
    · exact .refl _
    · exact (List.Perm.cons f (insF_perm x r)).trans (.swap _ _ _)
theorem mem_insF {x f : FileA} {fs : List FileA} : f ∈ insF x fs ↔ f = x ∨ f ∈ fs := by rw [(insF_perm x fs).mem_iff, List.mem_cons]
theorem sorted_insF (x : FileA) : ∀ {fs : List FileA}, (∀ f ∈ fs, f.name ≠ x.name) → (fs.Pairwise fun a b => ltS a.name b.name = true) → (insF x fs).Pairwise fun a b => ltS a.name b.name = true
  | [], _, _ => by simp [insF]
  | f :: r, hne, h => by
    rw [List.pairwise_cons] at h
    rw [insF]; split
    · rename_i hlt
      rw [List.pairwise_cons]
      refine ⟨fun g hg => ?_, by rw [List.pairwise_cons]; exact h⟩
      rcases List.mem_cons.1 hg with rfl | hg
      · exact hlt
      · exact ltS_trans hlt (h.1 g hg)
    · rename_i hlt
      rw [List.pairwise_cons]
      refine ⟨fun g hg => ?_, sorted_insF x (fun g hg => hne g (List.mem_cons_of_mem _ hg)) h.2⟩
      rcases mem_insF.1 hg with rfl | hg
      · rcases ltS_total f.name g.name with h1 | h1 | h1
        · exact h1
        · exact absurd h1 (hne f (List.mem_cons_self ..))
        · exact absurd h1 hlt
      · exact h.1 g hg

theorem okA_done {A : DiskA} (h : okA A) : okA (doneA A) := by
  unfold doneA
  split
  · exact ⟨h.room, h.used, h.many, by have := h.left; show -1 ≤ A.left - 1 ∧ A.left - 1 ≤ _; omega, h.sorted, h.kept, h.names⟩
  · exact h
theorem doneA_fs (A : DiskA) : (doneA A).fs = A.fs := by unfold doneA; split <;> rfl
theorem doneA_room (A : DiskA) : (doneA A).room = A.room := by unfold doneA; split <;> rfl

section
variable {w : World} {l r : List HP} {d : Nat} {A : DiskA}

/-- A change of the files, and then 'spend'. -/
theorem spend_dk {m : Nat} {FS : List FileM} {fs' : List FileA} {room left u : Int} {r1 r2 r3 l' : List HP} (hg : A.gone = false) (hok' : okA { A with fs := fs' }) (hp : (FS.map FileM.f).Perm fs') (hs : Sat w l)
    [h1 : FocB l d (.cells [.int .i64 left, .bool false, .int .i64 room, .int .i64 u, .map (some m)].toArray T.disk_Disk) r1] [h2 : FoM r1 m ekS evF (FS.map fun t => (t.f.name, t.at_)) r2] [h3 : Foc r2 (HP.all (FS.map fileP)) r3] [h4 : Sub r3 l']
    (hu : u = (used fs' : Nat) := by rfl) (hl : left = A.left := by rfl) (hr : room = A.room := by rfl) :
    Ret P F.disk_power_spend #[.pointer (some (Addr.add ⟨d, 0, none⟩ 0))] w fun vs w' => vs = [] ∧ Sat w' (dk d (doneA { A with fs := fs' }) :: l') := by
  subst hu hl hr
  have hl := hok'.left
  refine Calls.mono (spend_c (d := d) (m := m) ⟨hl.2, hl.1⟩ hs) fun e w' ⟨vs, he, hv, hs⟩ => ⟨vs, he, hv, ?_⟩
  have hd := doneA_eq { A with fs := fs' } hg
  rw [hd]
  have hok2 := okA_done hok'
  rw [hd] at hok2
  exact dk_close m (A := ⟨A.room, if A.left > 0 then A.left - 1 else A.left, if A.left > 0 then decide (A.left - 1 = 0) else false, fs'⟩) hp hok2 hs

theorem drop_c (n : ByteArray) (m : Nat) {FS : List FileM} (hp : (FS.map FileM.f).Perm A.fs) (hok : okA A)
    (hs : Sat w (pt d (.cells #[.int .i64 A.left, .bool A.gone, .int .i64 A.room, .int .i64 (used A.fs), .map (some m)] T.disk_Disk) :: mapP ekS evF m (FS.map fun t => (t.f.name, t.at_)) :: HP.all (FS.map fileP) :: r)) :
    Ret P F.disk_Disk_drop #[.pointer (some ⟨d, 0, none⟩), .string n] w fun vs w' => vs = [] ∧ ∃ FS' : List FileM, (FS'.map FileM.f).Perm (dropF n A.fs) ∧ (∀ t ∈ FS', t ∈ FS ∧ t.f.name ≠ n) ∧ (∀ t ∈ FS, t.f.name ≠ n → t ∈ FS') ∧
      Sat w' (pt d (.cells #[.int .i64 A.left, .bool A.gone, .int .i64 A.room, .int .i64 (used (dropF n A.fs)), .map (some m)] T.disk_Disk) :: mapP ekS evF m (FS'.map fun t => (t.f.name, t.at_)) :: HP.all (FS'.map fileP) :: r) :=
  disk_Disk_drop_calls _ n <| by
    unfold disk_Disk_drop
    (repeat (first | with_reducible (first | refine wp_on ?_ | refine wp_nn ?_ | refine wp_nng ?_ | refine wp_ldO hs ?_ | refine wp_ldG hs ?_ | refine wp_untick ?_ | refine wp_tk hs fun _ hs => ?_ | refine wp_newO hs fun _ _ hs => ?_ | refine wp_boxO hs fun _ _ hs => ?_ | refine wp_stO hs fun _ hs => ?_ | refine wp_stG hs fun _ hs => ?_) | (apply wp_must; (focus first | trivial | omega | assumption)) | refine wp_ltw ?_ | refine wp_lt ?_))
    refine wp_look hs (fun b hb => ?_) fun hb => ?_
    · obtain ⟨t, ht, rfl, rfl, hA⟩ := in_fs hp hb
      obtain ⟨FS', hpm, hs⟩ := file_open hs ht
      obtain ⟨h1, h2, -⟩ := apart hp hok hpm
      have hd := dropF_perm h1 h2
      have hu : used A.fs = t.f.b.length + used (dropF t.f.name A.fs) := by rw [used_perm h1, used_cons, used_perm hd]
      have h3 := hok.used
      refine wp_bind ?_
      refine wp_ifT ?_ (by simp)
      refine wp_tk hs fun w' hs => ?_
      refine wp_nn ?_
      refine wp_ldO hs ?_
      refine wp_nn ?_
      refine wp_ldO hs ?_
      rw [hs.slen t.x (xs := t.f.b) (enc := encU), w64e (y := (used (dropF t.f.name A.fs) : Nat))]
      (repeat (first | with_reducible (first | refine wp_on ?_ | refine wp_nn ?_ | refine wp_nng ?_ | refine wp_ldO hs ?_ | refine wp_ldG hs ?_ | refine wp_untick ?_ | refine wp_tk hs fun _ hs => ?_ | refine wp_newO hs fun _ _ hs => ?_ | refine wp_boxO hs fun _ _ hs => ?_ | refine wp_stO hs fun _ hs => ?_ | refine wp_stG hs fun _ hs => ?_) | (apply wp_must; (focus first | trivial | omega | assumption)) | refine wp_ltw ?_ | refine wp_lt ?_))
      refine wp_mdel hs (FS'.map fun t => (t.f.name, t.at_)) (.inl ⟨t.at_, hpm.map _⟩) fun w' hs => ?_
      refine wp_go ?_
      refine ⟨rfl, rfl, FS', hd.symm, fun t' ht' => ⟨hpm.mem_iff.2 (List.mem_cons_of_mem _ ht'), h2 _ (List.mem_map.2 ⟨t', ht', rfl⟩)⟩, fun t' ht' hne => ?_, hs.sub⟩
      rcases List.mem_cons.1 (hpm.mem_iff.1 ht') with rfl | h
      · exact absurd rfl hne
      · exact h
    · have hn := not_fs hp hb
      refine wp_bind ?_
      refine wp_ifF ?_ (by simp)
      refine wp_go ?_
      rw [dropF_none hn]
      exact ⟨rfl, rfl, FS, hp, fun t ht => ⟨ht, hn _ (hp.mem_iff.1 (List.mem_map.2 ⟨t, ht, rfl⟩))⟩, fun t ht _ => ht, hs⟩

theorem okA_drop {A : DiskA} (h : okA A) (n : ByteArray) : okA { A with fs := dropF n A.fs } := by
  have hle : used (dropF n A.fs) ≤ used A.fs := by
    have : ∀ fs : List FileA, used (dropF n fs) ≤ used fs := fun fs => by
      induction fs with
      | nil => exact Nat.le_refl _
      | cons f r ih =>
        unfold dropF at *
        rw [used_cons, List.filter_cons]
        split
        · rw [used_cons]; omega
        · omega
    exact this _
  exact ⟨h.room, Nat.le_trans hle h.used, Nat.le_trans (List.length_filter_le _ _) h.many, h.left, sorted_dropF n h.sorted, fun f hf => h.kept f (mem_dropF.1 hf).1, fun f hf => h.names f (mem_dropF.1 hf).1⟩

/-- A refusal, and what goes on. -/
theorem may_if {k : Prog} {Q : List Value → World → Prop} (hs : Sat w l) [hf : Fo l dk d A r] (h1 : A.gone = true → ∀ w', Sat w' (dk d A :: r) → Q [.int .i64 9] w') (h0 : A.gone = false → ∀ w', Sat w' (dk d A :: r) → k.wp P tt w' fun e vs w => e = 0 ∧ Q vs w) :
    (Prog.call F.disk_Disk_may [.pointer (some ⟨d, 0, none⟩)] (sI .i64) (u1 fun (n0 : Int) => .lt (.int .i64) (n0) fun (n1 : Int) => .ite (n1 != 0) (.lt (.int .i64) (n1) fun (n2 : Int) => .done 0 [.int .i64 n2]) k)).wp P tt w fun e vs w => e = 0 ∧ Q vs w := by
  refine wp_call (may_c hs) fun _ _ hs => ?_
  obtain ⟨rfl, hs⟩ := hs
  refine ret_of ?_
  refine wp_lt ?_
  by_cases hg : A.gone = true
  · rw [if_pos hg]
    refine wp_ifT ?_ (by decide)
    exact wp_lt ⟨rfl, h1 hg _ hs⟩
  · rw [if_neg hg]
    refine wp_ifF ?_ (by decide)
    exact h0 (by simpa using hg) _ hs

theorem remove_c (n : ByteArray) [hf : Fo l dk d A r] (hs : Sat w l) : Ret P F.disk_Disk_Remove #[.pointer (some ⟨d, 0, none⟩), .string n] w fun vs w' => vs = [.int .i64 (remA A n).1] ∧ Sat w' (dk d (remA A n).2 :: r) :=
  disk_Disk_Remove_calls _ n <| by
    unfold disk_Disk_Remove remA
    refine may_if hs (fun hg w' hs => ?_) fun hg w' hs => ?_
    · rw [if_pos hg]; exact ⟨rfl, hs⟩
    rw [if_neg (by rw [hg]; simp)]
    obtain ⟨m, FS, hp, hok, hs⟩ := dk_open hs
    (repeat (first | with_reducible (first | refine wp_on ?_ | refine wp_nn ?_ | refine wp_nng ?_ | refine wp_ldO hs ?_ | refine wp_ldG hs ?_ | refine wp_untick ?_ | refine wp_tk hs fun _ hs => ?_ | refine wp_newO hs fun _ _ hs => ?_ | refine wp_boxO hs fun _ _ hs => ?_ | refine wp_stO hs fun _ hs => ?_ | refine wp_stG hs fun _ hs => ?_) | (apply wp_must; (focus first | trivial | omega | assumption)) | refine wp_ltw ?_ | refine wp_lt ?_))
    refine wp_look hs (fun b hb => ?_) fun hb => ?_
    · obtain ⟨t, ht, rfl, rfl, hA⟩ := in_fs hp hb
      refine wp_ifF ?_ (by simp)
      rw [if_neg (by rw [hasF_iff.2 ⟨_, hA, rfl⟩]; simp)]
      refine wp_call (drop_c t.f.name m hp hok hs) fun _ _ hs => ?_
      obtain ⟨rfl, FS', hp', -, -, hs⟩ := hs
      refine ret_of ?_
      (repeat (first | with_reducible (first | refine wp_on ?_ | refine wp_nn ?_ | refine wp_nng ?_ | refine wp_ldO hs ?_ | refine wp_ldG hs ?_ | refine wp_untick ?_ | refine wp_tk hs fun _ hs => ?_ | refine wp_newO hs fun _ _ hs => ?_ | refine wp_boxO hs fun _ _ hs => ?_ | refine wp_stO hs fun _ hs => ?_ | refine wp_stG hs fun _ hs => ?_) | (apply wp_must; (focus first | trivial | omega | assumption)) | refine wp_ltw ?_ | refine wp_lt ?_))
      rw [hg] at hs
      refine wp_call (spend_dk (l' := r) hg (okA_drop hok t.f.name) hp' hs) fun _ _ hs => ?_
      obtain ⟨rfl, hs⟩ := hs
      refine ret_of ?_
      (repeat (first | with_reducible (first | refine wp_on ?_ | refine wp_nn ?_ | refine wp_nng ?_ | refine wp_ldO hs ?_ | refine wp_ldG hs ?_ | refine wp_untick ?_ | refine wp_tk hs fun _ hs => ?_ | refine wp_newO hs fun _ _ hs => ?_ | refine wp_boxO hs fun _ _ hs => ?_ | refine wp_stO hs fun _ hs => ?_ | refine wp_stG hs fun _ hs => ?_) | (apply wp_must; (focus first | trivial | omega | assumption)) | refine wp_ltw ?_ | refine wp_lt ?_))
      exact ⟨rfl, rfl, hs⟩
    · refine wp_ifT ?_ (by rfl)
      rw [if_pos (hasF_not.2 (not_fs hp hb))]
      exact ⟨rfl, rfl, dk_close m hp hok hs⟩

theorem used_upd {fs fs' : List FileA} {f : FileA} {g : FileA → FileA} (hp : fs.Perm (f :: fs')) (hne : ∀ g ∈ fs', g.name ≠ f.name) : used (fs.map (updF f.name g)) = (g f).b.length + used fs' := by
  rw [used_perm (map_updF_perm hp hne), used_cons]

theorem cut_c (n : ByteArray) (k : Int) [hf : Fo l dk d A r] (hs : Sat w l) : Ret P F.disk_Disk_Cut #[.pointer (some ⟨d, 0, none⟩), .string n, .int .i64 k] w fun vs w' => vs = [.int .i64 (cutA' A n k).1] ∧ Sat w' (dk d (cutA' A n k).2 :: r) :=
  disk_Disk_Cut_calls _ n k <| by
    unfold disk_Disk_Cut cutA'
    refine may_if hs (fun hg w' hs => ?_) fun hg w' hs => ?_
    · rw [if_pos hg]; exact ⟨rfl, hs⟩
    rw [if_neg (by rw [hg]; simp)]
    obtain ⟨m, FS, hp, hok, hs⟩ := dk_open hs
    (repeat (first | with_reducible (first | refine wp_on ?_ | refine wp_nn ?_ | refine wp_nng ?_ | refine wp_ldO hs ?_ | refine wp_ldG hs ?_ | refine wp_untick ?_ | refine wp_tk hs fun _ hs => ?_ | refine wp_newO hs fun _ _ hs => ?_ | refine wp_boxO hs fun _ _ hs => ?_ | refine wp_stO hs fun _ hs => ?_ | refine wp_stG hs fun _ hs => ?_) | (apply wp_must; (focus first | trivial | omega | assumption)) | refine wp_ltw ?_ | refine wp_lt ?_))
    refine wp_look hs (fun b hb => ?_) fun hb => ?_
    · obtain ⟨t, ht, rfl, rfl, hA⟩ := in_fs hp hb
      refine wp_lt ?_
      refine wp_ifF ?_ (by simp)
      rw [if_neg (by rw [hasF_iff.2 ⟨_, hA, rfl⟩]; simp), lenF_eq (names_nodup hok.sorted) hA rfl]
      obtain ⟨FS', hpm, hs⟩ := file_open hs ht
      obtain ⟨h1, h2, -⟩ := apart hp hok hpm
      have hlen := hs.slen t.x (xs := t.f.b) (enc := encU)
      have hcap := (hs.focS t.x).slc_cap
      (repeat (first | with_reducible (first | refine wp_on ?_ | refine wp_nn ?_ | refine wp_nng ?_ | refine wp_ldO hs ?_ | refine wp_ldG hs ?_ | refine wp_untick ?_ | refine wp_tk hs fun _ hs => ?_ | refine wp_newO hs fun _ _ hs => ?_ | refine wp_boxO hs fun _ _ hs => ?_ | refine wp_stO hs fun _ hs => ?_ | refine wp_stG hs fun _ hs => ?_) | (apply wp_must; (focus first | trivial | omega | assumption)) | refine wp_ltw ?_ | refine wp_lt ?_))
      refine wp_if (fun h => ?_) fun h => ?_
      · rw [if_pos (by omega)]
        have hs := (file_close t hs).all_perm (hpm.symm.map fileP)
        exact ⟨rfl, rfl, dk_close m hp hok hs⟩
      · rw [if_neg (by omega)]
        obtain ⟨k, rfl⟩ : ∃ j : Nat, k = j := ⟨k.toNat, by omega⟩
        rw [Int.toNat_natCast]
        have hk : k ≤ t.f.b.length := by omega
        have hu0 : used A.fs = t.f.b.length + used (FS'.map FileM.f) := by rw [used_perm h1, used_cons]
        have hu1 := used_upd (g := fun f => { f with b := f.b.take k, kept := min f.kept k }) h1 h2
        have hu2 : used (A.fs.map (updF t.f.name fun f => { f with b := f.b.take k, kept := min f.kept k })) = k + used (FS'.map FileM.f) := by
          rw [hu1]; show (t.f.b.take k).length + _ = _; rw [List.length_take, Nat.min_eq_left hk]
        have hou := hok.used
        refine wp_tk hs fun w' hs => ?_
        refine wp_nn ?_
        refine wp_ldO hs ?_
        refine wp_nn ?_
        refine wp_ldO hs ?_
        have e1 : IntKind.wrap .i64 ((used A.fs : Nat) - IntKind.wrap .i64 (((t.x.len : Nat) : Int) - (k : Int))) = (used (A.fs.map (updF t.f.name fun f => { f with b := f.b.take k, kept := min f.kept k })) : Nat) := by
          rw [w64 (x := ((t.x.len : Nat) : Int) - (k : Int)) (by omega) (by omega), w64 (by omega) (by omega)]; omega
        rw [e1]
        (repeat (first | with_reducible (first | refine wp_on ?_ | refine wp_nn ?_ | refine wp_nng ?_ | refine wp_ldO hs ?_ | refine wp_ldG hs ?_ | refine wp_untick ?_ | refine wp_tk hs fun _ hs => ?_ | refine wp_newO hs fun _ _ hs => ?_ | refine wp_boxO hs fun _ _ hs => ?_ | refine wp_stO hs fun _ hs => ?_ | refine wp_stG hs fun _ hs => ?_) | (apply wp_must; (focus first | trivial | omega | assumption)) | refine wp_ltw ?_ | refine wp_lt ?_))
        have hs := (hs.focS t.x).slc_cut (n := k) (by omega)
        rw [take_flat] at hs
        have e2 : (if (k : Int) < ((t.f.kept : Nat) : Int) then (k : Int) else ((t.f.kept : Nat) : Int)) = ((min t.f.kept k : Nat) : Int) := by split <;> omega
        rw [e2] at hs
        have hs := file_close (FS := FS') ⟨t.at_, ⟨t.x.a, k, k⟩, ⟨t.f.name, t.f.b.take k, min t.f.kept k⟩⟩ hs
        have hp' : (((⟨t.at_, ⟨t.x.a, k, k⟩, ⟨t.f.name, t.f.b.take k, min t.f.kept k⟩⟩ : FileM) :: FS').map FileM.f).Perm (A.fs.map (updF t.f.name fun f => { f with b := f.b.take k, kept := min f.kept k })) :=
          (map_updF_perm (g := fun f => { f with b := f.b.take k, kept := min f.kept k }) h1 h2).symm
        have hok' : okA { A with fs := A.fs.map (updF t.f.name fun f => { f with b := f.b.take k, kept := min f.kept k }) } := by
          refine ⟨hok.room, by show used (A.fs.map _) ≤ _; omega, by show (A.fs.map _).length ≤ _; rw [List.length_map]; exact hok.many, hok.left, sorted_map (updF_name fun _ => rfl) hok.sorted, fun f hf => ?_, fun f hf => ?_⟩
          rotate_left
          · obtain ⟨g, hg, rfl⟩ := List.mem_map.1 hf
            rw [updF_name (by intro _; rfl)]; exact hok.names g hg
          obtain ⟨g, hg, rfl⟩ := List.mem_map.1 hf
          have := hok.kept g hg
          unfold updF
          split
          · show min g.kept k ≤ (g.b.take k).length; rw [List.length_take]; omega
          · exact this
        have hs : Sat _ (mapP ekS evF m (((⟨t.at_, ⟨t.x.a, k, k⟩, ⟨t.f.name, t.f.b.take k, min t.f.kept k⟩⟩ : FileM) :: FS').map fun t => (t.f.name, t.at_)) :: _) := (hs.pick [2]).mapPerm (hpm.map fun t => (t.f.name, t.at_))
        rw [hg] at hs
        refine wp_call (spend_dk (l' := r) hg hok' hp' hs) fun _ _ hs => ?_
        obtain ⟨rfl, hs⟩ := hs
        refine ret_of ?_
        (repeat (first | with_reducible (first | refine wp_on ?_ | refine wp_nn ?_ | refine wp_nng ?_ | refine wp_ldO hs ?_ | refine wp_ldG hs ?_ | refine wp_untick ?_ | refine wp_tk hs fun _ hs => ?_ | refine wp_newO hs fun _ _ hs => ?_ | refine wp_boxO hs fun _ _ hs => ?_ | refine wp_stO hs fun _ hs => ?_ | refine wp_stG hs fun _ hs => ?_) | (apply wp_must; (focus first | trivial | omega | assumption)) | refine wp_ltw ?_ | refine wp_lt ?_))
        exact ⟨rfl, rfl, hs⟩
    · refine wp_lt ?_
      refine wp_ifT ?_ (by rfl)
      rw [if_pos (hasF_not.2 (not_fs hp hb))]
      exact ⟨rfl, rfl, dk_close m hp hok hs⟩

end
end Go.Dec

namespace Go.Dec
set_option linter.unusedVariables false
set_option linter.unusedSimpArgs false

section
variable {w : World} {l r : List HP} {d : Nat} {A : DiskA}

theorem find_fs {FS : List FileM} (hp : (FS.map FileM.f).Perm A.fs) (hok : okA A) {t : FileM} (ht : t ∈ FS) : A.fs.find? (fun f => decide (f.name = t.f.name)) = some t.f :=
  find_name (names_nodup hok.sorted) (hp.mem_iff.1 (List.mem_map.2 ⟨t, ht, rfl⟩)) rfl

theorem nameF_size {s : ByteArray} (h : nameF s = true) : s.size ≤ 24 := by
  simp only [nameF, Bool.and_eq_true, decide_eq_true_eq] at h; exact h.2.2
theorem dropF_len (n : ByteArray) (fs : List FileA) : (dropF n fs).length ≤ fs.length := List.length_filter_le _ _

theorem okA_ren {A : DiskA} (hok : okA A) {f : FileA} (hf : f ∈ A.fs) (b : ByteArray) (hne : f.name ≠ b) (hb24 : b.size ≤ 24) : okA { A with fs := insF { f with name := b } (dropF b (dropF f.name A.fs)) } := by
  have h1 := okA_drop hok f.name
  have h2 := okA_drop h1 b
  have hp := insF_perm { f with name := b } (dropF b (dropF f.name A.fs))
  obtain ⟨s, u, hsu⟩ := List.append_of_mem hf
  have hpm : A.fs.Perm (f :: (s ++ u)) := by rw [hsu]; exact List.perm_middle
  have hnd := (hpm.map (·.name)).nodup_iff.1 (names_nodup hok.sorted)
  rw [List.map_cons, List.nodup_cons] at hnd
  have hd := dropF_perm hpm fun g hg e => hnd.1 (List.mem_map.2 ⟨g, hg, e⟩)
  have hu : used A.fs = f.b.length + used (dropF f.name A.fs) := by rw [used_perm hpm, used_cons, used_perm hd]
  have hl : A.fs.length = (dropF f.name A.fs).length + 1 := by rw [hpm.length_eq, List.length_cons, hd.length_eq]
  have hu2 : used (dropF b (dropF f.name A.fs)) ≤ used (dropF f.name A.fs) := by
    have : ∀ fs : List FileA, used (dropF b fs) ≤ used fs := fun fs => by
      induction fs with
      | nil => exact Nat.le_refl _
      | cons f r ih =>
        unfold dropF at *
        rw [used_cons, List.filter_cons]
        split
        · rw [used_cons]; omega
        · omega
    exact this _
  refine ⟨hok.room, ?_, ?_, hok.left, ?_, ?_, ?_⟩
  · show used (insF _ _) ≤ _
    rw [used_perm hp, used_cons]
    have := hok.used
    show f.b.length + _ ≤ _
    omega
  · show (insF _ _).length ≤ _
    rw [hp.length_eq, List.length_cons]
    have := dropF_len b (dropF f.name A.fs)
    have := hok.many
    omega
  · exact sorted_insF _ (fun g hg => (mem_dropF.1 hg).2) h2.sorted
  · intro g hg
    rcases mem_insF.1 hg with rfl | hg
    · exact hok.kept f hf
    · exact h2.kept g hg
  · intro g hg
    rcases mem_insF.1 hg with rfl | hg
    · exact hb24
    · exact h2.names g hg

theorem rename_c (a b : ByteArray) [hf : Fo l dk d A r] (hs : Sat w l) : Ret P F.disk_Disk_Rename #[.pointer (some ⟨d, 0, none⟩), .string a, .string b] w fun vs w' => vs = [.int .i64 (renA A a b).1] ∧ Sat w' (dk d (renA A a b).2 :: r) :=
  disk_Disk_Rename_calls _ a b <| by
    unfold disk_Disk_Rename renA
    refine may_if hs (fun hg w' hs => ?_) fun hg w' hs => ?_
    · rw [if_pos hg]; exact ⟨rfl, hs⟩
    rw [if_neg (by rw [hg]; simp)]
    obtain ⟨m, FS, hp, hok, hs⟩ := dk_open hs
    (repeat (first | with_reducible (first | refine wp_on ?_ | refine wp_nn ?_ | refine wp_nng ?_ | refine wp_ldO hs ?_ | refine wp_ldG hs ?_ | refine wp_untick ?_ | refine wp_tk hs fun _ hs => ?_ | refine wp_newO hs fun _ _ hs => ?_ | refine wp_boxO hs fun _ _ hs => ?_ | refine wp_stO hs fun _ hs => ?_ | refine wp_stG hs fun _ hs => ?_) | (apply wp_must; (focus first | trivial | omega | assumption)) | refine wp_ltw ?_ | refine wp_lt ?_))
    refine wp_look hs (fun bl hb => ?_) fun hb => ?_
    · obtain ⟨t, ht, rfl, rfl, hA⟩ := in_fs hp hb
      rw [find_fs hp hok ht]
      dsimp only
      refine wp_lt ?_
      refine wp_ifF ?_ (by simp)
      refine wp_call (name_c b hs) fun _ _ hs => ?_
      obtain ⟨rfl, hs⟩ := hs
      refine ret_of ?_
      refine wp_lt ?_
      refine wp_if (fun h => ?_) fun h => ?_
      · have h : nameF b = false := by simpa using h
        rw [if_pos h]
        exact ⟨rfl, rfl, dk_close m hp hok hs⟩
      have h : nameF b = true := by simpa using h
      rw [if_neg (by rw [h]; simp)]
      refine wp_bind ?_
      by_cases hab : t.f.name = b
      · rw [if_pos hab]
        refine wp_ifF ?_ (by simpa using hab)
        refine wp_go ?_
        (repeat (first | with_reducible (first | refine wp_on ?_ | refine wp_nn ?_ | refine wp_nng ?_ | refine wp_ldO hs ?_ | refine wp_ldG hs ?_ | refine wp_untick ?_ | refine wp_tk hs fun _ hs => ?_ | refine wp_newO hs fun _ _ hs => ?_ | refine wp_boxO hs fun _ _ hs => ?_ | refine wp_stO hs fun _ hs => ?_ | refine wp_stG hs fun _ hs => ?_) | (apply wp_must; (focus first | trivial | omega | assumption)) | refine wp_ltw ?_ | refine wp_lt ?_))
        rw [hg] at hs
        refine wp_call (spend_dk (A := A) (fs' := A.fs) (l' := r) hg hok hp hs) fun _ _ hs => ?_
        obtain ⟨rfl, hs⟩ := hs
        refine ret_of ?_
        (repeat (first | with_reducible (first | refine wp_on ?_ | refine wp_nn ?_ | refine wp_nng ?_ | refine wp_ldO hs ?_ | refine wp_ldG hs ?_ | refine wp_untick ?_ | refine wp_tk hs fun _ hs => ?_ | refine wp_newO hs fun _ _ hs => ?_ | refine wp_boxO hs fun _ _ hs => ?_ | refine wp_stO hs fun _ hs => ?_ | refine wp_stG hs fun _ hs => ?_) | (apply wp_must; (focus first | trivial | omega | assumption)) | refine wp_ltw ?_ | refine wp_lt ?_))
        exact ⟨rfl, rfl, hs⟩
      · rw [if_neg hab]
        refine wp_ifT ?_ (by simpa using hab)
        refine wp_call (drop_c b m hp hok hs) fun _ _ hs => ?_
        obtain ⟨rfl, FS1, hp1, hin1, hin2, hs⟩ := hs
        refine ret_of ?_
        (repeat (first | with_reducible (first | refine wp_on ?_ | refine wp_nn ?_ | refine wp_nng ?_ | refine wp_ldO hs ?_ | refine wp_ldG hs ?_ | refine wp_untick ?_ | refine wp_tk hs fun _ hs => ?_ | refine wp_newO hs fun _ _ hs => ?_ | refine wp_boxO hs fun _ _ hs => ?_ | refine wp_stO hs fun _ hs => ?_ | refine wp_stG hs fun _ hs => ?_) | (apply wp_must; (focus first | trivial | omega | assumption)) | refine wp_ltw ?_ | refine wp_lt ?_))
        have ht1 : t ∈ FS1 := hin2 t ht hab
        obtain ⟨s, u, hsu⟩ := List.append_of_mem ht1
        have hpm : FS1.Perm (t :: (s ++ u)) := by rw [hsu]; exact List.perm_middle
        have hok1 := okA_drop hok b
        obtain ⟨h1, h2, hA1⟩ := apart (A := { A with fs := dropF b A.fs }) hp1 hok1 hpm
        refine wp_mdel hs ((s ++ u).map fun t => (t.f.name, t.at_)) (.inl ⟨t.at_, hpm.map _⟩) fun w' hs => ?_
        (repeat (first | with_reducible (first | refine wp_on ?_ | refine wp_nn ?_ | refine wp_nng ?_ | refine wp_ldO hs ?_ | refine wp_ldG hs ?_ | refine wp_untick ?_ | refine wp_tk hs fun _ hs => ?_ | refine wp_newO hs fun _ _ hs => ?_ | refine wp_boxO hs fun _ _ hs => ?_ | refine wp_stO hs fun _ hs => ?_ | refine wp_stG hs fun _ hs => ?_) | (apply wp_must; (focus first | trivial | omega | assumption)) | refine wp_ltw ?_ | refine wp_lt ?_))
        have hnb : ∀ v, (b, v) ∉ (s ++ u).map fun t => (t.f.name, t.at_) := fun v hv => by
          obtain ⟨t', ht', he⟩ := List.mem_map.1 hv
          simp only [Prod.mk.injEq] at he
          exact (hin1 t' (hpm.mem_iff.2 (List.mem_cons_of_mem _ ht'))).2 he.1
        refine wp_mset hs ((s ++ u).map fun t => (t.f.name, t.at_)) (.inr ⟨hnb, rfl⟩) t.at_ fun w' hs => ?_
        refine wp_go ?_
        (repeat (first | with_reducible (first | refine wp_on ?_ | refine wp_nn ?_ | refine wp_nng ?_ | refine wp_ldO hs ?_ | refine wp_ldG hs ?_ | refine wp_untick ?_ | refine wp_tk hs fun _ hs => ?_ | refine wp_newO hs fun _ _ hs => ?_ | refine wp_boxO hs fun _ _ hs => ?_ | refine wp_stO hs fun _ hs => ?_ | refine wp_stG hs fun _ hs => ?_) | (apply wp_must; (focus first | trivial | omega | assumption)) | refine wp_ltw ?_ | refine wp_lt ?_))
        have hd : (dropF b (dropF t.f.name A.fs)).Perm ((s ++ u).map FileM.f) := by
          have e : dropF b (dropF t.f.name A.fs) = dropF t.f.name (dropF b A.fs) := by unfold dropF; rw [List.filter_filter, List.filter_filter]; congr 1; funext x; rw [Bool.and_comm]
          rw [e]; exact dropF_perm h1 h2
        have hp2 : (((⟨t.at_, t.x, { t.f with name := b }⟩ : FileM) :: (s ++ u)).map FileM.f).Perm (insF { t.f with name := b } (dropF b (dropF t.f.name A.fs))) := by
          rw [List.map_cons]
          exact (List.Perm.cons _ hd.symm).trans (insF_perm _ _).symm
        have hok2 := okA_ren hok hA b hab (nameF_size h)
        obtain ⟨FS2, hpm2, hs⟩ := file_open hs ht1
        have hpm3 : FS2.Perm (s ++ u) := List.Perm.cons_inv (hpm2.symm.trans hpm)
        have hs := file_close (FS := FS2) ⟨t.at_, t.x, { t.f with name := b }⟩ hs
        have hs := hs.all_perm ((List.Perm.cons (⟨t.at_, t.x, { t.f with name := b }⟩ : FileM) hpm3).map fileP)
        have hs : Sat _ (mapP ekS evF m (((⟨t.at_, t.x, { t.f with name := b }⟩ : FileM) :: (s ++ u)).map fun t => (t.f.name, t.at_)) :: _) := hs.pick [1]
        have hu : used (dropF b A.fs) = used (insF { t.f with name := b } (dropF b (dropF t.f.name A.fs))) := by
          rw [used_perm h1, used_cons, used_perm (insF_perm _ _), used_cons, used_perm hd]
        rw [hg] at hs
        refine wp_call (spend_dk (l' := r) hg hok2 hp2 hs (by rw [hu])) fun _ _ hs => ?_
        obtain ⟨rfl, hs⟩ := hs
        refine ret_of ?_
        (repeat (first | with_reducible (first | refine wp_on ?_ | refine wp_nn ?_ | refine wp_nng ?_ | refine wp_ldO hs ?_ | refine wp_ldG hs ?_ | refine wp_untick ?_ | refine wp_tk hs fun _ hs => ?_ | refine wp_newO hs fun _ _ hs => ?_ | refine wp_boxO hs fun _ _ hs => ?_ | refine wp_stO hs fun _ hs => ?_ | refine wp_stG hs fun _ hs => ?_) | (apply wp_must; (focus first | trivial | omega | assumption)) | refine wp_ltw ?_ | refine wp_lt ?_))
        exact ⟨rfl, rfl, hs⟩
    · rw [find_none (not_fs hp hb)]
      refine wp_lt ?_
      refine wp_ifT ?_ (by rfl)
      exact ⟨rfl, rfl, dk_close m hp hok hs⟩

end
end Go.Dec
