/- Disks: what they hold, in plain words, and what memory holds for them. -/
import Derived.Test.YtnfaklmndojeaaaFns0
import Derived.Test.YtnfaklmndojeaaaTypes
import Derived.Test.YtnfaklmndojeaaaOpsY
namespace Go.Dec
set_option linter.unusedVariables false
set_option linter.unusedSimpArgs false

theorem bytes_ext {a b : ByteArray} (h : a.data.toList = b.data.toList) : a = b := by
  cases a; cases b; exact congrArg ByteArray.mk (Array.ext' h)

/-! ### Order of texts -/
theorem less_irrefl : ∀ x : List UInt8, Op.bytesLess x x = false
  | [] => rfl
  | a :: x => by rw [Op.bytesLess, less_irrefl x]; simp
theorem less_trans : ∀ {x y z : List UInt8}, Op.bytesLess x y = true → Op.bytesLess y z = true → Op.bytesLess x z = true
  | [], _, [], _, h => by cases ‹List UInt8› <;> simp [Op.bytesLess] at h
  | [], _, _ :: _, _, _ => rfl
  | _ :: _, [], _, h, _ => by simp [Op.bytesLess] at h
  | _ :: _, _ :: _, [], _, h => by simp [Op.bytesLess] at h
  | a :: x, b :: y, c :: z, h1, h2 => by
    simp only [Op.bytesLess, Bool.or_eq_true, decide_eq_true_eq, Bool.and_eq_true, beq_iff_eq] at h1 h2 ⊢
    rcases h1 with h1 | ⟨rfl, h1⟩
    · rcases h2 with h2 | ⟨rfl, h2⟩
      · exact .inl (UInt8.lt_trans h1 h2)
      · exact .inl h1
    · rcases h2 with h2 | ⟨rfl, h2⟩
      · exact .inl h2
      · exact .inr ⟨rfl, less_trans h1 h2⟩
theorem less_total : ∀ (x y : List UInt8), Op.bytesLess x y = true ∨ x = y ∨ Op.bytesLess y x = true
  | [], [] => .inr (.inl rfl)
  | [], _ :: _ => .inl rfl
  | _ :: _, [] => .inr (.inr rfl)
  | a :: x, b :: y => by
    simp only [Op.bytesLess, Bool.or_eq_true, decide_eq_true_eq, Bool.and_eq_true, beq_iff_eq, List.cons.injEq]
    rcases Nat.lt_trichotomy a.toNat b.toNat with h | h | h
    · exact .inl (.inl (UInt8.lt_iff_toNat_lt.2 h))
    · have := UInt8.toNat_inj.1 h
      subst this
      rcases less_total x y with h | rfl | h
      · exact .inl (.inr ⟨rfl, h⟩)
      · exact .inr (.inl ⟨rfl, rfl⟩)
      · exact .inr (.inr (.inr ⟨rfl, h⟩))
    · exact .inr (.inr (.inl (UInt8.lt_iff_toNat_lt.2 h)))
/-- A text comes ahead of another. -/
def ltS (a b : ByteArray) : Bool := Op.bytesLess (ByteArray.toList a) (ByteArray.toList b)
theorem ltS_irrefl (a : ByteArray) : ltS a a = false := less_irrefl _
theorem ltS_trans {a b c : ByteArray} (h1 : ltS a b = true) (h2 : ltS b c = true) : ltS a c = true := less_trans h1 h2
theorem ltS_total (a b : ByteArray) : ltS a b = true ∨ a = b ∨ ltS b a = true := by
  rcases less_total (ByteArray.toList a) (ByteArray.toList b) with h | h | h
  · exact .inl h
  · exact .inr (.inl (bytes_toList.1 h))
  · exact .inr (.inr h)
theorem ltS_asymm {a b : ByteArray} (h : ltS a b = true) : ltS b a = false := by
  cases hb : ltS b a with
  | false => rfl
  | true => have := ltS_trans h hb; rw [ltS_irrefl] at this; cases this

/-! ### Disks -/
structure FileA where
  name : ByteArray
  b : List UInt8
  kept : Nat
structure DiskA where
  room : Nat
  left : Int
  gone : Bool
  fs : List FileA

def used (fs : List FileA) : Nat := (fs.map fun f => f.b.length).sum
def DiskA.free (A : DiskA) : Nat := A.room - used A.fs
def okC (c : UInt8) : Bool := (97 ≤ c.toNat && c.toNat ≤ 122) || (48 ≤ c.toNat && c.toNat ≤ 57) || c.toNat == 46 || c.toNat == 45
def nameF (s : ByteArray) : Bool := s.data.toList.all okC && (1 ≤ s.size && s.size ≤ 24)
def hasF (fs : List FileA) (n : ByteArray) : Bool := fs.any fun f => decide (f.name = n)
def doneA (A : DiskA) : DiskA := if A.left > 0 then { A with left := A.left - 1, gone := decide (A.left - 1 = 0) } else A
/-- One file, changed. -/
def updF (n : ByteArray) (g : FileA → FileA) (f : FileA) : FileA := if f.name = n then g f else f
def insF (x : FileA) : List FileA → List FileA
  | [] => [x]
  | f :: r => if ltS x.name f.name then x :: f :: r else f :: insF x r
def dropF (n : ByteArray) (fs : List FileA) : List FileA := fs.filter fun f => !decide (f.name = n)

def appendA (A : DiskA) (n : ByteArray) (bs : List UInt8) : Int × DiskA :=
  if A.gone then (9, A) else if nameF n = false then (2, A) else if bs.length > A.free ∨ (hasF A.fs n = false ∧ A.fs.length ≥ 128) then (5, A) else
    (0, doneA { A with fs := if hasF A.fs n then A.fs.map (updF n fun f => { f with b := f.b ++ bs }) else insF ⟨n, bs, 0⟩ A.fs })
def asked (ns : List ByteArray) (n : ByteArray) : Bool := ns.isEmpty || ns.any fun m => decide (m = n)
def syncF (ns : List ByteArray) (f : FileA) : FileA := if asked ns f.name then { f with kept := f.b.length } else f
def syncA (A : DiskA) (ns : List ByteArray) : Int × DiskA :=
  if A.gone then (9, A) else if ns.all (hasF A.fs) = false then (3, A) else (0, doneA { A with fs := A.fs.map (syncF ns) })
def lenF (fs : List FileA) (n : ByteArray) : Nat := match fs.find? fun f => decide (f.name = n) with
  | some f => f.b.length
  | none => 0
def cutA' (A : DiskA) (n : ByteArray) (k : Int) : Int × DiskA :=
  if A.gone then (9, A) else if hasF A.fs n = false then (3, A) else if k < 0 ∨ k > lenF A.fs n then (2, A) else
    (0, doneA { A with fs := A.fs.map (updF n fun f => { f with b := f.b.take k.toNat, kept := min f.kept k.toNat }) })
def renA (A : DiskA) (a b : ByteArray) : Int × DiskA :=
  if A.gone then (9, A) else match A.fs.find? fun f => decide (f.name = a) with
    | none => (3, A)
    | some f => if nameF b = false then (2, A) else (0, doneA (if a = b then A else { A with fs := insF { f with name := b } (dropF b (dropF a A.fs)) }))
def remA (A : DiskA) (n : ByteArray) : Int × DiskA :=
  if A.gone then (9, A) else if hasF A.fs n = false then (3, A) else (0, doneA { A with fs := dropF n A.fs })
def fuseA (A : DiskA) (n : Int) : DiskA := if A.gone then A else { A with left := if n < 0 then -1 else n, gone := decide (n = 0) }
def lastN (f : FileA) (more : Int) : Nat := f.kept + (min more.toNat (f.b.length - f.kept))
def pickN (ps : List Int) (i : Nat) : Int := if ps = [] then 0 else ps.getD (i % ps.length) 0
def crashF (ps : List Int) (f : FileA) (i : Nat) : FileA := { f with b := f.b.take (lastN f (pickN ps i)), kept := lastN f (pickN ps i) }
def crashA (A : DiskA) (ps : List Int) : DiskA := ⟨A.room, -1, false, A.fs.mapIdx fun i f => crashF ps f i⟩

/-- What stays so. -/
structure okA (A : DiskA) : Prop where
  room : A.room ≤ 4194304
  used : used A.fs ≤ 4194304
  many : A.fs.length ≤ 128
  left : -1 ≤ A.left ∧ A.left ≤ 9223372036854775807
  sorted : A.fs.Pairwise fun a b => ltS a.name b.name = true
  kept : ∀ f ∈ A.fs, f.kept ≤ f.b.length
  names : ∀ f ∈ A.fs, f.name.size ≤ 24

theorem used_cons (f : FileA) (fs : List FileA) : used (f :: fs) = f.b.length + used fs := by simp [used]
theorem used_perm {a b : List FileA} (h : a.Perm b) : used a = used b := (h.map _).sum_nat
theorem used_mem : ∀ {fs : List FileA} {f : FileA}, f ∈ fs → f.b.length ≤ used fs
  | g :: r, f, h => by
    rw [used_cons]
    rcases List.mem_cons.1 h with rfl | h
    · omega
    · have := used_mem h; omega
theorem names_nodup {fs : List FileA} (h : fs.Pairwise fun a b => ltS a.name b.name = true) : (fs.map (·.name)).Nodup := by
  rw [List.Nodup, List.pairwise_map]
  exact h.imp fun {a b} hab e => by rw [e, ltS_irrefl] at hab; cases hab
theorem hasF_iff {fs : List FileA} {n : ByteArray} : hasF fs n = true ↔ ∃ f ∈ fs, f.name = n := by simp [hasF]
theorem hasF_not {fs : List FileA} {n : ByteArray} : hasF fs n = false ↔ ∀ f ∈ fs, f.name ≠ n := by simp [hasF]

/-! ### What memory holds -/
instance : ByE P T.s_uint8 T.uint8 := ⟨by kernel_rfl, by kernel_rfl, by kernel_rfl⟩
instance : StT P T.string := ⟨by kernel_rfl⟩
instance : KeyT P T.string ekS := keyT_str (by kernel_rfl)
instance : MapT P T.m_string_p_disk_file T.string (.pointer none) := ⟨T.p_disk_file, by kernel_rfl, by kernel_rfl⟩

abbrev evF (b : Nat) : Value := .pointer (some ⟨b, 0, none⟩)
/-- A file: its block, its bytes' slice, what it is. -/
structure FileM where
  at_ : Nat
  x : Sl
  f : FileA
def fileP (t : FileM) : HP := HP.star (pt t.at_ (.cells #[t.x.v, .int .i64 t.f.kept] T.disk_file)) (slc T.uint8 1 t.x (t.f.b.flatMap encU))
def dk (d : Nat) (A : DiskA) : HP := HP.ex fun m : Nat => HP.ex fun FS : List FileM => HP.and ((FS.map (·.f)).Perm A.fs ∧ okA A)
  (HP.star (pt d (.cells #[.int .i64 A.left, .bool A.gone, .int .i64 A.room, .int .i64 (used A.fs), .map (some m)] T.disk_Disk))
    (HP.star (mapP ekS evF m (FS.map fun t => (t.f.name, t.at_))) (HP.all (FS.map fileP))))

section
variable {w : World} {l r : List HP}

theorem Sat.all_nil (hs : Sat w l) : Sat w (HP.all [] :: l) :=
  ⟨⟨fun _ => none, World.env' w⟩, World.ph w, ⟨(fun _ _ h => by cases h), rfl⟩, PH.sub_refl _, (fun _ => Or.inl rfl), trivial, hs⟩
theorem Sat.all_cons {a : HP} {L : List HP} (hs : Sat w (HP.all (a :: L) :: l)) : Sat w (a :: HP.all L :: l) := by
  refine Sat.star (A := a) (B := HP.all L) (hs.imp fun p h => ?_)
  obtain ⟨p1, p2, h1, h2, hd, hA, hl⟩ := h
  exact ⟨p1, p2, h1, h2, hd, hA, hl⟩
theorem Sat.all_put {a : HP} {L : List HP} (hs : Sat w (a :: HP.all L :: l)) : Sat w (HP.all (a :: L) :: l) := by
  refine (Sat.star_mk (A := a) (B := HP.all L) hs).imp fun p h => ?_
  obtain ⟨p1, p2, h1, h2, hd, hA, hl⟩ := h
  exact ⟨p1, p2, h1, h2, hd, hA, hl⟩
theorem Sat.all_perm {L L' : List HP} (hp : L.Perm L') (hs : Sat w (HP.all L :: l)) : Sat w (HP.all L' :: l) := hs.imp fun p h => satL_perm hp h

theorem dk_open {d : Nat} {A : DiskA} (hs : Sat w (dk d A :: l)) : ∃ (m : Nat) (FS : List FileM), (FS.map FileM.f).Perm A.fs ∧ okA A ∧
    Sat w (pt d (.cells #[.int .i64 A.left, .bool A.gone, .int .i64 A.room, .int .i64 (used A.fs), .map (some m)] T.disk_Disk) :: mapP ekS evF m (FS.map fun t => (t.f.name, t.at_)) :: HP.all (FS.map fileP) :: l) := by
  obtain ⟨m, hs⟩ := hs.ex
  obtain ⟨FS, hs⟩ := hs.ex
  obtain ⟨⟨h1, h2⟩, hs⟩ := hs.and
  have hs := hs.star
  have hs := (hs.pick [1]).star
  exact ⟨m, FS, h1, h2, hs.pick [2, 0, 0]⟩
theorem dk_shut {d : Nat} {A : DiskA} {m : Nat} {FS : List FileM} (hp : (FS.map FileM.f).Perm A.fs) (hok : okA A)
    (hs : Sat w (pt d (.cells #[.int .i64 A.left, .bool A.gone, .int .i64 A.room, .int .i64 (used A.fs : Nat), .map (some m)] T.disk_Disk) :: mapP ekS evF m (FS.map fun t => (t.f.name, t.at_)) :: HP.all (FS.map fileP) :: l)) : Sat w (dk d A :: l) := by
  refine .ex_mk m (.ex_mk FS (.and_mk ⟨hp, hok⟩ (.star_mk ?_)))
  refine (Sat.star_mk (hs.pick [1, 1])).pick [1]
/-- A disk, put together again out of its parts. -/
theorem dk_close {d : Nat} {A : DiskA} (m : Nat) {FS : List FileM} {r1 r2 r3 l' : List HP} {u : Int} (hp : (FS.map FileM.f).Perm A.fs) (hok : okA A) (hs : Sat w l)
    [h1 : FocB l d (.cells [.int .i64 A.left, .bool A.gone, .int .i64 A.room, .int .i64 u, .map (some m)].toArray T.disk_Disk) r1] [h2 : FoM r1 m ekS evF (FS.map fun t => (t.f.name, t.at_)) r2] [h3 : Foc r2 (HP.all (FS.map fileP)) r3] [h4 : Sub r3 l']
    (hu : u = (used A.fs : Nat) := by rfl) : Sat w (dk d A :: l') := by
  subst hu
  have h5 : Sat w (dk d A :: r3) := dk_shut hp hok (hs.perm (h1.perm.trans (.cons _ (h2.perm.trans (.cons _ h3.perm)))))
  exact h5.sub
/-- One file's parts. -/
theorem file_open {FS : List FileM} {t : FileM} (hs : Sat w l) [h : Foc l (HP.all (FS.map fileP)) r] (ht : t ∈ FS) : ∃ FS', FS.Perm (t :: FS') ∧
    Sat w (pt t.at_ (.cells #[t.x.v, .int .i64 t.f.kept] T.disk_file) :: slc T.uint8 1 t.x (t.f.b.flatMap encU) :: HP.all (FS'.map fileP) :: r) := by
  obtain ⟨s, u, rfl⟩ := List.append_of_mem ht
  have hp : (s ++ t :: u).Perm (t :: (s ++ u)) := List.perm_middle
  exact ⟨s ++ u, hp, (((hs.perm h.perm).all_perm (hp.map fileP)).all_cons).star⟩
/-- A file, put together again. -/
theorem file_close {FS : List FileM} (t : FileM) {r1 r2 r3 : List HP} (hs : Sat w l) [h1 : FocB l t.at_ (.cells [.slice t.x.a t.x.len t.x.cap, .int .i64 t.f.kept].toArray T.disk_file) r1] [h2 : FocS r1 t.x T.uint8 1 (t.f.b.flatMap encU) r2] [h3 : Foc r2 (HP.all (FS.map fileP)) r3] :
    Sat w (HP.all ((t :: FS).map fileP) :: r3) :=
  Sat.all_put (Sat.star_mk (A := pt t.at_ (.cells #[t.x.v, .int .i64 t.f.kept] T.disk_file)) (B := slc T.uint8 1 t.x (t.f.b.flatMap encU)) (hs.perm (h1.perm.trans (.cons _ (h2.perm.trans (.cons _ h3.perm))))))
end

end Go.Dec
