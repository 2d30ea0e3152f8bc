/- Wire: what the program's and the document's texts do: numbers, parts joined, readers. -/
import Derived.Test.YtpjfebedfejmgaaGreatWr1
import Derived.Test.YtpjfebedfejmgaaGreatTypes
import Derived.Test.YtpjfebedfejmgaaGreatFns1
import Derived.Test.YtpjfebedfejmgaaGreatOpsW
namespace Go.Dec
set_option linter.unusedVariables false
set_option linter.unusedSimpArgs false

instance : ByE P T.s_uint8 T.uint8 := ⟨by kernel_rfl, by kernel_rfl, by kernel_rfl⟩
instance : StT P T.string := ⟨by kernel_rfl⟩

/-! ### Numbers -/
theorem fdiv_nat (m : Nat) {k : Int} (hk : 0 ≤ k) : Int.fdiv (m : Int) k = ((m / k.toNat : Nat) : Int) := by
  obtain ⟨k, rfl⟩ := Int.eq_ofNat_of_zero_le hk
  rw [Int.fdiv_eq_ediv_of_nonneg _ hk]; rfl
theorem tdiv_nat (m : Nat) {k : Int} (hk : 0 ≤ k) : Int.tdiv (m : Int) k = ((m / k.toNat : Nat) : Int) := by
  obtain ⟨k, rfl⟩ := Int.eq_ofNat_of_zero_le hk
  rfl
theorem tmod_nat (m : Nat) {k : Int} (hk : 0 ≤ k) : Int.tmod (m : Int) k = ((m % k.toNat : Nat) : Int) := by
  obtain ⟨k, rfl⟩ := Int.eq_ofNat_of_zero_le hk
  rfl
theorem wu8m (m : Nat) : IntKind.wrap .u8 (m : Int) = ((m % 256 : Nat) : Int) := by simp [IntKind.wrap, IntKind.bits, IntKind.signed]
theorem wu32m (m : Nat) : IntKind.wrap .u32 (m : Int) = ((m % 4294967296 : Nat) : Int) := by simp [IntKind.wrap, IntKind.bits, IntKind.signed]
theorem wu64m (m : Nat) : IntKind.wrap .u64 (m : Int) = ((m % 18446744073709551616 : Nat) : Int) := by simp [IntKind.wrap, IntKind.bits, IntKind.signed]
theorem or128 (m : Nat) : (BitVec.toNat (BitVec.ofInt 8 (IntKind.wrap .u8 (m : Int)) ||| BitVec.ofInt 8 128)) = m % 128 + 128 := by
  rw [wu8m, BitVec.ofInt_natCast]
  have h : ∀ k : Fin 256, (BitVec.ofNat 8 k.val ||| BitVec.ofInt 8 128).toNat = k.val % 128 + 128 := by decide +kernel
  have := h ⟨m % 256, by omega⟩
  rw [this]
  show m % 256 % 128 + 128 = _
  omega
theorem and127 (m : Nat) (hm : m < 256) : (BitVec.toNat (BitVec.ofInt 8 (m : Int) &&& BitVec.ofInt 8 127)) = m % 128 := by
  rw [BitVec.ofInt_natCast]
  have h : ∀ k : Fin 256, (BitVec.ofNat 8 k.val &&& BitVec.ofInt 8 127).toNat = k.val % 128 := by decide +kernel
  exact h ⟨m, hm⟩
theorem or64 {n c i : Nat} (hn : n < 128 ^ i) (hi : i ≤ 9) (hc : c < 256) (h9 : i = 9 → c ≤ 1) :
    IntKind.wrap .u64 (((BitVec.toNat (BitVec.ofInt 64 (n : Int) ||| BitVec.ofInt 64 (IntKind.wrap .u64 (IntKind.wrap .u64 (IntKind.wrap .u8 (((BitVec.toNat (BitVec.ofInt 8 (c : Int) &&& BitVec.ofInt 8 127) : Nat) : Int))) * 2 ^ min (Int.toNat (IntKind.wrap .i64 (7 * (i : Int)))) 64))) : Nat) : Int)) = ((n + 128 ^ i * (c % 128) : Nat) : Int) := by
  have e1 : min (Int.toNat (IntKind.wrap .i64 (7 * (i : Int)))) 64 = 7 * i := by rw [w64 (by omega) (by omega)]; omega
  have e2 : (2 : Nat) ^ (7 * i) = 128 ^ i := by rw [Nat.pow_mul]
  have hle : 128 ^ i * (c % 128) + 128 ^ i ≤ 18446744073709551616 := by
    have hcase : i = 0 ∨ i = 1 ∨ i = 2 ∨ i = 3 ∨ i = 4 ∨ i = 5 ∨ i = 6 ∨ i = 7 ∨ i = 8 ∨ i = 9 := by omega
    rcases hcase with rfl | rfl | rfl | rfl | rfl | rfl | rfl | rfl | rfl | rfl <;> simp <;> omega
  rw [and127 c hc, e1, wu8m, wu64m (c % 128 % 256), show c % 128 % 256 % 18446744073709551616 = c % 128 by omega]
  have e3 : ((c % 128 : Nat) : Int) * 2 ^ (7 * i) = ((128 ^ i * (c % 128) : Nat) : Int) := by
    rw [← e2, Nat.mul_comm (2 ^ (7 * i)), Int.natCast_mul]; simp
  rw [e3, wu64m (128 ^ i * (c % 128)), BitVec.ofInt_natCast, BitVec.ofInt_natCast, BitVec.toNat_or, BitVec.toNat_ofNat, BitVec.toNat_ofNat, Nat.mod_eq_of_lt (show n < 2 ^ 64 by omega), Nat.mod_mod, Nat.mod_eq_of_lt (show 128 ^ i * (c % 128) < 2 ^ 64 by omega)]
  have h5 := Nat.two_pow_add_eq_or_of_lt (i := 7 * i) (b := n) (by rw [e2]; exact hn) (c % 128)
  rw [e2] at h5
  rw [Nat.or_comm, ← h5, wu64m, Nat.mod_eq_of_lt (by omega), Nat.add_comm]

section
variable {w : World} {l r : List HP} {Q : Post} {S : World → Prop}
theorem wuint_c (n : Nat) (hn : n < 18446744073709551616) (hs : Sat w l) : Ret P F.wire_Uint #[.int .u64 (n : Int)] w fun vs w' => ∃ z : Sl, vs = [z.v] ∧ Sat w' (slc T.uint8 1 z ((uintL n).flatMap encU) :: l) :=
  wire_Uint_calls n <| by
    unfold wire_Uint
    refine wp_mid (fun u w' => ∃ (m : Nat) (z : Sl) (acc : List UInt8), u = ((m : Int), z, ()) ∧ m < 128 ∧ acc.length ≤ 9 ∧ uintL n = acc ++ [UInt8.ofNat m] ∧ Sat w' (slc T.uint8 1 z (acc.flatMap encU) :: l)) ?_ ?_
    · refine wp_loop (fun k u w => ∃ (z : Sl) (acc : List UInt8), u = ((k : Int), z, ()) ∧ k < 18446744073709551616 ∧ uintL n = acc ++ uintL k ∧ Sat w (slc T.uint8 1 z (acc.flatMap encU) :: l)) n ⟨⟨none, 0, 0⟩, [], rfl, hn, rfl, hs.slc_nil⟩ ?_
      clear hs
      rintro k _ w ⟨z, acc, rfl, hk, he, hs⟩
      refine wp_on ?_
      have hal : acc.length ≤ 9 := by
        have h1 := congrArg List.length he
        rw [List.length_append] at h1
        have h2 := uintL_len n
        have h3 := uintL_len k
        omega
      refine wp_if (fun h => ?_) fun h => ?_
      · rw [uintL_eq hk, if_neg (by omega)] at he
        refine wp_ap0 hs (xs := acc) (enc := encU) (UInt8.ofNat (k % 128 + 128)) (fun z w' hs => ?_) ?_
        · refine wp_ltx (y := ((k / 128 : Nat) : Int)) ?_ (fdiv_nat k (by decide))
          refine wp_lp (k / 128) ?_
          exact ⟨z, acc ++ [UInt8.ofNat (k % 128 + 128)], rfl, by omega, by rw [he]; simp, hs⟩
        · unfold encU
          rw [or128, wu8m]
          simp
      · rw [uintL_eq hk, if_pos (by omega)] at he
        exact wp_pass (wp_lv ⟨k, z, acc, rfl, by omega, hal, he, hs⟩)
    clear hs
    rintro _ w ⟨m, z, acc, rfl, hm, hal, he, hs⟩
    refine wp_on ?_
    refine wp_ap0 hs (xs := acc) (enc := encU) (UInt8.ofNat m) (fun z w' hs => ?_) ?_
    · refine ⟨rfl, z, rfl, ?_⟩
      rw [he]; exact hs
    · unfold encU
      rw [wu8m]
      simp

theorem duint_c : ∀ (k n : Nat) {w : World} {l : List HP}, n < 128 ^ (k + 1) → n < 18446744073709551616 → Sat w l → Ret P F.towpathref01_Uint #[.int .u64 (n : Int)] w fun vs w' => ∃ z : Sl, vs = [z.v] ∧ Sat w' (slc T.uint8 1 z ((uintL n).flatMap encU) :: l) := by
  intro k
  induction k with
  | zero =>
    intro n w l hn h64 hs
    refine towpathref01_Uint_calls n ?_
    unfold towpathref01_Uint
    rw [uintL_eq h64, if_pos (by omega)]
    refine wp_ifT ?_ (by omega)
    refine wp_slit1 hs (enc := encU) (UInt8.ofNat n) (fun z w' hs => ⟨rfl, z, rfl, hs⟩) ?_
    unfold encU
    rw [wu8m]; simp
  | succ k ih =>
    intro n w l hn h64 hs
    refine towpathref01_Uint_calls n ?_
    unfold towpathref01_Uint
    rw [uintL_eq h64]
    refine wp_if (fun h => ?_) fun h => ?_
    · rw [if_pos (by omega)]
      refine wp_slit1 hs (enc := encU) (UInt8.ofNat n) (fun z w' hs => ⟨rfl, z, rfl, hs⟩) ?_
      unfold encU
      rw [wu8m]; simp
    · rw [if_neg (by omega)]
      have e1 : IntKind.wrap .u64 (Int.tmod (n : Int) 128 + 128) = ((n % 128 + 128 : Nat) : Int) := by
        rw [tmod_nat n (by decide)]
        have : ((n % Int.toNat 128 : Nat) : Int) + 128 = ((n % 128 + 128 : Nat) : Int) := rfl
        rw [this, wu64m]; omega
      have e2 : IntKind.wrap .u64 (Int.tdiv (n : Int) 128) = ((n / 128 : Nat) : Int) := by
        rw [tdiv_nat n (by decide), wu64m]
        show ((n / 128 % _ : Nat) : Int) = _
        omega
      rw [e1, e2]
      refine wp_slit1 hs (enc := encU) (UInt8.ofNat (n % 128 + 128)) (fun y w' hs => ?_) ?_
      · refine wp_call (ih (n / 128) (by rw [Nat.pow_succ] at hn; omega) (by omega) hs) fun _ _ hs => ?_
        obtain ⟨z, rfl, hs⟩ := hs
        refine ret_of ?_
        have hl := uintL_len (n / 128)
        have hs := hs.pick [1, 0]
        refine wp_app' (xs := [UInt8.ofNat (n % 128 + 128)]) (ys := uintL (n / 128)) (enc := encU) hs (fun z w' hs => ?_) (by simp; omega)
        have hs : Sat _ (slc T.uint8 1 z ((UInt8.ofNat (n % 128 + 128) :: uintL (n / 128)).flatMap encU) :: _) := hs
        exact ⟨rfl, z, rfl, hs.sub⟩
      · unfold encU
        rw [wu8m]; simp

theorem wjoin_c (x : Sl) (ps : List (Sl × List UInt8)) [hx : FocR l x 1 ((ps.map Prod.fst).flatMap encSl)] (hps : ∀ p ∈ ps, FocR l p.1 1 (p.2.flatMap encU)) (hpl : ps.length ≤ 1000000) (hn : (ps.flatMap Prod.snd).length ≤ 1000000000) (hs : Sat w l) :
    Ret P F.wire_Join #[x.v] w fun vs w' => ∃ z : Sl, vs = [z.v] ∧ Sat w' (slc T.uint8 1 z ((ps.flatMap Prod.snd).flatMap encU) :: l) :=
  wire_Join_calls x <| by
    unfold wire_Join
    have hl := hs.slen x (xs := ps.map Prod.fst) (enc := encSl)
    rw [List.length_map] at hl
    have hstep : ∀ i (hi : i < ps.length), (ps.take (i + 1)).flatMap Prod.snd = (ps.take i).flatMap Prod.snd ++ ps[i].2 := fun i hi => by
      rw [List.take_add_one, List.getElem?_eq_getElem hi, Option.toList_some, List.flatMap_append, List.flatMap_singleton]
    have hmany : ∀ i, ((ps.take i).flatMap Prod.snd).length ≤ 1000000000 := fun i => by
      have : ps.flatMap Prod.snd = (ps.take i).flatMap Prod.snd ++ (ps.drop i).flatMap Prod.snd := by rw [← List.flatMap_append, List.take_append_drop]
      rw [this, List.length_append] at hn
      omega
    refine wp_mid (fun u w' => u = ((((ps.flatMap Prod.snd).length : Nat) : Int), ()) ∧ Sat w' l) ?_ ?_
    · refine wp_loop (fun k u w => ∃ i : Nat, u = (((((ps.take i).flatMap Prod.snd).length : Nat) : Int), (i : Int), ()) ∧ i ≤ ps.length ∧ ps.length - i = k ∧ Sat w l) ps.length ⟨0, rfl, by omega, rfl, hs⟩ ?_
      clear hs
      rintro k _ w ⟨i, rfl, hi, hk, hs⟩
      refine wp_on ?_
      refine wp_if (fun hc => ?_) fun hc => ?_
      rotate_left
      · refine wp_pass (wp_lv ⟨?_, hs⟩)
        rw [List.take_of_length_le (by omega)]
      have hil : i < ps.length := by omega
      refine wp_ix1 hs (xs := ps.map Prod.fst) (enc := encSl) i (by rw [List.length_map]; exact hil) ?_
      rw [List.getElem_map]
      have hF := hps _ (List.getElem_mem hil)
      have hpi := hs.slen ps[i].1 (xs := ps[i].2) (enc := encU)
      have h1 := hmany (i + 1)
      have h2 := congrArg List.length (hstep i hil)
      rw [List.length_append] at h2
      have e : IntKind.wrap .i64 (((((ps.take i).flatMap Prod.snd).length : Nat) : Int) + ((ps[i].1.len : Nat) : Int)) = ((((ps.take (i + 1)).flatMap Prod.snd).length : Nat) : Int) := by rw [w64 (by omega) (by omega)]; omega
      refine wp_lw e ?_
      refine wp_dn (us' := [.int .i64 ((((ps.take (i + 1)).flatMap Prod.snd).length : Nat) : Int), .int .i64 ((i + 1 : Nat) : Int)]) (by (try simp (disch := omega) only [w64]); first | rfl | (congr; omega)) ?_
      refine wp_lp (ps.length - (i + 1)) ?_
      exact ⟨i + 1, rfl, by omega, rfl, hs⟩
    clear hs
    rintro _ w ⟨rfl, hs⟩
    refine wp_on ?_
    refine wp_make (ps.flatMap Prod.snd).length hs fun z w' hs => ?_
    refine wp_mid (fun u w' => ∃ z : Sl, u = (z, ()) ∧ Sat w' (slc T.uint8 1 z ((ps.flatMap Prod.snd).flatMap encU) :: l)) ?_ (by rintro _ w' ⟨z, rfl, hs⟩; refine wp_on ?_; exact ⟨rfl, z, rfl, hs⟩)
    refine wp_loop (fun k u w => ∃ (i : Nat) (z : Sl), u = (z, (i : Int), ()) ∧ i ≤ ps.length ∧ ps.length - i = k ∧ Sat w (slc T.uint8 1 z (((ps.take i).flatMap Prod.snd).flatMap encU) :: l)) ps.length ⟨0, z, rfl, by omega, rfl, hs⟩ ?_
    clear hs
    rintro k _ w ⟨i, z, rfl, hi, hk, hs⟩
    refine wp_on ?_
    refine wp_if (fun hc => ?_) fun hc => ?_
    rotate_left
    · refine wp_pass (wp_lv ⟨z, rfl, ?_⟩)
      rw [List.take_of_length_le (by omega)] at hs
      exact hs
    have hil : i < ps.length := by omega
    refine wp_ix1 hs (xs := ps.map Prod.fst) (enc := encSl) i (by rw [List.length_map]; exact hil) ?_
    rw [List.getElem_map]
    have hF := hps _ (List.getElem_mem hil)
    have h1 := hmany (i + 1)
    rw [hstep i hil, List.length_append] at h1
    refine wp_app' (xs := (ps.take i).flatMap Prod.snd) (ys := ps[i].2) (enc := encU) hs (fun z w' hs => ?_)
    rw [← hstep i hil] at hs
    refine wp_dn (us' := [z.v, .int .i64 ((i + 1 : Nat) : Int)]) (by (try simp (disch := omega) only [w64]); first | rfl | (congr; omega)) ?_
    refine wp_lp (ps.length - (i + 1)) ?_
    exact ⟨i + 1, z, rfl, by omega, rfl, hs⟩

theorem bclone_c (x : Sl) (bs : List UInt8) [hx : FocR l x 1 (bs.flatMap encU)] (hn : bs.length ≤ 1000000000) (hs : Sat w l) :
    Ret P F.bytes_Clone #[x.v] w fun vs w' => ∃ z : Sl, vs = [z.v] ∧ Sat w' (slc T.uint8 1 z (bs.flatMap encU) :: l) :=
  bytes_Clone_calls x <| by
    unfold bytes_Clone
    have hl := hs.slen x (xs := bs) (enc := encU)
    refine wp_if (fun h => ?_) fun h => ?_
    · have h : x.a = none := by simpa using h
      have : bs = [] := by
        obtain ⟨h1, h2 | ⟨b, off, arr, T', fr, ha, -⟩⟩ := hx.rd w hs
        · exact List.length_eq_zero_iff.1 (by omega)
        · rw [h] at ha; cases ha
      subst this
      exact ⟨rfl, ⟨none, 0, 0⟩, rfl, hs.slc_nil⟩
    · refine wp_slit hs (enc := encU) [] bs0 (fun b w' hs => ?_)
      refine wp_app' (xs := []) (ys := bs) (enc := encU) hs (fun z w' hs => ?_) (by simp; omega)
      exact ⟨rfl, z, rfl, hs⟩

/-! ### Readers -/
structure RdM where
  bs : List UInt8
  at_ : Nat
  e : Int
def RdM.fail (R : RdM) (e : Int) : RdM := ⟨R.bs, R.at_, if R.e = 0 then e else R.e⟩
def RdM.uint (R : RdM) : Nat × RdM := if R.e ≠ 0 then (0, R) else match numR 0 (R.bs.drop R.at_) with
  | some p => (p.1, ⟨R.bs, R.at_ + p.2, R.e⟩)
  | none => (0, ⟨R.bs, R.at_, 6⟩)
def RdM.done (R : RdM) : RdM := if R.at_ < R.bs.length then R.fail 6 else R
def rdP (T' : TypeId) (p : Nat) (R : RdM) : HP := HP.ex fun x : Sl => HP.and (R.at_ ≤ R.bs.length ∧ R.bs.length ≤ 1000000000) (HP.star (pt p (.cells #[.slice x.a x.len x.cap, .int .i64 R.at_, .int .i64 R.e] T')) (slc T.uint8 1 x (R.bs.flatMap encU)))
theorem rd_open {T' : TypeId} {p : Nat} {R : RdM} (hs : Sat w (rdP T' p R :: l)) : ∃ x : Sl, (R.at_ ≤ R.bs.length ∧ R.bs.length ≤ 1000000000) ∧ Sat w (pt p (.cells #[.slice x.a x.len x.cap, .int .i64 R.at_, .int .i64 R.e] T') :: slc T.uint8 1 x (R.bs.flatMap encU) :: l) := by
  obtain ⟨x, hs⟩ := hs.ex
  obtain ⟨h, hs⟩ := hs.and
  exact ⟨x, h, hs.star⟩
theorem rd_close {T' : TypeId} {p : Nat} (R : RdM) {x : Sl} (h : R.at_ ≤ R.bs.length ∧ R.bs.length ≤ 1000000000) (hs : Sat w (pt p (.cells #[.slice x.a x.len x.cap, .int .i64 R.at_, .int .i64 R.e] T') :: slc T.uint8 1 x (R.bs.flatMap encU) :: l)) : Sat w (rdP T' p R :: l) :=
  .ex_mk x (.and_mk h (.star_mk hs))
theorem uint_bs (R : RdM) : (R.uint.2).bs = R.bs := by
  unfold RdM.uint
  split
  · rfl
  · split <;> rfl

variable {p : Nat} {R : RdM}

theorem newreader_c (x : Sl) (bs : List UInt8) [hx : FocR l x 1 (bs.flatMap encU)] (hn : bs.length ≤ 1000000000) (hs : Sat w l) :
    Ret P F.wire_NewReader #[x.v] w fun vs w' => ∃ p : Nat, vs = [.pointer (some ⟨p, 0, none⟩)] ∧ Sat w' (rdP T.wire_Reader p ⟨bs, 0, 0⟩ :: l) :=
  wire_NewReader_calls x <| by
    unfold wire_NewReader
    refine wp_call (bclone_c x bs hn hs) fun _ _ hs => ?_
    obtain ⟨z, rfl, hs⟩ := hs
    refine ret_of ?_
    refine wp_boxO hs fun p w' hs => ?_
    exact ⟨rfl, p, rfl, rd_close ⟨bs, 0, 0⟩ ⟨Nat.zero_le _, hn⟩ hs⟩

theorem left_c [hf : Fo l (rdP T.wire_Reader) p R r] (hs : Sat w l) : Ret P F.wire_place_left #[.pointer (some ⟨p, 0, none⟩)] w fun vs w' => vs = [.int .i64 ((R.bs.length - R.at_ : Nat) : Int)] ∧ Sat w' (rdP T.wire_Reader p R :: r) :=
  wire_place_left_calls _ <| by
    unfold wire_place_left
    obtain ⟨x, hb, hs⟩ := rd_open (hs.perm hf.perm)
    have hl := hs.slen x (xs := R.bs) (enc := encU)
    refine wp_tk hs fun w' hs => ?_
    refine wp_nn ?_
    refine wp_ldO hs ?_
    refine wp_nn ?_
    refine wp_ldO hs ?_
    refine wp_ltx (y := ((R.bs.length - R.at_ : Nat) : Int)) ?_ (by rw [w64 (by omega) (by omega)]; omega)
    refine wp_untick ?_
    exact ⟨rfl, rfl, rd_close R hb hs⟩

theorem pfail_c (e : Int) [hf : Fo l (rdP T.wire_Reader) p R r] (hs : Sat w l) : Ret P F.wire_place_fail #[.pointer (some ⟨p, 0, none⟩), .int .i64 e] w fun vs w' => vs = [] ∧ Sat w' (rdP T.wire_Reader p (R.fail e) :: r) :=
  wire_place_fail_calls _ e <| by
    unfold wire_place_fail
    obtain ⟨x, hb, hs⟩ := rd_open (hs.perm hf.perm)
    refine wp_nn ?_
    refine wp_ldO hs ?_
    refine wp_mid (fun _ w' => Sat w' (rdP T.wire_Reader p (R.fail e) :: r)) ?_ (by rintro _ w' hs; refine wp_on ?_; exact ⟨rfl, rfl, hs⟩)
    refine wp_if (fun h => ?_) fun h => ?_
    · refine wp_nn ?_
      refine wp_stO hs fun w' hs => ?_
      refine wp_lv ?_
      have e1 : R.fail e = ⟨R.bs, R.at_, e⟩ := by unfold RdM.fail; rw [if_pos h]
      rw [e1]
      exact rd_close ⟨R.bs, R.at_, e⟩ hb hs
    · have e1 : R.fail e = R := by unfold RdM.fail; rw [if_neg h]
      rw [e1]
      exact wp_lv (rd_close R hb hs)

theorem puint_c [hf : Fo l (rdP T.wire_Reader) p R r] (he : R.e = 0) (hs : Sat w l) : Ret P F.wire_place_uint #[.pointer (some ⟨p, 0, none⟩)] w fun vs w' => vs = [.int .u64 ((R.uint.1 : Nat) : Int)] ∧ Sat w' (rdP T.wire_Reader p R.uint.2 :: r) :=
  wire_place_uint_calls _ <| by
    unfold wire_place_uint
    have hs := hs.perm hf.perm
    refine wp_mid (fun _ w' => numR 0 (R.bs.drop R.at_) = none ∧ Sat w' (rdP T.wire_Reader p R :: r)) ?_ ?_
    rotate_left
    · rintro _ w' ⟨hno, hs⟩
      refine wp_on ?_
      refine wp_call (pfail_c (p := p) 6 hs) fun _ _ hs => ?_
      obtain ⟨rfl, hs⟩ := hs
      refine ret_of ?_
      have e1 : R.uint = (0, R.fail 6) := by unfold RdM.uint RdM.fail; rw [if_neg (by rw [he]; simp), hno, if_pos he]
      rw [e1]
      exact ⟨rfl, rfl, hs⟩
    refine wp_loop (fun k u w => ∃ i n : Nat, u = ((n : Int), (i : Int), ()) ∧ i ≤ 10 ∧ 10 - i = k ∧ n < 128 ^ i ∧ numR 0 (R.bs.drop R.at_) = (numR i ((R.bs.drop R.at_).drop i)).map (fun q => (n + 128 ^ i * q.1, i + q.2)) ∧ Sat w (rdP T.wire_Reader p R :: r)) 10
      ⟨0, 0, rfl, by omega, rfl, by simp, by simp, hs⟩ ?_
    clear hs
    rintro k _ w ⟨i, n, rfl, hi, hk, hn, hnum, hs⟩
    refine wp_on ?_
    refine wp_if (fun hc => ?_) fun hc => ?_
    rotate_left
    · refine wp_pass (wp_lv ⟨?_, hs⟩)
      rw [hnum]
      have : numR i ((R.bs.drop R.at_).drop i) = none := by
        cases (R.bs.drop R.at_).drop i with
        | nil => rfl
        | cons c q => rw [numR_cons, if_pos (by omega)]
      rw [this]; rfl
    refine wp_call (left_c (p := p) hs) fun _ _ hs => ?_
    obtain ⟨rfl, hs⟩ := hs
    refine ret_of ?_
    refine wp_if (fun hc2 => ?_) fun hc2 => ?_
    · refine wp_pass (wp_lv ⟨?_, hs⟩)
      rw [hnum, List.drop_drop, List.drop_eq_nil_of_le (by omega)]; rfl
    obtain ⟨x, hb, hs⟩ := rd_open hs
    have hl := hs.slen x (xs := R.bs) (enc := encU)
    have hlt : R.at_ + i < R.bs.length := by omega
    refine wp_tk hs fun w' hs => ?_
    refine wp_nn ?_
    refine wp_ldO hs ?_
    refine wp_nn ?_
    refine wp_ldO hs ?_
    refine wp_ix1 hs (xs := R.bs) (enc := encU) (R.at_ + i) hlt ?_ (by rw [w64 (by omega) (by omega)]; omega)
    rw [List.drop_drop, List.drop_eq_getElem_cons hlt] at hnum
    generalize R.bs[R.at_ + i] = c at hnum
    have hc256 := c.toNat_lt
    refine wp_lt ?_
    refine wp_untick ?_
    have hz : ∀ {X : Option (Nat × Nat)}, numR i (c :: R.bs.drop (R.at_ + i + 1)) = X → numR 0 (R.bs.drop R.at_) = X.map (fun q => (n + 128 ^ i * q.1, i + q.2)) := fun {X} h => by rw [hnum, h]
    refine wp_if (fun h9 => ?_) fun h9 => ?_
    · refine wp_pass (wp_lv ⟨?_, rd_close R hb hs⟩)
      refine hz (X := none) ?_
      rw [numR_cons]
      rw [if_pos (by right; omega)]
    refine wp_must (by rw [w64 (by omega) (by omega)]; omega) ?_
    have h91 : i = 9 → c.toNat ≤ 1 := fun e => by
      apply Nat.le_of_not_lt
      intro h
      exact h9 ⟨by omega, by omega⟩
    rw [or64 hn (by omega) (by omega) h91]
    refine wp_lt ?_
    refine wp_if (fun h128 => ?_) fun h128 => ?_
    · refine wp_ltx (y := ((i + 1 : Nat) : Int)) ?_ (by rw [w64 (by omega) (by omega)]; omega)
      refine wp_lp (10 - (i + 1)) ?_
      have hpos : 0 < 128 ^ i := Nat.pow_pos (by decide)
      have hmul : 128 ^ i * (c.toNat % 128) ≤ 128 ^ i * 127 := Nat.mul_le_mul_left _ (by omega)
      refine ⟨i + 1, _, rfl, by omega, rfl, by rw [Nat.pow_succ]; omega, ?_, rd_close R hb hs⟩
      rw [hnum]
      rw [numR_cons]
      rw [if_neg (by omega), if_pos (by omega), List.drop_drop, ← Nat.add_assoc]
      cases numR (i + 1) (R.bs.drop (R.at_ + i + 1)) with
      | none => rfl
      | some q =>
        simp only [Option.map_some, Option.some.injEq, Prod.mk.injEq]
        refine ⟨?_, by omega⟩
        rw [Nat.pow_succ, Nat.mul_add, Nat.mul_assoc, Nat.add_assoc]
    refine wp_if (fun h0 => ?_) fun h0 => ?_
    · refine wp_pass (wp_lv ⟨?_, rd_close R hb hs⟩)
      refine hz (X := none) ?_
      rw [numR_cons]
      rw [if_neg (by omega), if_neg (by omega), if_pos (by omega)]
    have hsome := hz (X := some (c.toNat, 1)) (by rw [numR_cons, if_neg (by omega), if_neg (by omega), if_neg (by omega)])
    have e1 : R.uint = (n + 128 ^ i * c.toNat, ⟨R.bs, R.at_ + (i + 1), R.e⟩) := by
      unfold RdM.uint
      rw [if_neg (by rw [he]; simp), hsome]; rfl
    rw [e1]
    refine wp_nn ?_
    refine wp_ldO hs ?_
    refine wp_nn ?_
    have e2 : IntKind.wrap .i64 ((R.at_ : Int) + IntKind.wrap .i64 ((i : Int) + 1)) = ((R.at_ + (i + 1) : Nat) : Int) := by rw [w64 (x := (i : Int) + 1) (by omega) (by omega), w64 (by omega) (by omega)]; omega
    rw [e2]
    refine wp_stO hs fun w' hs => ?_
    refine wp_lt ?_
    refine wp_pass (wp_pass ⟨rfl, ?_, rd_close ⟨R.bs, R.at_ + (i + 1), R.e⟩ ⟨by show R.at_ + (i + 1) ≤ R.bs.length; omega, hb.2⟩ hs⟩)
    rw [show c.toNat % 128 = c.toNat by omega]

theorem good_c [hf : Fo l (rdP T.wire_Reader) p R r] (hs : Sat w l) : Ret P F.wire_Reader_good #[.pointer (some ⟨p, 0, none⟩)] w fun vs w' => vs = [.bool (decide (R.e = 0))] ∧ Sat w' (rdP T.wire_Reader p R :: r) :=
  wire_Reader_good_calls _ <| by
    unfold wire_Reader_good
    obtain ⟨x, hb, hs⟩ := rd_open (hs.perm hf.perm)
    refine wp_nng ?_
    refine wp_ldO hs ?_
    refine wp_lt ?_
    refine ⟨rfl, ?_, rd_close R hb hs⟩
    by_cases h : R.e = 0 <;> simp [h]

theorem ruint_c [hf : Fo l (rdP T.wire_Reader) p R r] (hs : Sat w l) : Ret P F.wire_Reader_Uint #[.pointer (some ⟨p, 0, none⟩)] w fun vs w' => vs = [.int .u64 ((R.uint.1 : Nat) : Int)] ∧ Sat w' (rdP T.wire_Reader p R.uint.2 :: r) :=
  wire_Reader_Uint_calls _ <| by
    unfold wire_Reader_Uint
    refine wp_call (good_c (p := p) hs) fun _ _ hs => ?_
    obtain ⟨rfl, hs⟩ := hs
    refine ret_of ?_
    refine wp_if (fun h => ?_) fun h => ?_
    · have h : R.e ≠ 0 := by simpa using h
      have e1 : R.uint = (0, R) := by unfold RdM.uint; rw [if_pos h]
      rw [e1]
      exact ⟨rfl, rfl, hs⟩
    · have h : R.e = 0 := by simpa using h
      refine wp_nn ?_
      refine wp_call (puint_c (p := p) h hs) fun _ _ hs => ?_
      obtain ⟨rfl, hs⟩ := hs
      refine ret_of ?_
      refine wp_lt ?_
      exact ⟨rfl, rfl, hs⟩

theorem rerr_c [hf : Fo l (rdP T.wire_Reader) p R r] (hs : Sat w l) : Ret P F.wire_Reader_Err #[.pointer (some ⟨p, 0, none⟩)] w fun vs w' => vs = [.int .i64 R.e] ∧ Sat w' (rdP T.wire_Reader p R :: r) :=
  wire_Reader_Err_calls _ <| by
    unfold wire_Reader_Err
    obtain ⟨x, hb, hs⟩ := rd_open (hs.perm hf.perm)
    refine wp_ifF ?_ (by simp)
    refine wp_nn ?_
    refine wp_ldO hs ?_
    refine wp_lt ?_
    exact ⟨rfl, rfl, rd_close R hb hs⟩

theorem rend_c [hf : Fo l (rdP T.wire_Reader) p R r] (hs : Sat w l) : Ret P F.wire_Reader_End #[.pointer (some ⟨p, 0, none⟩)] w fun vs w' => vs = [.int .i64 R.done.e] ∧ Sat w' (rdP T.wire_Reader p R.done :: r) :=
  wire_Reader_End_calls _ <| by
    unfold wire_Reader_End
    refine wp_ifF ?_ (by simp)
    refine wp_nn ?_
    refine wp_call (left_c (p := p) hs) fun _ _ hs => ?_
    obtain ⟨rfl, hs⟩ := hs
    refine ret_of ?_
    refine wp_mid (fun _ w' => Sat w' (rdP T.wire_Reader p R.done :: r)) ?_ ?_
    · unfold RdM.done
      refine wp_if (fun h => ?_) fun h => ?_
      · rw [if_pos (by omega)]
        refine wp_nn ?_
        refine wp_call (pfail_c (p := p) 6 hs) fun _ _ hs => ?_
        obtain ⟨rfl, hs⟩ := hs
        refine ret_of ?_
        exact wp_lv hs
      · rw [if_neg (by omega)]
        exact wp_lv hs
    clear hs
    rintro _ w hs
    refine wp_on ?_
    obtain ⟨x, hb, hs⟩ := rd_open hs
    refine wp_nn ?_
    refine wp_ldO hs ?_
    refine wp_lt ?_
    exact ⟨rfl, rfl, rd_close R.done hb hs⟩

/-! ### The document's reader -/
end
end Go.Dec
