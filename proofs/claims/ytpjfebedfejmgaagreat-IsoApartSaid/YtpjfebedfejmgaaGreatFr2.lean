/- Frames: what the program's and the document's texts do: sums, four bytes, frames sealed and opened. -/
import Derived.Test.YtpjfebedfejmgaaGreatFr1
import Derived.Test.YtpjfebedfejmgaaGreatWr2
namespace Go.Dec
set_option linter.unusedVariables false
set_option linter.unusedSimpArgs false

/-! ### Words of 32 bits as numbers -/
theorem bvi (s : BitVec 32) : BitVec.ofInt 32 ((s.toNat : Nat) : Int) = s := by rw [BitVec.ofInt_natCast, BitVec.ofNat_toNat, BitVec.setWidth_eq]
theorem wbv (s : BitVec 32) : IntKind.wrap .u32 ((s.toNat : Nat) : Int) = ((s.toNat : Nat) : Int) := by rw [wu32m, Nat.mod_eq_of_lt s.isLt]
theorem bvz (s : BitVec 32) : (0 ^^^ s) = s := by simp
theorem not_eq (s : BitVec 32) : BitVec.ofInt 32 4294967295 ^^^ BitVec.ofInt 32 ((s.toNat : Nat) : Int) = ~~~ s := by
  rw [bvi]
  have : BitVec.ofInt 32 4294967295 = BitVec.allOnes 32 := by decide +kernel
  rw [this, BitVec.allOnes_xor]
theorem halve (s : BitVec 32) : BitVec.ofInt 32 (Int.fdiv ((s.toNat : Nat) : Int) 2) = s >>> 1 := by
  rw [fdiv_nat _ (by decide), BitVec.ofInt_natCast]
  apply BitVec.eq_of_toNat_eq
  have := s.isLt
  rw [BitVec.toNat_ofNat, BitVec.toNat_ushiftRight, Nat.shiftRight_eq_div_pow]
  show s.toNat / 2 % 2 ^ 32 = s.toNat / 2 ^ 1
  omega
theorem neg_eq (s : BitVec 32) : BitVec.ofInt 32 (IntKind.wrap .u32 (0 - ((s.toNat : Nat) : Int))) = 0#32 - s := by
  apply BitVec.eq_of_toNat_eq
  have := s.isLt
  have e : IntKind.wrap .u32 (0 - ((s.toNat : Nat) : Int)) = (((4294967296 - s.toNat) % 4294967296 : Nat) : Int) := by
    simp [IntKind.wrap, IntKind.bits, IntKind.signed]; omega
  rw [e, BitVec.ofInt_natCast, BitVec.toNat_ofNat, BitVec.toNat_sub]
  simp
theorem step_eq (s : BitVec 32) : IntKind.wrap .u32 (((BitVec.toNat (BitVec.ofInt 32 (Int.fdiv ((s.toNat : Nat) : Int) 2) ^^^ BitVec.ofInt 32 (IntKind.wrap .u32 (((BitVec.toNat (BitVec.ofInt 32 3988292384 &&& BitVec.ofInt 32 (IntKind.wrap .u32 (0 - IntKind.wrap .u32 (((BitVec.toNat (BitVec.ofInt 32 ((s.toNat : Nat) : Int) &&& BitVec.ofInt 32 1) : Nat) : Int))))) : Nat) : Int)))) : Nat) : Int)) = (((crcS s).toNat : Nat) : Int) := by
  rw [wbv, wbv, wbv, bvi, bvi, neg_eq, halve]
  rfl
theorem xor_byte (s : BitVec 32) (c : UInt8) : IntKind.wrap .u32 (((BitVec.toNat (BitVec.ofInt 32 ((s.toNat : Nat) : Int) ^^^ BitVec.ofInt 32 (IntKind.wrap .u32 ((c.toNat : Nat) : Int))) : Nat) : Int)) = (((s ^^^ BitVec.ofNat 32 c.toNat).toNat : Nat) : Int) := by
  have := c.toNat_lt
  rw [wbv, bvi, wu32m, Nat.mod_eq_of_lt (by omega), BitVec.ofInt_natCast]

section
variable {w : World} {l r : List HP} {Q : Post} {S : World → Prop}

theorem crcL_take (s : BitVec 32) (bs : List UInt8) (i : Nat) (hi : i < bs.length) : crcL s (bs.take (i + 1)) = crcB (crcL s (bs.take i)) bs[i] := by
  unfold crcL
  rw [List.take_add_one, List.getElem?_eq_getElem hi, Option.toList_some, List.foldl_append]; rfl

theorem fmore_c (m : BitVec 32) (x : Sl) (ps : List (Sl × List UInt8)) [hx : FocR l x 1 ((ps.map Prod.fst).flatMap encSl)] (hps : ∀ p ∈ ps, FocR l p.1 1 (p.2.flatMap encU) ∧ p.2.length ≤ 1000000000) (hpl : ps.length ≤ 1000000) (hs : Sat w l) :
    Ret P F.frame_More #[.int .u32 ((m.toNat : Nat) : Int), x.v] w fun vs w' => vs = [.int .u32 (((moreL m (ps.flatMap Prod.snd)).toNat : Nat) : Int)] ∧ Sat w' l :=
  frame_More_calls _ x <| by
    unfold frame_More
    have hl := hs.slen x (xs := ps.map Prod.fst) (enc := encSl)
    rw [List.length_map] at hl
    rw [not_eq, wbv]
    refine wp_lt ?_
    refine wp_mid (fun u w' => u = ((((crcL (~~~ m) (ps.flatMap Prod.snd)).toNat : Nat) : Int), ()) ∧ Sat w' l) ?_ ?_
    rotate_left
    · rintro _ w' ⟨rfl, hs⟩
      refine wp_on ?_
      rw [not_eq, wbv]
      refine wp_lt ?_
      exact ⟨rfl, rfl, hs⟩
    refine wp_loop (fun k u w => ∃ i : Nat, u = ((((crcL (~~~ m) ((ps.take i).flatMap Prod.snd)).toNat : Nat) : Int), (i : Int), ()) ∧ i ≤ ps.length ∧ ps.length - i = k ∧ Sat w l) ps.length ⟨0, rfl, by omega, rfl, hs⟩ ?_
    clear hs
    rintro k _ w ⟨i, rfl, hi, hk, hs⟩
    refine wp_on ?_
    refine wp_if (fun hc => ?_) fun hc => ?_
    rotate_left
    · refine wp_pass (wp_lv ⟨?_, hs⟩)
      rw [List.take_of_length_le (by omega)]
    have hil : i < ps.length := by omega
    obtain ⟨hF, hpl2⟩ := hps _ (List.getElem_mem hil)
    have hpi := hs.slen ps[i].1 (xs := ps[i].2) (enc := encU)
    refine wp_mid (fun u w' => u = ((((crcL (~~~ m) ((ps.take (i + 1)).flatMap Prod.snd)).toNat : Nat) : Int), ()) ∧ Sat w' l) ?_ ?_
    rotate_left
    · rintro _ w' ⟨rfl, hs⟩
      refine wp_on ?_
      refine wp_dn (us' := [.int .u32 (((crcL (~~~ m) ((ps.take (i + 1)).flatMap Prod.snd)).toNat : Nat) : Int), .int .i64 ((i + 1 : Nat) : Int)]) (by (try simp (disch := omega) only [w64]); first | rfl | (congr; omega)) ?_
      refine wp_lp (ps.length - (i + 1)) ?_
      exact ⟨i + 1, rfl, by omega, rfl, hs⟩
    refine wp_ix1 hs (xs := ps.map Prod.fst) (enc := encSl) i (by rw [List.length_map]; exact hil) ?_
    rw [List.getElem_map]
    have hto : crcL (~~~ m) ((ps.take (i + 1)).flatMap Prod.snd) = crcL (crcL (~~~ m) ((ps.take i).flatMap Prod.snd)) ps[i].2 := by
      rw [List.take_add_one, List.getElem?_eq_getElem hil, Option.toList_some, List.flatMap_append, List.flatMap_singleton]
      unfold crcL
      rw [List.foldl_append]
    rw [hto]
    generalize crcL (~~~ m) ((ps.take i).flatMap Prod.snd) = s0
    generalize ps[i] = q at *
    refine wp_mid (fun u w' => u = ((((crcL s0 q.2).toNat : Nat) : Int), ()) ∧ Sat w' l) ?_ (by rintro _ w' ⟨rfl, hs⟩; refine wp_on ?_; exact wp_lv ⟨rfl, hs⟩)
    refine wp_loop (fun k u w => ∃ j : Nat, u = ((((crcL s0 (q.2.take j)).toNat : Nat) : Int), (j : Int), ()) ∧ j ≤ q.2.length ∧ q.2.length - j = k ∧ Sat w l) q.2.length ⟨0, rfl, by omega, rfl, hs⟩ ?_
    clear hs
    rintro k _ w ⟨j, rfl, hj, hk, hs⟩
    refine wp_on ?_
    refine wp_if (fun hc => ?_) fun hc => ?_
    rotate_left
    · refine wp_pass (wp_lv ⟨?_, hs⟩)
      rw [List.take_of_length_le (by omega)]
    have hjl : j < q.2.length := by omega
    refine wp_mid (fun u w' => u = ((((crcL s0 (q.2.take (j + 1))).toNat : Nat) : Int), ()) ∧ Sat w' l) ?_ ?_
    rotate_left
    · rintro _ w' ⟨rfl, hs⟩
      refine wp_on ?_
      refine wp_dn (us' := [.int .u32 (((crcL s0 (q.2.take (j + 1))).toNat : Nat) : Int), .int .i64 ((j + 1 : Nat) : Int)]) (by (try simp (disch := omega) only [w64]); first | rfl | (congr; omega)) ?_
      refine wp_lp (q.2.length - (j + 1)) ?_
      exact ⟨j + 1, rfl, by omega, rfl, hs⟩
    refine wp_ix1 hs (xs := q.2) (enc := encU) j hjl ?_
    refine wp_lt ?_
    rw [xor_byte]
    refine wp_lt ?_
    rw [crcL_take s0 q.2 j hjl]
    generalize crcL s0 (q.2.take j) = s1
    show Prog.wp P _ _ _ _
    refine wp_mid (fun u w' => u = ((((crcB s1 q.2[j]).toNat : Nat) : Int), ()) ∧ Sat w' l) ?_ (by rintro _ w' ⟨rfl, hs⟩; refine wp_on ?_; exact wp_lv ⟨rfl, hs⟩)
    unfold crcB
    generalize s1 ^^^ BitVec.ofNat 32 q.2[j].toNat = s2
    refine wp_loop (fun k u w => ∃ i : Nat, u = ((((crcN i s2).toNat : Nat) : Int), (i : Int), ()) ∧ i ≤ 8 ∧ 8 - i = k ∧ Sat w l) 8 ⟨0, rfl, by omega, rfl, hs⟩ ?_
    clear hs
    rintro k _ w ⟨i, rfl, hi, hk, hs⟩
    refine wp_on ?_
    refine wp_if (fun hc => ?_) fun hc => ?_
    rotate_left
    · obtain rfl : i = 8 := by omega
      exact wp_pass (wp_lv ⟨rfl, hs⟩)
    rw [step_eq]
    refine wp_lt ?_
    refine wp_dn (us' := [.int .u32 (((crcS (crcN i s2)).toNat : Nat) : Int), .int .i64 ((i + 1 : Nat) : Int)]) (by (try simp (disch := omega) only [w64]); first | rfl | (congr; omega)) ?_
    refine wp_lp (8 - (i + 1)) ?_
    exact ⟨i + 1, rfl, by omega, rfl, hs⟩

theorem fsum_c (x : Sl) (ps : List (Sl × List UInt8)) [hx : FocR l x 1 ((ps.map Prod.fst).flatMap encSl)] (hps : ∀ p ∈ ps, FocR l p.1 1 (p.2.flatMap encU) ∧ p.2.length ≤ 1000000000) (hpl : ps.length ≤ 1000000) (hs : Sat w l) :
    Ret P F.frame_Sum #[x.v] w fun vs w' => vs = [.int .u32 ((sumL (ps.flatMap Prod.snd) : Nat) : Int)] ∧ Sat w' l :=
  frame_Sum_calls x <| by
    unfold frame_Sum
    refine wp_call (fmore_c 0#32 x ps hps hpl hs) fun _ _ hs => ?_
    obtain ⟨rfl, hs⟩ := hs
    refine ret_of ?_
    refine wp_lt ?_
    exact ⟨rfl, rfl, hs⟩
theorem fsum1_c (x y : Sl) (bs : List UInt8) [hx : FocR l x 1 ([y].flatMap encSl)] [hy : FocR l y 1 (bs.flatMap encU)] (hn : bs.length ≤ 1000000000) (hs : Sat w l) :
    Ret P F.frame_Sum #[x.v] w fun vs w' => vs = [.int .u32 ((sumL bs : Nat) : Int)] ∧ Sat w' l := by
  have := @fsum_c w l x [(y, bs)] hx (by intro p hp; rw [List.mem_singleton.1 hp]; exact ⟨hy, hn⟩) (by simp) hs
  simpa using this

/-- A byte that is told. -/
theorem enc_u8 {n : Int} {m : Nat} (h : n = (m : Int)) : [Value.int .u8 (IntKind.wrap .u8 n)] = encU (UInt8.ofNat m) := by
  unfold encU
  rw [h, wu8m]; simp

theorem ffour_c (n : Nat) (hn : n < 4294967296) (hs : Sat w l) : Ret P F.frame_four #[.int .u32 (n : Int)] w fun vs w' => ∃ z : Sl, vs = [z.v] ∧ Sat w' (slc T.uint8 1 z ((fourL n).flatMap encU) :: l) :=
  frame_four_calls n <| by
    unfold frame_four
    have e0 : IntKind.wrap .u8 (n : Int) = (((UInt8.ofNat n).toNat : Nat) : Int) := by rw [wu8m]; simp
    have e1 : IntKind.wrap .u8 (Int.fdiv (n : Int) 256) = (((UInt8.ofNat (n / 256)).toNat : Nat) : Int) := by rw [fdiv_nat n (by decide), wu8m]; simp
    have e2 : IntKind.wrap .u8 (Int.fdiv (n : Int) 65536) = (((UInt8.ofNat (n / 65536)).toNat : Nat) : Int) := by rw [fdiv_nat n (by decide), wu8m]; simp
    have e3 : IntKind.wrap .u8 (Int.fdiv (n : Int) 16777216) = (((UInt8.ofNat (n / 16777216)).toNat : Nat) : Int) := by rw [fdiv_nat n (by decide), wu8m]; simp
    rw [e0, e1, e2, e3]
    refine wp_slit hs (enc := encU) (fourL n) (cs := ((fourL n).flatMap encU).toArray) (by kernel_rfl) (fun b w' hs => ?_) (by simp)
    exact ⟨rfl, _, rfl, hs⟩

theorem dfour_c (n : Nat) (hn : n < 4294967296) (hs : Sat w l) : Ret P F.towpathref02_four #[.int .u32 (n : Int)] w fun vs w' => ∃ z : Sl, vs = [z.v] ∧ Sat w' (slc T.uint8 1 z ((fourL n).flatMap encU) :: l) :=
  towpathref02_four_calls n <| by
    unfold towpathref02_four
    refine wp_mid (fun u w' => ∃ z : Sl, u = (z, ()) ∧ Sat w' (slc T.uint8 1 z ((fourL n).flatMap encU) :: l)) ?_ (by rintro _ w' ⟨z, rfl, hs⟩; refine wp_on ?_; exact ⟨rfl, z, rfl, hs⟩)
    refine wp_loop (fun k u w => ∃ (i : Nat) (z : Sl), u = (((n / 256 ^ i : Nat) : Int), z, (i : Int), ()) ∧ i ≤ 4 ∧ 4 - i = k ∧ Sat w (slc T.uint8 1 z (((fourL n).take i).flatMap encU) :: l)) 4 ⟨0, ⟨none, 0, 0⟩, by simp, by omega, rfl, hs.slc_nil⟩ ?_
    clear hs
    rintro k _ w ⟨i, z, rfl, hi, hk, hs⟩
    refine wp_on ?_
    refine wp_if (fun hc => ?_) fun hc => ?_
    rotate_left
    · obtain rfl : i = 4 := by omega
      exact wp_pass (wp_lv ⟨z, rfl, hs⟩)
    have hil : i < (fourL n).length := by rw [four_len]; omega
    have hto : (fourL n).take (i + 1) = (fourL n).take i ++ [UInt8.ofNat (n / 256 ^ i)] := by
      rw [List.take_add_one, List.getElem?_eq_getElem hil, Option.toList_some]
      congr 2
      have hcase : i = 0 ∨ i = 1 ∨ i = 2 ∨ i = 3 := by omega
      rcases hcase with rfl | rfl | rfl | rfl <;> simp [fourL]
    have hlen : ((fourL n).take i).length ≤ 4 := by rw [List.length_take]; omega
    refine wp_ap0 hs (xs := (fourL n).take i) (enc := encU) (UInt8.ofNat (n / 256 ^ i)) (fun z w' hs => ?_) ?_
    · rw [← hto] at hs
      have hlt : n / 256 ^ i ≤ n := Nat.div_le_self ..
      refine wp_ltx (y := ((n / 256 ^ (i + 1) : Nat) : Int)) ?_ ?_
      · refine wp_ltx (y := ((i + 1 : Nat) : Int)) ?_ (by rw [w64 (by omega) (by omega)]; omega)
        refine wp_lp (4 - (i + 1)) ?_
        exact ⟨i + 1, z, rfl, by omega, rfl, hs⟩
      · rw [tdiv_nat _ (by decide), wu32m, Nat.pow_succ, ← Nat.div_div_eq_div_mul]
        generalize n / 256 ^ i = m at hlt
        congr 1
        show m / 256 % _ = m / 256
        omega
    · rw [tmod_nat _ (by decide)]
      unfold encU
      rw [wu8m]
      simp

theorem or_parts {a b c d : Nat} (ha : a < 256) (hb : b < 256) (hc : c < 256) (hd : d < 256) :
    IntKind.wrap .u32 (((BitVec.toNat (BitVec.ofInt 32 (IntKind.wrap .u32 (((BitVec.toNat (BitVec.ofInt 32 (IntKind.wrap .u32 (((BitVec.toNat (BitVec.ofInt 32 (IntKind.wrap .u32 (a : Int)) ||| BitVec.ofInt 32 (IntKind.wrap .u32 (IntKind.wrap .u32 (b : Int) * 256))) : Nat) : Int))) ||| BitVec.ofInt 32 (IntKind.wrap .u32 (IntKind.wrap .u32 (c : Int) * 65536))) : Nat) : Int))) ||| BitVec.ofInt 32 (IntKind.wrap .u32 (IntKind.wrap .u32 (d : Int) * 16777216))) : Nat) : Int)) = ((a + 256 * b + 65536 * c + 16777216 * d : Nat) : Int) := by
  have wm : ∀ {m : Nat}, m < 4294967296 → IntKind.wrap .u32 (m : Int) = (m : Int) := fun {m} h => by rw [wu32m, Nat.mod_eq_of_lt h]
  have or2 : ∀ {x y i : Nat}, x < 2 ^ i → y * 2 ^ i + x < 4294967296 → BitVec.toNat (BitVec.ofInt 32 (x : Int) ||| BitVec.ofInt 32 ((y * 2 ^ i : Nat) : Int)) = x + y * 2 ^ i := fun {x y i} h1 h2 => by
    rw [BitVec.ofInt_natCast, BitVec.ofInt_natCast, BitVec.toNat_or, BitVec.toNat_ofNat, BitVec.toNat_ofNat, Nat.mod_eq_of_lt (show x < 2 ^ 32 by omega), Nat.mod_eq_of_lt (show y * 2 ^ i < 2 ^ 32 by omega), Nat.or_comm, Nat.mul_comm, ← Nat.two_pow_add_eq_or_of_lt h1, Nat.add_comm]
  have m1 : ((b : Nat) : Int) * 256 = ((b * 2 ^ 8 : Nat) : Int) := rfl
  have m2 : ((c : Nat) : Int) * 65536 = ((c * 2 ^ 16 : Nat) : Int) := rfl
  have m3 : ((d : Nat) : Int) * 16777216 = ((d * 2 ^ 24 : Nat) : Int) := rfl
  rw [wm (show a < _ by omega), wm (show b < _ by omega), wm (show c < _ by omega), wm (show d < _ by omega), m1, m2, m3, wm (show b * 2 ^ 8 < _ by omega), wm (show c * 2 ^ 16 < _ by omega), wm (show d * 2 ^ 24 < _ by omega),
    or2 (by omega) (by omega), wm (show a + b * 2 ^ 8 < _ by omega), or2 (by omega) (by omega), wm (show a + b * 2 ^ 8 + c * 2 ^ 16 < _ by omega), or2 (by omega) (by omega), wm (by omega)]
  congr 1
  omega

theorem num4_get {bs : List UInt8} (h : 4 ≤ bs.length) : num4 bs = bs[0].toNat + 256 * bs[1].toNat + 65536 * bs[2].toNat + 16777216 * bs[3].toNat := by
  match bs, h with
  | a :: b :: c :: d :: r, _ => rfl

/-- An element of one cell at a place that is told. -/
theorem wp_ix1c {α : Type} {enc : α → List Value} {xs : List α} {sz m : Nat} {ii : Int} {x : Sl} {T : TypeId} {g' : Prop} {p : Pr} {dec : α → p.D} {f : p.D → Prog} (hs : Sat w l) [hf : FocR l x sz (xs.flatMap enc)] [hE : EncN enc sz] [hD : Enc1 enc p dec] [hT : One P T]
    (n : Nat) (hn : n < xs.length) (h : (f (dec xs[n])).wp P S w Q) (hm : m = n * sz := by rfl) (hi : ii = n := by rfl) :
    (Prog.ex [.adr] (c1 fun a => (0 : Int) ≤ ii ∧ ii < ((x.len : Nat) : Int) ∧ x.a = some a) (u1 fun a => .read g' (ld T (Addr.add a m)) (.one (.one p)) (u1 f))).wp P S w Q := by
  subst hm hi
  have hr := hf.rd w hs
  have hl : x.len = xs.length := hr.len hE.len hE.pos
  obtain ⟨a, ha, he⟩ := hr.el hE.len (by omega)
  refine ⟨(a, ()), ⟨by omega, by omega, ha⟩, (dec xs[n], ()), fun _ => ?_, h⟩
  have := he n hn
  rw [hD.ok] at this
  have h2 := At.ld1 (P := P) (T := T) this rfl
  cases p <;> exact h2

theorem fnumber_c (x : Sl) (bs : List UInt8) [hx : FocR l x 1 (bs.flatMap encU)] (hn : 4 ≤ bs.length) (hs : Sat w l) : Ret P F.frame_number #[x.v] w fun vs w' => vs = [.int .u32 ((num4 bs : Nat) : Int)] ∧ Sat w' l :=
  frame_number_calls x <| by
    unfold frame_number
    refine wp_tk hs fun w' hs => ?_
    refine wp_ix1c hs (xs := bs) (enc := encU) 0 (by omega) ?_
    refine wp_ix1c hs (xs := bs) (enc := encU) 1 (by omega) ?_
    refine wp_ix1c hs (xs := bs) (enc := encU) 2 (by omega) ?_
    refine wp_ix1c hs (xs := bs) (enc := encU) 3 (by omega) ?_
    rw [or_parts (by have := bs[0].toNat_lt; omega) (by have := bs[1].toNat_lt; omega) (by have := bs[2].toNat_lt; omega) (by have := bs[3].toNat_lt; omega), ← num4_get hn]
    refine wp_lt ?_
    refine wp_untick ?_
    exact ⟨rfl, rfl, hs⟩

theorem fseal_c (x : Sl) (ps : List (Sl × List UInt8)) [hx : FocR l x 1 ((ps.map Prod.fst).flatMap encSl)] (hps : ∀ p ∈ ps, FocR l p.1 1 (p.2.flatMap encU) ∧ p.2.length ≤ 1000000000) (hpl : ps.length ≤ 1000000) (hs : Sat w l) :
    Ret P F.frame_Seal #[x.v] w fun vs w' => ∃ z : Sl, vs = [z.v] ∧ Sat w' (slc T.uint8 1 z ((sealL (ps.flatMap Prod.snd)).flatMap encU) :: l) :=
  frame_Seal_calls x <| by
    unfold frame_Seal
    have hl := hs.slen x (xs := ps.map Prod.fst) (enc := encSl)
    rw [List.length_map] at hl
    have hstep : ∀ i (hi : i < ps.length), (ps.take (i + 1)).flatMap Prod.snd = (ps.take i).flatMap Prod.snd ++ ps[i].2 := fun i hi => by
      rw [List.take_add_one, List.getElem?_eq_getElem hi, Option.toList_some, List.flatMap_append, List.flatMap_singleton]
    have hmany : ∀ i, ((ps.take i).flatMap Prod.snd).length ≤ (ps.flatMap Prod.snd).length := fun i => by
      have : ps.flatMap Prod.snd = (ps.take i).flatMap Prod.snd ++ (ps.drop i).flatMap Prod.snd := by rw [← List.flatMap_append, List.take_append_drop]
      rw [this, List.length_append]
      omega
    refine wp_mid (fun u w' => u = ((((ps.flatMap Prod.snd).length : Nat) : Int), ()) ∧ (ps.flatMap Prod.snd).length ≤ 262144 ∧ Sat w' l) ?_ ?_
    · refine wp_loop (fun k u w => ∃ i : Nat, u = (((((ps.take i).flatMap Prod.snd).length : Nat) : Int), (i : Int), ()) ∧ i ≤ ps.length ∧ ps.length - i = k ∧ ((ps.take i).flatMap Prod.snd).length ≤ 262144 ∧ Sat w l) ps.length ⟨0, rfl, by omega, rfl, by simp, hs⟩ ?_
      clear hs
      rintro k _ w ⟨i, rfl, hi, hk, hsm, hs⟩
      refine wp_on ?_
      refine wp_if (fun hc => ?_) fun hc => ?_
      rotate_left
      · rw [List.take_of_length_le (by omega)] at hsm ⊢
        exact wp_pass (wp_lv ⟨rfl, hsm, hs⟩)
      have hil : i < ps.length := by omega
      refine wp_ix1 hs (xs := ps.map Prod.fst) (enc := encSl) i (by rw [List.length_map]; exact hil) ?_
      rw [List.getElem_map]
      obtain ⟨hF, hpb⟩ := hps _ (List.getElem_mem hil)
      have hpi := hs.slen ps[i].1 (xs := ps[i].2) (enc := encU)
      have h1 := hmany (i + 1)
      have h2 := congrArg List.length (hstep i hil)
      rw [List.length_append] at h2
      have e : IntKind.wrap .i64 (((((ps.take i).flatMap Prod.snd).length : Nat) : Int) + ((ps[i].1.len : Nat) : Int)) = ((((ps.take (i + 1)).flatMap Prod.snd).length : Nat) : Int) := by rw [w64 (by omega) (by omega)]; omega
      refine wp_lw e ?_
      refine wp_if (fun hbig => ?_) fun hbig => ?_
      · refine wp_pass (wp_pass ⟨rfl, ⟨none, 0, 0⟩, rfl, ?_⟩)
        have : sealL (ps.flatMap Prod.snd) = [] := by unfold sealL; rw [if_pos (by omega)]
        rw [this]
        exact hs.slc_nil
      refine wp_dn (us' := [.int .i64 ((((ps.take (i + 1)).flatMap Prod.snd).length : Nat) : Int), .int .i64 ((i + 1 : Nat) : Int)]) (by (try simp (disch := omega) only [w64]); first | rfl | (congr; omega)) ?_
      refine wp_lp (ps.length - (i + 1)) ?_
      exact ⟨i + 1, rfl, by omega, rfl, by omega, hs⟩
    clear hs
    rintro _ w ⟨rfl, hsm, hs⟩
    refine wp_on ?_
    have e8 : IntKind.wrap .i64 ((((ps.flatMap Prod.snd).length : Nat) : Int) + 8) = (((ps.flatMap Prod.snd).length + 8 : Nat) : Int) := by rw [w64 (by omega) (by omega)]; omega
    rw [e8, wu32m, Nat.mod_eq_of_lt (by omega)]
    refine wp_make ((ps.flatMap Prod.snd).length + 8) hs fun z w' hs => ?_
    refine wp_call (ffour_c (ps.flatMap Prod.snd).length (by omega) hs) fun _ _ hs => ?_
    obtain ⟨y, rfl, hs⟩ := hs
    refine ret_of ?_
    have hs := hs.pick [1, 0]
    refine wp_app' (xs := []) (ys := fourL (ps.flatMap Prod.snd).length) (enc := encU) hs (fun z w' hs => ?_) (by simp [four_len])
    rw [List.nil_append] at hs
    have hs : Sat w' (slc T.uint8 1 z ((fourL (ps.flatMap Prod.snd).length).flatMap encU) :: l) := hs.sub
    refine wp_mid (fun u w' => ∃ z : Sl, u = (z, ()) ∧ Sat w' (slc T.uint8 1 z ((headL (ps.flatMap Prod.snd)).flatMap encU) :: l)) ?_ ?_
    · refine wp_loop (fun k u w => ∃ (i : Nat) (z : Sl), u = (z, (i : Int), ()) ∧ i ≤ ps.length ∧ ps.length - i = k ∧ Sat w (slc T.uint8 1 z ((fourL (ps.flatMap Prod.snd).length ++ (ps.take i).flatMap Prod.snd).flatMap encU) :: l)) ps.length ⟨0, z, rfl, by omega, rfl, ?_⟩ ?_
      · simpa using hs
      clear hs
      rintro k _ w ⟨i, z, rfl, hi, hk, hs⟩
      refine wp_on ?_
      refine wp_if (fun hc => ?_) fun hc => ?_
      rotate_left
      · refine wp_pass (wp_lv ⟨z, rfl, ?_⟩)
        rw [List.take_of_length_le (by omega)] at hs
        exact hs
      have hil : i < ps.length := by omega
      refine wp_ix1 hs (xs := ps.map Prod.fst) (enc := encSl) i (by rw [List.length_map]; exact hil) ?_
      rw [List.getElem_map]
      have hF := (hps _ (List.getElem_mem hil)).1
      have h1 := hmany (i + 1)
      rw [hstep i hil, List.length_append] at h1
      refine wp_app' (xs := fourL (ps.flatMap Prod.snd).length ++ (ps.take i).flatMap Prod.snd) (ys := ps[i].2) (enc := encU) hs (fun z w' hs => ?_) (by rw [List.length_append, four_len]; omega)
      rw [List.append_assoc, ← hstep i hil] at hs
      refine wp_dn (us' := [z.v, .int .i64 ((i + 1 : Nat) : Int)]) (by (try simp (disch := omega) only [w64]); first | rfl | (congr; omega)) ?_
      refine wp_lp (ps.length - (i + 1)) ?_
      exact ⟨i + 1, z, rfl, by omega, rfl, hs⟩
    clear hs
    rintro _ w ⟨z, rfl, hs⟩
    refine wp_on ?_
    have hhl : (headL (ps.flatMap Prod.snd)).length = (ps.flatMap Prod.snd).length + 4 := by unfold headL; rw [List.length_append, four_len]; omega
    have hsl := sumL_lt (headL (ps.flatMap Prod.snd))
    refine wp_slit1 hs (enc := encSl) z fun y w' hs => ?_
    refine wp_call (fsum1_c y z (headL (ps.flatMap Prod.snd)) (by omega) hs) fun _ _ hs => ?_
    obtain ⟨rfl, hs⟩ := hs
    refine ret_of ?_
    refine wp_call (ffour_c (sumL (headL (ps.flatMap Prod.snd))) hsl hs) fun _ _ hs => ?_
    obtain ⟨u, rfl, hs⟩ := hs
    refine ret_of ?_
    have hs := hs.pick [2, 0, 0]
    refine wp_app' (xs := headL (ps.flatMap Prod.snd)) (ys := fourL (sumL (headL (ps.flatMap Prod.snd)))) (enc := encU) hs (fun z w' hs => ?_) (by rw [four_len]; omega)
    have e : sealL (ps.flatMap Prod.snd) = headL (ps.flatMap Prod.snd) ++ fourL (sumL (headL (ps.flatMap Prod.snd))) := by unfold sealL; rw [if_neg (by omega)]
    rw [← e] at hs
    exact ⟨rfl, z, rfl, hs.sub⟩
theorem fseal1_c (x y : Sl) (bs : List UInt8) [hx : FocR l x 1 ([y].flatMap encSl)] [hy : FocR l y 1 (bs.flatMap encU)] (hn : bs.length ≤ 1000000000) (hs : Sat w l) :
    Ret P F.frame_Seal #[x.v] w fun vs w' => ∃ z : Sl, vs = [z.v] ∧ Sat w' (slc T.uint8 1 z ((sealL bs).flatMap encU) :: l) := by
  have := @fseal_c w l x [(y, bs)] hx (by intro p hp; rw [List.mem_singleton.1 hp]; exact ⟨hy, hn⟩) (by simp) hs
  simpa using this

theorem ffirst_c (x : Sl) (bs : List UInt8) [hx : FocR l x 1 (bs.flatMap encU)] (hcap : x.len ≤ x.cap) (hn : bs.length ≤ 1000000000) (hs : Sat w l) :
    Ret P F.frame_First #[x.v] w fun vs w' => ∃ z : Sl, vs = [z.v, .int .i64 ((((firstL bs).getD ([], 0)).2 : Nat) : Int), .bool (firstL bs).isSome] ∧ Sat w' (slc T.uint8 1 z (((firstL bs).getD ([], 0)).1.flatMap encU) :: l) :=
  frame_First_calls x <| by
    unfold frame_First
    have hl := hs.slen x (xs := bs) (enc := encU)
    have hno : ∀ {w' : World}, firstL bs = none → Sat w' l → ∃ z : Sl, [.slice none 0 0, .int .i64 0, .bool false] = [z.v, .int .i64 ((((firstL bs).getD ([], 0)).2 : Nat) : Int), .bool (firstL bs).isSome] ∧ Sat w' (slc T.uint8 1 z (((firstL bs).getD ([], 0)).1.flatMap encU) :: l) := fun {w'} h hs => by
      rw [h]; exact ⟨⟨none, 0, 0⟩, rfl, hs.slc_nil⟩
    refine wp_if (fun h => ?_) fun h => ?_
    · exact ⟨rfl, hno (by unfold firstL; rw [if_pos (.inl (by omega))]) hs⟩
    refine wp_call (fnumber_c x bs (by omega) hs) fun _ _ hs => ?_
    obtain ⟨rfl, hs⟩ := hs
    refine ret_of ?_
    have hf := (four_num bs (by omega)).2
    refine wp_lt ?_
    have e1 : IntKind.wrap .i64 ((num4 bs : Nat) : Int) = ((num4 bs : Nat) : Int) := by rw [w64 (by omega) (by omega)]
    have e2 : IntKind.wrap .i64 (((x.len : Nat) : Int) - 8) = ((bs.length - 8 : Nat) : Int) := by rw [w64 (by omega) (by omega)]; omega
    have e3 : IntKind.wrap .i64 (((num4 bs : Nat) : Int) + 4) = ((num4 bs + 4 : Nat) : Int) := by rw [w64 (by omega) (by omega)]; omega
    rw [e1, e2, e3]
    refine wp_if (fun h2 => ?_) fun h2 => ?_
    · exact ⟨rfl, hno (by unfold firstL; rw [if_pos (by omega)]) hs⟩
    refine wp_lt ?_
    rw [Int.toNat_natCast]
    have hle : num4 bs + 8 ≤ bs.length := by omega
    have hF1 : FocR l ⟨cutA x.a 1 (num4 bs + 4) x.cap, x.len - (num4 bs + 4), x.cap - (num4 bs + 4)⟩ 1 ((bs.drop (num4 bs + 4)).flatMap encU) := FocR.post hcap
    have hF2 : FocR l ⟨x.a, num4 bs + 4, x.cap⟩ 1 ((bs.take (num4 bs + 4)).flatMap encU) := FocR.pre (by omega)
    have htl : (bs.take (num4 bs + 4)).length ≤ 1000000000 := by rw [List.length_take]; omega
    have hdl : 4 ≤ (bs.drop (num4 bs + 4)).length := by rw [List.length_drop]; omega
    refine wp_mid (fun u w' => u = (decide (num4 (bs.drop (num4 bs + 4)) ≠ sumL (bs.take (num4 bs + 4))), ()) ∧ Sat w' l) ?_ ?_
    · have hbeq : ∀ a b : Nat, (((a : Int) != (b : Int)) : Bool) = decide (a ≠ b) := fun a b => by
        rw [Bool.eq_iff_iff]; simp; omega
      refine wp_tk hs fun w' hs => ?_
      refine wp_must ⟨by omega, show ((num4 bs + 4 : Nat) : Int) ≤ ((x.len : Nat) : Int) by omega⟩ ?_
      refine wp_must ⟨by omega, show ((num4 bs + 4 : Nat) : Int) ≤ ((x.cap : Nat) : Int) by omega⟩ ?_
      refine wp_both ?_ ?_
      · refine wp_call (fnumber_c ⟨cutA x.a 1 (num4 bs + 4) x.cap, x.len - (num4 bs + 4), x.cap - (num4 bs + 4)⟩ (bs.drop (num4 bs + 4)) hdl hs) fun _ _ hs => ?_
        obtain ⟨rfl, hs⟩ := hs
        refine ret_of ?_
        refine wp_slit1 hs (enc := encSl) ⟨x.a, num4 bs + 4, x.cap⟩ fun y w' hs => ?_
        refine wp_call (fsum1_c y ⟨x.a, num4 bs + 4, x.cap⟩ (bs.take (num4 bs + 4)) htl hs) fun _ _ hs => ?_
        obtain ⟨rfl, hs⟩ := hs
        refine ret_of ?_
        refine wp_untick ?_
        exact wp_lv ⟨by rw [hbeq], hs.tail⟩
      · refine wp_slit1 hs (enc := encSl) ⟨x.a, num4 bs + 4, x.cap⟩ fun y w' hs => ?_
        refine wp_call (fnumber_c ⟨cutA x.a 1 (num4 bs + 4) x.cap, x.len - (num4 bs + 4), x.cap - (num4 bs + 4)⟩ (bs.drop (num4 bs + 4)) hdl hs) fun _ _ hs => ?_
        obtain ⟨rfl, hs⟩ := hs
        refine ret_of ?_
        refine wp_call (fsum1_c y ⟨x.a, num4 bs + 4, x.cap⟩ (bs.take (num4 bs + 4)) htl hs) fun _ _ hs => ?_
        obtain ⟨rfl, hs⟩ := hs
        refine ret_of ?_
        refine wp_untick ?_
        exact wp_lv ⟨by rw [hbeq], hs.tail⟩
    clear hs
    rintro _ w ⟨rfl, hs⟩
    refine wp_on ?_
    refine wp_if (fun h3 => ?_) fun h3 => ?_
    · exact ⟨rfl, hno (by unfold firstL; rw [if_neg (by omega), if_neg h3]) hs⟩
    have h3 : num4 (bs.drop (num4 bs + 4)) = sumL (bs.take (num4 bs + 4)) := Decidable.not_not.1 h3
    have hsome : firstL bs = some ((bs.drop 4).take (num4 bs), num4 bs + 8) := by unfold firstL; rw [if_neg (by omega), if_pos h3]
    rw [hsome]
    refine wp_must ⟨by omega, by omega, show ((num4 bs + 4 : Nat) : Int) ≤ ((x.cap : Nat) : Int) by omega⟩ ?_
    have hF3 : FocR l ⟨cutA x.a 1 4 x.cap, x.len - 4, x.cap - 4⟩ 1 ((bs.drop 4).flatMap encU) := FocR.post hcap
    have hF4 : FocR l ⟨cutA x.a 1 4 x.cap, num4 bs + 4 - 4, x.cap - 4⟩ 1 (((bs.drop 4).take (num4 bs + 4 - 4)).flatMap encU) := FocR.pre (x := ⟨cutA x.a 1 4 x.cap, x.len - 4, x.cap - 4⟩) (by rw [List.length_drop]; omega)
    refine wp_call (bclone_c ⟨cutA x.a 1 4 x.cap, num4 bs + 4 - 4, x.cap - 4⟩ ((bs.drop 4).take (num4 bs + 4 - 4)) (by rw [List.length_take]; omega) hs) fun _ _ hs => ?_
    obtain ⟨z, rfl, hs⟩ := hs
    refine ret_of ?_
    refine wp_ltx (y := ((num4 bs + 8 : Nat) : Int)) ?_ (by rw [w64 (by omega) (by omega)]; omega)
    exact ⟨rfl, z, rfl, hs⟩

def openL (bs : List UInt8) : Option (List UInt8) := match firstL bs with
  | some (body, n) => if n = bs.length then some body else none
  | none => none
theorem fopen_c (x : Sl) (bs : List UInt8) [hx : FocR l x 1 (bs.flatMap encU)] (hcap : x.len ≤ x.cap) (hn : bs.length ≤ 1000000000) (hs : Sat w l) :
    Ret P F.frame_Open #[x.v] w fun vs w' => ∃ z : Sl, vs = [z.v, .bool (openL bs).isSome] ∧ Sat w' (slc T.uint8 1 z (((openL bs).getD []).flatMap encU) :: l) :=
  frame_Open_calls x <| by
    unfold frame_Open
    have hl := hs.slen x (xs := bs) (enc := encU)
    refine wp_call (ffirst_c x bs hcap hn hs) fun _ _ hs => ?_
    obtain ⟨z, rfl, hs⟩ := hs
    refine ret_of ?_
    refine wp_lt ?_
    refine wp_lt ?_
    unfold openL
    cases hf : firstL bs with
    | none =>
      refine wp_ifT ?_ (by simp)
      exact ⟨rfl, ⟨none, 0, 0⟩, rfl, (hs.tail).slc_nil⟩
    | some q =>
      obtain ⟨body, n⟩ := q
      rw [hf] at hs
      dsimp only
      refine wp_if (fun h => ?_) fun h => ?_
      · rw [if_neg (by simp at h; omega)]
        exact ⟨rfl, ⟨none, 0, 0⟩, rfl, (hs.tail).slc_nil⟩
      · rw [if_pos (by simp at h; omega)]
        exact ⟨rfl, z, rfl, hs⟩

end
end Go.Dec
