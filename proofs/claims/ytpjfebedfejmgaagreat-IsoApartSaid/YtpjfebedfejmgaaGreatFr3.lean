/- Frames: the document's: the sum bit by bit, frames sealed and opened. -/
import Derived.Test.YtpjfebedfejmgaaGreatFr2
namespace Go.Dec
set_option linter.unusedVariables false
set_option linter.unusedSimpArgs false

def bitsC (f : Nat → Bool) : List Value := (List.range 32).map fun j => .bool (f j)
theorem bitsC_len (f : Nat → Bool) : (bitsC f).length = 32 := by simp [bitsC]
theorem bitsC_get (f : Nat → Bool) {i : Nat} (h : i < 32) : (bitsC f)[i]? = some (.bool (f i)) := by
  unfold bitsC
  rw [List.getElem?_map, List.getElem?_range h]; rfl
theorem bitsC_set (f : Nat → Bool) (i : Nat) (x : Bool) : (bitsC f).set i (.bool x) = bitsC fun j => if j = i then x else f j := by
  apply List.ext_getElem?
  intro j
  by_cases hj : j < 32
  · rw [bitsC_get _ hj, List.getElem?_set, bitsC_len]
    by_cases hij : i = j
    · subst hij; simp [hj]
    · rw [if_neg hij, bitsC_get _ hj, if_neg (Ne.symm hij)]
  · rw [List.getElem?_eq_none (by rw [List.length_set, bitsC_len]; omega), List.getElem?_eq_none (by rw [bitsC_len]; omega)]
theorem bitsC_ext {f g : Nat → Bool} (h : ∀ j, j < 32 → f j = g j) : bitsC f = bitsC g := by
  unfold bitsC
  exact List.map_congr_left fun j hj => by rw [h j (List.mem_range.1 hj)]

section
variable {w : World} {l r : List HP} {Q : Post} {S : World → Prop} {b : Nat} {g : Prop} {f : Nat → Bool}
theorem wp_ldB {k : Bool → Prog} {m : Nat} (hs : Sat w l) [hb : FocB l b (.cells (bitsC f).toArray T.a32_bool) r] (i : Nat) (hi : i < 32) (h : (k (f i)).wp P S w Q) (hm : m = i := by first | rfl | omega) :
    (Prog.read g (ld T.bool (Addr.add ⟨b, 0, none⟩ m)) sB (u1 k)).wp P S w Q := by
  subst hm
  refine ⟨(f m, ()), fun _ => ?_, h⟩
  have hT : One P T.bool := inferInstance
  rw [add_mk, Nat.zero_add]
  exact run_ld1 (P := P) (off := m) (v := .bool (f m)) hT.ok.1 (hs.focB b).get (by simpa using bitsC_get f hi)
theorem wp_stB {k : Prog} {m : Nat} {x : Bool} (hs : Sat w l) [hb : FocB l b (.cells (bitsC f).toArray T.a32_bool) r] (i : Nat) (hi : i < 32)
    (h : ∀ w', Sat w' (pt b (.cells (bitsC fun j => if j = i then x else f j).toArray T.a32_bool) :: r) → k.wp P S w' Q) (hm : m = i := by first | rfl | omega) (hS : ∀ w', S w' := by exact fun _ => trivial) :
    (Prog.actU (st T.bool (Addr.add ⟨b, 0, none⟩ m) (.bool x)) k).wp P S w Q := by
  subst hm
  have hT : One P T.bool := inferInstance
  have hc : (Value.bool x).cells = #[.bool x] := rfl
  have hrun := run_st (P := P) (v := .bool x) (off := m) hT.ok.2 (hs.focB b).get (by simp [bitsC_len]; omega) (by rw [hc]; rfl) (by rw [hc]; simp [Value.oneCell']) (unfrozen_zero _ _)
  rw [hc] at hrun
  have e : putCells (bitsC f).toArray m [.bool x] = (bitsC fun j => if j = m then x else f j).toArray := by
    rw [← bitsC_set]; simp [putCells]
  rw [show (#[Value.bool x] : Array Value).toList = [.bool x] from rfl, e] at hrun
  have hs' := (hs.focB b).set (o' := .cells (bitsC fun j => if j = m then x else f j).toArray T.a32_bool)
  rw [add_mk, Nat.zero_add]
  exact ⟨_, hrun, hS _, h _ hs'⟩

theorem bitE {c i : Nat} (hc : c < 4294967296) (hi : i < 32) : (Int.tmod (Int.fdiv (c : Int) (2 ^ i)) (2 : Int) == 1) = (BitVec.ofNat 32 c).getLsbD i := by
  have e : ((2 : Int) ^ i) = ((2 ^ i : Nat) : Int) := by simp
  rw [e, fdiv_nat c (Int.natCast_nonneg _), Int.toNat_natCast, tmod_nat _ (by decide), BitVec.getLsbD_ofNat, Nat.testBit_eq_decide_div_mod_eq, Bool.eq_iff_iff]
  simp [hi]
  show ((c / 2 ^ i % 2 : Nat) : Int) = 1 ↔ _
  omega
theorem minW {i n : Nat} (h : i ≤ n) (h64 : n ≤ 64) : min (Int.toNat (IntKind.wrap .u64 (i : Int))) n = i := by
  rw [wu64m, Nat.mod_eq_of_lt (by omega)]; omega
theorem getS (s : BitVec 32) (x : Bool) {j : Nat} (hj : j < 32) : (refS s x).getLsbD j = ((s >>> 1).getLsbD j != ((s.getLsbD 0 != x) && polyB.getLsbD j)) := by
  unfold refS
  rw [BitVec.getLsbD_xor]
  by_cases h : (s.getLsbD 0 != x) = true
  · rw [if_pos h, h]; simp
  · rw [if_neg h]
    have h' : (s.getLsbD 0 != x) = false := by cases hc : (s.getLsbD 0 != x) with
      | false => rfl
      | true => exact absurd hc h
    rw [h']; simp

theorem dsum_c (x : Sl) (bs : List UInt8) [hx : FocR l x 1 (bs.flatMap encU)] (hn : bs.length ≤ 1000000000) (hs : Sat w l) :
    Ret P F.towpathref02_Sum #[x.v] w fun vs w' => vs = [.int .u32 ((sumL bs : Nat) : Int)] ∧ Sat w' l :=
  towpathref02_Sum_calls x <| by
    unfold towpathref02_Sum
    have hl := hs.slen x (xs := bs) (enc := encU)
    refine wp_newO hs fun b w' hs => ?_
    have hs : Sat w' (pt b (.cells (bitsC fun _ => false).toArray T.a32_bool) :: l) := hs
    refine wp_mid (fun _ w' => Sat w' (pt b (.cells (bitsC (BitVec.allOnes 32).getLsbD).toArray T.a32_bool) :: l)) ?_ ?_
    · refine wp_loop (fun k u w => ∃ i : Nat, u = ((i : Int), ()) ∧ i ≤ 32 ∧ 32 - i = k ∧ Sat w (pt b (.cells (bitsC fun j => decide (j < i)).toArray T.a32_bool) :: l)) 32 ⟨0, rfl, by omega, rfl, ?_⟩ ?_
      · have : (bitsC fun j => decide (j < 0)) = bitsC fun _ => false := bitsC_ext fun j _ => by simp
        rw [this]; exact hs
      clear hs
      rintro k _ w ⟨i, rfl, hi, hk, hs⟩
      refine wp_on ?_
      refine wp_if (fun hc => ?_) fun hc => ?_
      rotate_left
      · refine wp_pass (wp_lv ?_)
        have : (bitsC fun j => decide (j < i)) = bitsC (BitVec.allOnes 32).getLsbD := bitsC_ext fun j hj => by
          rw [BitVec.getLsbD_allOnes]
          rw [decide_eq_true (by omega : j < i), decide_eq_true hj]
        rw [← this]; exact hs
      refine wp_must ⟨by omega, hc⟩ ?_
      refine wp_stB hs i (by omega) (fun w' hs => ?_)
      refine wp_ltx (y := ((i + 1 : Nat) : Int)) ?_ (by rw [w64 (by omega) (by omega)]; omega)
      refine wp_lp (32 - (i + 1)) ?_
      refine ⟨i + 1, rfl, by omega, rfl, ?_⟩
      have : (bitsC fun j => decide (j < i + 1)) = bitsC fun j => if j = i then true else decide (j < i) := bitsC_ext fun j _ => by
        by_cases hji : j = i
        · subst hji; simp
        · rw [if_neg hji]; congr 1; apply propext; omega
      rw [this]; exact hs
    clear hs
    rintro _ w hs
    refine wp_on ?_
    refine wp_mid (fun _ w' => Sat w' (pt b (.cells (bitsC (crcL (BitVec.allOnes 32) bs).getLsbD).toArray T.a32_bool) :: l)) ?_ ?_
    · refine wp_loop (fun k u w => ∃ i : Nat, u = ((i : Int), ()) ∧ i ≤ bs.length ∧ bs.length - i = k ∧ Sat w (pt b (.cells (bitsC (crcL (BitVec.allOnes 32) (bs.take i)).getLsbD).toArray T.a32_bool) :: l)) bs.length ⟨0, rfl, by omega, rfl, hs⟩ ?_
      clear hs
      rintro k _ w ⟨i, rfl, hi, hk, hs⟩
      refine wp_on ?_
      refine wp_if (fun hc => ?_) fun hc => ?_
      rotate_left
      · refine wp_pass (wp_lv ?_)
        rw [List.take_of_length_le (by omega)] at hs
        exact hs
      have hil : i < bs.length := by omega
      refine wp_mid (fun _ w' => Sat w' (pt b (.cells (bitsC (crcL (BitVec.allOnes 32) (bs.take (i + 1))).getLsbD).toArray T.a32_bool) :: l)) ?_ ?_
      rotate_left
      · rintro _ w' hs
        refine wp_on ?_
        refine wp_dn (us' := [.int .i64 ((i + 1 : Nat) : Int)]) (by (try simp (disch := omega) only [w64]); first | rfl | (congr; omega)) ?_
        refine wp_lp (bs.length - (i + 1)) ?_
        exact ⟨i + 1, rfl, by omega, rfl, hs⟩
      rw [crcL_take _ bs i hil]
      refine wp_ix1 hs (xs := bs) (enc := encU) i hil ?_
      refine wp_lt ?_
      rw [crcB_bits]
      generalize crcL (BitVec.allOnes 32) (bs.take i) = s at hs ⊢
      have hcl := bs[i].toNat_lt
      generalize bs[i] = c at *
      show Prog.wp P _ _ _ _
      refine wp_mid (fun _ w' => Sat w' (pt b (.cells (bitsC (refN (BitVec.ofNat 32 c.toNat) 8 s).getLsbD).toArray T.a32_bool) :: l)) ?_ (by rintro _ w' hs; refine wp_on ?_; exact wp_lv hs)
      refine wp_loop (fun k u w => ∃ i : Nat, u = ((i : Int), ()) ∧ i ≤ 8 ∧ 8 - i = k ∧ Sat w (pt b (.cells (bitsC (refN (BitVec.ofNat 32 c.toNat) i s).getLsbD).toArray T.a32_bool) :: l)) 8 ⟨0, rfl, by omega, rfl, hs⟩ ?_
      clear hs
      rintro k _ w ⟨i, rfl, hi, hk, hs⟩
      refine wp_on ?_
      refine wp_if (fun hc => ?_) fun hc => ?_
      rotate_left
      · obtain rfl : i = 8 := by omega
        exact wp_pass (wp_lv hs)
      refine wp_mid (fun _ w' => Sat w' (pt b (.cells (bitsC (refN (BitVec.ofNat 32 c.toNat) (i + 1) s).getLsbD).toArray T.a32_bool) :: l)) ?_ ?_
      rotate_left
      · rintro _ w' hs
        refine wp_on ?_
        refine wp_ltx (y := ((i + 1 : Nat) : Int)) ?_ (by rw [w64 (by omega) (by omega)]; omega)
        refine wp_lp (8 - (i + 1)) ?_
        exact ⟨i + 1, rfl, by omega, rfl, hs⟩
      show Prog.wp P _ _ _ _
      have hstep : refN (BitVec.ofNat 32 c.toNat) (i + 1) s = refS (refN (BitVec.ofNat 32 c.toNat) i s) ((BitVec.ofNat 32 c.toNat).getLsbD i) := rfl
      rw [hstep]
      generalize refN (BitVec.ofNat 32 c.toNat) i s = t at hs ⊢
      refine wp_must ⟨by omega, by omega⟩ ?_
      refine wp_ldB hs 0 (by omega) ?_
      refine wp_must (by rw [wu64m]; omega) ?_
      rw [minW (by omega) (by omega), bitE (by omega) (by omega)]
      have hbool : (!(t.getLsbD 0 == (BitVec.ofNat 32 c.toNat).getLsbD i)) = (t.getLsbD 0 != (BitVec.ofNat 32 c.toNat).getLsbD i) := rfl
      rw [hbool]
      refine wp_lt ?_
      generalize (BitVec.ofNat 32 c.toNat).getLsbD i = d
      -- moved
      refine wp_mid (fun _ w' => Sat w' (pt b (.cells (bitsC fun j => if j < 31 then t.getLsbD (j + 1) else t.getLsbD j).toArray T.a32_bool) :: l)) ?_ ?_
      · refine wp_loop (fun k u w => ∃ i : Nat, u = ((i : Int), ()) ∧ i ≤ 31 ∧ 31 - i = k ∧ Sat w (pt b (.cells (bitsC fun j => if j < i then t.getLsbD (j + 1) else t.getLsbD j).toArray T.a32_bool) :: l)) 31 ⟨0, rfl, by omega, rfl, by simpa using hs⟩ ?_
        clear hs
        rintro k _ w ⟨i, rfl, hi, hk, hs⟩
        refine wp_on ?_
        refine wp_if (fun hc => ?_) fun hc => ?_
        rotate_left
        · obtain rfl : i = 31 := by omega
          exact wp_pass (wp_lv hs)
        have e1 : IntKind.wrap .i64 ((i : Int) + 1) = ((i + 1 : Nat) : Int) := by rw [w64 (by omega) (by omega)]; omega
        rw [e1]
        refine wp_must ⟨by omega, by omega⟩ ?_
        refine wp_ldB hs (i + 1) (by omega) ?_
        refine wp_must ⟨by omega, by omega⟩ ?_
        refine wp_stB hs i (by omega) (fun w' hs => ?_)
        refine wp_lt ?_
        refine wp_lp (31 - (i + 1)) ?_
        refine ⟨i + 1, rfl, by omega, rfl, ?_⟩
        have : (bitsC fun j => if j < i + 1 then t.getLsbD (j + 1) else t.getLsbD j) = bitsC fun j => if j = i then (if i + 1 < i then t.getLsbD (i + 1 + 1) else t.getLsbD (i + 1)) else if j < i then t.getLsbD (j + 1) else t.getLsbD j := bitsC_ext fun j _ => by
          by_cases hji : j = i
          · subst hji; rw [if_pos (by omega), if_pos rfl, if_neg (by omega)]
          · rw [if_neg hji]
            by_cases hlt : j < i
            · rw [if_pos hlt, if_pos (by omega)]
            · rw [if_neg hlt, if_neg (by omega)]
        rw [this]; exact hs
      clear hs
      rintro _ w hs
      refine wp_on ?_
      refine wp_must ⟨by omega, by omega⟩ ?_
      refine wp_stB hs 31 (by omega) (fun w' hs => ?_)
      have hsh : (bitsC fun j => if j = 31 then false else if j < 31 then t.getLsbD (j + 1) else t.getLsbD j) = bitsC (t >>> 1).getLsbD := bitsC_ext fun j hj => by
        rw [BitVec.getLsbD_ushiftRight]
        by_cases h31 : j = 31
        · subst h31; rw [if_pos rfl]
          exact (BitVec.getLsbD_of_ge t 32 (by omega)).symm
        · rw [if_neg h31, if_pos (by omega), Nat.add_comm]
      rw [hsh] at hs
      refine wp_mid (fun _ w' => Sat w' (pt b (.cells (bitsC (refS t d).getLsbD).toArray T.a32_bool) :: l)) ?_ (by rintro _ w' hs; refine wp_on ?_; exact wp_lv hs)
      refine wp_loop (fun k u w => ∃ i : Nat, u = ((i : Int), ()) ∧ i ≤ 32 ∧ 32 - i = k ∧ Sat w (pt b (.cells (bitsC fun j => if j < i then (refS t d).getLsbD j else (t >>> 1).getLsbD j).toArray T.a32_bool) :: l)) 32 ⟨0, rfl, by omega, rfl, by rw [bitsC_ext (g := (t >>> 1).getLsbD) fun j _ => if_neg (Nat.not_lt_zero j)]; exact hs⟩ ?_
      clear hs
      rintro k _ w ⟨i, rfl, hi, hk, hs⟩
      refine wp_on ?_
      refine wp_if (fun hc => ?_) fun hc => ?_
      rotate_left
      · obtain rfl : i = 32 := by omega
        refine wp_pass (wp_lv ?_)
        have : (bitsC fun j => if j < 32 then (refS t d).getLsbD j else (t >>> 1).getLsbD j) = bitsC (refS t d).getLsbD := bitsC_ext fun j hj => if_pos hj
        rw [← this]; exact hs
      refine wp_must (fun _ => by rw [wu64m]; omega) ?_
      refine wp_mid (fun _ w' => Sat w' (pt b (.cells (bitsC fun j => if j < i + 1 then (refS t d).getLsbD j else (t >>> 1).getLsbD j).toArray T.a32_bool) :: l)) ?_ ?_
      rotate_left
      · rintro _ w' hs
        refine wp_on ?_
        refine wp_ltx (y := ((i + 1 : Nat) : Int)) ?_ (by rw [w64 (by omega) (by omega)]; omega)
        refine wp_lp (32 - (i + 1)) ?_
        exact ⟨i + 1, rfl, by omega, rfl, hs⟩
      have hb2 : (Int.tmod (Int.fdiv 3988292384 (2 ^ min (Int.toNat (IntKind.wrap .u64 (i : Int))) 32)) (2 : Int) == 1) = polyB.getLsbD i := by
        rw [minW (by omega) (by omega)]
        exact bitE (c := 3988292384) (by omega) (by omega)
      rw [hb2]
      have hg := getS t d (j := i) (by omega)
      refine wp_if (fun h => ?_) fun h => ?_
      · refine wp_must ⟨by omega, by omega⟩ ?_
        refine wp_ldB hs i (by omega) ?_
        refine wp_must ⟨by omega, by omega⟩ ?_
        refine wp_stB hs i (by omega) (fun w' hs => ?_)
        refine wp_lv ?_
        have : (bitsC fun j => if j < i + 1 then (refS t d).getLsbD j else (t >>> 1).getLsbD j) = bitsC fun j => if j = i then !(if i < i then (refS t d).getLsbD i else (t >>> 1).getLsbD i) else if j < i then (refS t d).getLsbD j else (t >>> 1).getLsbD j := bitsC_ext fun j _ => by
          by_cases hji : j = i
          · subst hji
            have hb : ((t.getLsbD 0 != d) && polyB.getLsbD j) = true := by rw [Bool.and_eq_true]; exact ⟨bne_iff_ne.2 h.1, h.2⟩
            rw [if_pos (by omega), if_pos rfl, if_neg (by omega), hg, hb]
            cases (t >>> 1).getLsbD j <;> rfl
          · rw [if_neg hji]
            by_cases hlt : j < i
            · rw [if_pos hlt, if_pos (by omega)]
            · rw [if_neg hlt, if_neg (by omega)]
        rw [this]; exact hs
      · refine wp_lv ?_
        have : (bitsC fun j => if j < i + 1 then (refS t d).getLsbD j else (t >>> 1).getLsbD j) = bitsC fun j => if j < i then (refS t d).getLsbD j else (t >>> 1).getLsbD j := bitsC_ext fun j _ => by
          by_cases hji : j = i
          · subst hji
            have : ((t.getLsbD 0 != d) && polyB.getLsbD j) = false := by
              cases hc : ((t.getLsbD 0 != d) && polyB.getLsbD j) with
              | false => rfl
              | true => exact absurd (by simpa using hc) h
            rw [if_pos (by omega), if_neg (by omega), hg, this]
            cases (t >>> 1).getLsbD j <;> rfl
          · by_cases hlt : j < i
            · rw [if_pos hlt, if_pos (by omega)]
            · rw [if_neg hlt, if_neg (by omega)]
        rw [this]; exact hs
    clear hs
    rintro _ w hs
    refine wp_on ?_
    have hsum : sumL bs = (~~~ (crcL (BitVec.allOnes 32) bs)).toNat := by
      unfold sumL moreL
      rw [BitVec.not_zero]
    rw [hsum]
    generalize crcL (BitVec.allOnes 32) bs = s at hs ⊢
    have hlt := (~~~ s).isLt
    refine wp_mid (fun u w' => u = ((((~~~ s).toNat : Nat) : Int), ()) ∧ Sat w' l) ?_ (by rintro _ w' ⟨rfl, hs⟩; refine wp_on ?_; refine wp_lt ?_; exact ⟨rfl, rfl, hs⟩)
    refine wp_loop (fun k u w => ∃ i : Nat, u = ((((~~~ s).toNat % 2 ^ i : Nat) : Int), (i : Int), ()) ∧ i ≤ 32 ∧ 32 - i = k ∧ Sat w (pt b (.cells (bitsC s.getLsbD).toArray T.a32_bool) :: l)) 32 ⟨0, by simp [Nat.mod_one], by omega, rfl, hs⟩ ?_
    clear hs
    rintro k _ w ⟨i, rfl, hi, hk, hs⟩
    refine wp_on ?_
    refine wp_if (fun hc => ?_) fun hc => ?_
    rotate_left
    · obtain rfl : i = 32 := by omega
      refine wp_pass (wp_lv ⟨?_, hs.tail⟩)
      rw [Nat.mod_eq_of_lt hlt]
    refine wp_must ⟨by omega, by omega⟩ ?_
    refine wp_ldB hs i (by omega) ?_
    have hmod : (~~~ s).toNat % 2 ^ (i + 1) = (~~~ s).toNat % 2 ^ i + 2 ^ i * ((~~~ s).toNat.testBit i).toNat := by
      rw [Nat.mod_pow_succ, Nat.testBit_eq_decide_div_mod_eq]
      rcases Nat.mod_two_eq_zero_or_one ((~~~ s).toNat / 2 ^ i) with h | h <;> rw [h] <;> rfl
    have hbit : (~~~ s).toNat.testBit i = !s.getLsbD i := by
      rw [BitVec.testBit_toNat, BitVec.getLsbD_not, decide_eq_true (show i < 32 by omega), Bool.true_and]
    rw [hbit] at hmod
    refine wp_mid (fun u w' => u = ((((~~~ s).toNat % 2 ^ (i + 1) : Nat) : Int), ()) ∧ Sat w' (pt b (.cells (bitsC s.getLsbD).toArray T.a32_bool) :: l)) ?_ ?_
    rotate_left
    · rintro _ w' ⟨rfl, hs⟩
      refine wp_on ?_
      refine wp_ltx (y := ((i + 1 : Nat) : Int)) ?_ (by rw [w64 (by omega) (by omega)]; omega)
      refine wp_lp (32 - (i + 1)) ?_
      exact ⟨i + 1, rfl, by omega, rfl, hs⟩
    refine wp_if (fun h => ?_) fun h => ?_
    · refine wp_must (by rw [wu64m]; omega) ?_
      have h : s.getLsbD i = false := by simpa using h
      rw [h] at hmod
      have hle : (~~~ s).toNat % 2 ^ (i + 1) ≤ (~~~ s).toNat := Nat.mod_le ..
      have e : IntKind.wrap .u32 ((((~~~ s).toNat % 2 ^ i : Nat) : Int) + IntKind.wrap .u32 (1 * 2 ^ min (Int.toNat (IntKind.wrap .u64 (i : Int))) 32)) = (((~~~ s).toNat % 2 ^ (i + 1) : Nat) : Int) := by
        have e2 : (1 : Int) * 2 ^ i = ((2 ^ i : Nat) : Int) := by simp
        have hm : (~~~ s).toNat % 2 ^ (i + 1) = (~~~ s).toNat % 2 ^ i + 2 ^ i := by rw [hmod]; simp
        rw [minW (by omega) (by omega), e2, wu32m, ← Int.natCast_add, wu32m, hm, Nat.mod_eq_of_lt (show 2 ^ i < 4294967296 by omega), Nat.mod_eq_of_lt (by omega)]
      refine wp_lw e ?_
      exact wp_lv ⟨rfl, hs⟩
    · have h : s.getLsbD i = true := by simpa using h
      rw [h] at hmod
      refine wp_lv ⟨?_, hs⟩
      rw [hmod]; simp

theorem dseal_c (x : Sl) (bs : List UInt8) [hx : FocR l x 1 (bs.flatMap encU)] (hn : bs.length ≤ 1000000000) (hs : Sat w l) :
    Ret P F.towpathref02_Seal #[x.v] w fun vs w' => ∃ z : Sl, vs = [z.v] ∧ Sat w' (slc T.uint8 1 z ((sealL bs).flatMap encU) :: l) :=
  towpathref02_Seal_calls x <| by
    unfold towpathref02_Seal
    have hl := hs.slen x (xs := bs) (enc := encU)
    refine wp_if (fun h => ?_) fun h => ?_
    · have : sealL bs = [] := by unfold sealL; rw [if_pos (by omega)]
      rw [this]
      exact ⟨rfl, ⟨none, 0, 0⟩, rfl, hs.slc_nil⟩
    have e : sealL bs = headL bs ++ fourL (sumL (headL bs)) := by unfold sealL; rw [if_neg (by omega)]
    have hhl : (headL bs).length = bs.length + 4 := by unfold headL; rw [List.length_append, four_len]; omega
    have hsl := sumL_lt (headL bs)
    rw [hl, wu32m, Nat.mod_eq_of_lt (by omega)]
    refine wp_call (dfour_c bs.length (by omega) hs) fun _ _ hs => ?_
    obtain ⟨y, rfl, hs⟩ := hs
    refine ret_of ?_
    refine wp_app' (xs := fourL bs.length) (ys := bs) (enc := encU) hs (fun z w' hs => ?_) (by rw [four_len]; omega)
    have hs : Sat w' (slc T.uint8 1 z ((headL bs).flatMap encU) :: l) := hs
    refine wp_call (dsum_c z (headL bs) (by omega) hs) fun _ _ hs => ?_
    obtain ⟨rfl, hs⟩ := hs
    refine ret_of ?_
    refine wp_call (dfour_c (sumL (headL bs)) hsl hs) fun _ _ hs => ?_
    obtain ⟨u, rfl, hs⟩ := hs
    refine ret_of ?_
    have hs := hs.pick [1, 0]
    refine wp_app' (xs := headL bs) (ys := fourL (sumL (headL bs))) (enc := encU) hs (fun z w' hs => ?_) (by rw [four_len]; omega)
    rw [← e] at hs
    exact ⟨rfl, z, rfl, hs.sub⟩
theorem ofB_keep {bs : List UInt8} {x : Sl} (hs : Sat w l) [hf : FocR l x 1 (bs.flatMap encU)] : (convert T.s_uint8 T.string (.slice x.a x.len x.cap)).run P w = .ok ((Sh.one (.one .str)).mk ((⟨bs.toArray⟩ : ByteArray), ())) w := run_ofB hs
end
end Go.Dec
