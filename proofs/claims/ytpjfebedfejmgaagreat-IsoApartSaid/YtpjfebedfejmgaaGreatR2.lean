/- Isolation: the document's Valid; Flat of both. -/
import Derived.Test.YtpjfebedfejmgaaGreatR1
namespace Go.Dec
set_option linter.unusedVariables false
set_option linter.unusedSimpArgs false

structure AtM where
  off : Int
  r : RecM
def encAt (a : AtM) : List Value := [.int .i64 a.off, .string a.r.key, .string a.r.value, .bool a.r.gone, .int .i64 a.r.time]
instance : EncA encAt [.int .i64, .str, .str, .bool, .int .i64] (fun a => (a.off, a.r.key, a.r.value, a.r.gone, a.r.time, ())) := ⟨fun _ => rfl⟩
instance : EncN encAt 5 := ⟨fun _ => rfl, by decide, by simp [encAt, Value.oneCell']⟩
def atF (base : Int) (i : Nat) (r : RecM) : AtM := ⟨IntKind.wrap .i64 (base + i), r⟩
def flat1 (b : BatM) : List AtM := if markB b then [] else b.rs.mapIdx fun i r => atF b.base i r
def flatA (bs : List BatM) : List AtM := bs.flatMap flat1
theorem flat1_len (b : BatM) : (flat1 b).length ≤ b.rs.length := by unfold flat1; split <;> simp
theorem flatA_len {n : Nat} : ∀ (bs : List BatM), (∀ b ∈ bs, b.rs.length ≤ n) → (flatA bs).length ≤ bs.length * n
  | [], _ => by simp [flatA]
  | b :: r, h => by
    have h1 := flatA_len r fun c hc => h c (List.mem_cons_of_mem _ hc)
    have h2 := flat1_len b
    have h3 := h b (List.mem_cons_self ..)
    unfold flatA at h1 ⊢
    rw [List.flatMap_cons, List.length_append, List.length_cons, Nat.succ_mul]
    omega
theorem mapIdx_take {α β : Type} (f : Nat → α → β) {xs : List α} {i : Nat} (hi : i < xs.length) : (xs.take (i + 1)).mapIdx f = (xs.take i).mapIdx f ++ [f i xs[i]] := by
  rw [List.take_add_one, List.getElem?_eq_getElem hi, Option.toList_some, List.mapIdx_append]
  simp only [List.mapIdx_cons, List.mapIdx_nil, List.length_take]
  rw [Nat.min_eq_left (by omega), Nat.zero_add]

section
variable {w : World} {l r : List HP} {b : BatM}

theorem flat_c (x : Sl) (bs : List BatM) [hx : FocR l x 7 (bs.flatMap encB7)] (hbs : ∀ b ∈ bs, FocR l b.x 4 (b.rs.flatMap encR)) (hn : bs.length ≤ 1000) (hr : ∀ b ∈ bs, b.rs.length ≤ 1000) (hs : Sat w l) :
    Ret P F.rec_Flat #[x.v] w fun vs w' => ∃ z : Sl, vs = [z.v] ∧ Sat w' (slc T.rec_At 5 z ((flatA bs).flatMap encAt) :: l) :=
  rec_Flat_calls x <| by
    unfold rec_Flat
    have hl := hs.slen x (xs := bs) (enc := encB7)
    refine wp_mid (fun v w' => ∃ z : Sl, v = (z, ()) ∧ Sat w' (slc T.rec_At 5 z ((flatA bs).flatMap encAt) :: l)) ?_ (by rintro _ w' ⟨z, rfl, hs⟩; refine wp_on ?_; exact ⟨rfl, z, rfl, hs⟩)
    refine wp_loop (fun k v w => ∃ (i : Nat) (z : Sl), v = (z, (i : Int), ()) ∧ i ≤ bs.length ∧ bs.length - i = k ∧ Sat w (slc T.rec_At 5 z ((flatA (bs.take i)).flatMap encAt) :: l)) bs.length ⟨0, ⟨none, 0, 0⟩, rfl, by omega, rfl, hs.slc_nil⟩ ?_
    clear hs
    rintro k _ w ⟨i, z, rfl, hi, hk, hs⟩
    refine wp_on ?_
    refine wp_if (fun hc => ?_) fun hc => ?_
    rotate_left
    · refine wp_pass (wp_lv ⟨z, rfl, ?_⟩)
      rw [List.take_of_length_le (by omega)] at hs
      exact hs
    have hil : i < bs.length := by omega
    have hbx := hbs _ (List.getElem_mem hil)
    have hbr := hr _ (List.getElem_mem hil)
    have hto : flatA (bs.take (i + 1)) = flatA (bs.take i) ++ flat1 bs[i] := by
      unfold flatA
      rw [List.take_add_one, List.getElem?_eq_getElem hil, Option.toList_some, List.flatMap_append, List.flatMap_singleton]
    have hzl : (flatA (bs.take i)).length ≤ 1000000 := by
      have h1 := flatA_len (n := 1000) (bs.take i) fun b hb => hr b (List.mem_of_mem_take hb)
      have h2 : (bs.take i).length ≤ 1000 := by rw [List.length_take]; omega
      have := Nat.mul_le_mul_right 1000 h2
      omega
    refine wp_mid (fun v w' => ∃ z : Sl, v = (z, ()) ∧ Sat w' (slc T.rec_At 5 z ((flatA (bs.take (i + 1))).flatMap encAt) :: l)) ?_ ?_
    rotate_left
    · rintro _ w' ⟨z, rfl, hs⟩
      refine wp_on ?_
      refine wp_dn (us' := [z.v, .int .i64 ((i + 1 : Nat) : Int)]) (by (try simp (disch := omega) only [w64]); first | rfl | (congr; omega)) ?_
      refine wp_lp (bs.length - (i + 1)) ?_
      exact ⟨i + 1, z, rfl, by omega, rfl, hs⟩
    refine wp_ixA hs i hil ?_
    refine wp_newO hs fun c w' hs => ?_
    refine wp_stG hs fun w' hs => ?_
    refine wp_ldG hs ?_
    refine wp_call (rmark_c bs[i] hs) fun _ _ hs => ?_
    obtain ⟨rfl, hs⟩ := hs
    refine ret_of ?_
    refine wp_if (fun hm => ?_) fun hm => ?_
    · refine wp_lv ⟨z, rfl, ?_⟩
      rw [hto, flat1, if_pos hm, List.append_nil]
      exact hs.sub
    refine wp_ldO hs ?_
    have hrl := hs.slen bs[i].x (xs := bs[i].rs) (enc := encR)
    have hfl : flat1 bs[i] = bs[i].rs.mapIdx fun j r => atF bs[i].base j r := by rw [flat1, if_neg hm]
    refine wp_mid (fun v w' => ∃ z : Sl, v = (z, ()) ∧ Sat w' (slc T.rec_At 5 z ((flatA (bs.take i) ++ bs[i].rs.mapIdx fun j r => atF bs[i].base j r).flatMap encAt) :: l)) ?_ ?_
    rotate_left
    · rintro _ w' ⟨z, rfl, hs⟩
      refine wp_on ?_
      refine wp_lv ⟨z, rfl, ?_⟩
      rw [hto, hfl]
      exact hs
    refine wp_loop (fun k v w => ∃ (j : Nat) (z : Sl), v = (z, (j : Int), ()) ∧ j ≤ bs[i].rs.length ∧ bs[i].rs.length - j = k ∧ Sat w (slc T.rec_At 5 z ((flatA (bs.take i) ++ (bs[i].rs.take j).mapIdx fun j r => atF bs[i].base j r).flatMap encAt) :: pt c (.cells #[.int .i64 bs[i].base, .int .i64 bs[i].pid, .int .i64 bs[i].epoch, .int .i64 bs[i].seq, .int .i64 bs[i].kind, .int .i64 bs[i].time, .slice bs[i].x.a bs[i].x.len bs[i].x.cap] T.api_Batch) :: l)) bs[i].rs.length ⟨0, z, rfl, by omega, rfl, by rw [List.take_zero, List.mapIdx_nil, List.append_nil]; exact hs.sub⟩ ?_
    clear hs
    rintro k _ w ⟨j, z, rfl, hj, hk, hs⟩
    refine wp_on ?_
    refine wp_if (fun hc => ?_) fun hc => ?_
    rotate_left
    · refine wp_pass (wp_lv ⟨z, rfl, ?_⟩)
      rw [show bs[i].rs.take j = bs[i].rs from List.take_of_length_le (by omega)] at hs
      exact hs.sub
    have hjl : j < bs[i].rs.length := by omega
    refine wp_ixA hs j hjl ?_
    refine wp_newO hs fun e w' hs => ?_
    refine wp_lt ?_
    refine wp_stG hs fun w' hs => ?_
    refine wp_ldO hs ?_
    refine wp_ldG hs ?_
    refine wp_ap0 hs (xs := flatA (bs.take i) ++ (bs[i].rs.take j).mapIdx fun j r => atF bs[i].base j r) (enc := encAt) (atF bs[i].base j bs[i].rs[j]) (fun z w' hs => ?_) rfl (by rw [List.length_append, List.length_mapIdx, List.length_take]; omega)
    refine wp_dn (us' := [z.v, .int .i64 ((j + 1 : Nat) : Int)]) (by (try simp (disch := omega) only [w64]); first | rfl | (congr; omega)) ?_
    refine wp_lp (bs[i].rs.length - (j + 1)) ?_
    refine ⟨j + 1, z, rfl, by omega, rfl, ?_⟩
    rw [mapIdx_take _ hjl, ← List.append_assoc]
    exact hs.sub

theorem dflat_c (x : Sl) (bs : List BatM) [hx : FocR l x 7 (bs.flatMap encB7)] (hbs : ∀ b ∈ bs, FocR l b.x 4 (b.rs.flatMap encR)) (hn : bs.length ≤ 1000) (hr : ∀ b ∈ bs, b.rs.length ≤ 1000) (hs : Sat w l) :
    Ret P F.towpathref03_Flat #[x.v] w fun vs w' => ∃ z : Sl, vs = [z.v] ∧ Sat w' (slc T.towpathref03_At 5 z ((flatA bs).flatMap encAt) :: l) :=
  towpathref03_Flat_calls x <| by
    unfold towpathref03_Flat
    have hl := hs.slen x (xs := bs) (enc := encB7)
    refine wp_mid (fun v w' => ∃ z : Sl, v = (z, ()) ∧ Sat w' (slc T.towpathref03_At 5 z ((flatA bs).flatMap encAt) :: l)) ?_ (by rintro _ w' ⟨z, rfl, hs⟩; refine wp_on ?_; exact ⟨rfl, z, rfl, hs⟩)
    refine wp_loop (fun k v w => ∃ (i : Nat) (z : Sl), v = (z, (i : Int), ()) ∧ i ≤ bs.length ∧ bs.length - i = k ∧ Sat w (slc T.towpathref03_At 5 z ((flatA (bs.take i)).flatMap encAt) :: l)) bs.length ⟨0, ⟨none, 0, 0⟩, rfl, by omega, rfl, hs.slc_nil⟩ ?_
    clear hs
    rintro k _ w ⟨i, z, rfl, hi, hk, hs⟩
    refine wp_on ?_
    refine wp_if (fun hc => ?_) fun hc => ?_
    rotate_left
    · refine wp_pass (wp_lv ⟨z, rfl, ?_⟩)
      rw [List.take_of_length_le (by omega)] at hs
      exact hs
    have hil : i < bs.length := by omega
    have hbx := hbs _ (List.getElem_mem hil)
    have hbr := hr _ (List.getElem_mem hil)
    have hto : flatA (bs.take (i + 1)) = flatA (bs.take i) ++ flat1 bs[i] := by
      unfold flatA
      rw [List.take_add_one, List.getElem?_eq_getElem hil, Option.toList_some, List.flatMap_append, List.flatMap_singleton]
    have hzl : (flatA (bs.take i)).length ≤ 1000000 := by
      have h1 := flatA_len (n := 1000) (bs.take i) fun b hb => hr b (List.mem_of_mem_take hb)
      have h2 : (bs.take i).length ≤ 1000 := by rw [List.length_take]; omega
      have := Nat.mul_le_mul_right 1000 h2
      omega
    refine wp_mid (fun v w' => ∃ z : Sl, v = (z, ()) ∧ Sat w' (slc T.towpathref03_At 5 z ((flatA (bs.take (i + 1))).flatMap encAt) :: l)) ?_ ?_
    rotate_left
    · rintro _ w' ⟨z, rfl, hs⟩
      refine wp_on ?_
      refine wp_dn (us' := [z.v, .int .i64 ((i + 1 : Nat) : Int)]) (by (try simp (disch := omega) only [w64]); first | rfl | (congr; omega)) ?_
      refine wp_lp (bs.length - (i + 1)) ?_
      exact ⟨i + 1, z, rfl, by omega, rfl, hs⟩
    refine wp_ixA hs i hil ?_
    refine wp_newO hs fun c w' hs => ?_
    refine wp_stG hs fun w' hs => ?_
    refine wp_ldO hs ?_
    have hrl := hs.slen bs[i].x (xs := bs[i].rs) (enc := encR)
    refine wp_mid (fun v w' => ∃ z : Sl, v = (z, ()) ∧ Sat w' (slc T.towpathref03_At 5 z ((flatA (bs.take i) ++ flat1 bs[i]).flatMap encAt) :: l)) ?_ ?_
    rotate_left
    · rintro _ w' ⟨z, rfl, hs⟩
      refine wp_on ?_
      refine wp_lv ⟨z, rfl, ?_⟩
      rw [hto]
      exact hs
    refine wp_loop (fun k v w => ∃ (j : Nat) (z : Sl), v = (z, (j : Int), ()) ∧ j ≤ bs[i].rs.length ∧ bs[i].rs.length - j = k ∧ Sat w (slc T.towpathref03_At 5 z ((flatA (bs.take i) ++ if markB bs[i] then [] else (bs[i].rs.take j).mapIdx fun j r => atF bs[i].base j r).flatMap encAt) :: pt c (.cells #[.int .i64 bs[i].base, .int .i64 bs[i].pid, .int .i64 bs[i].epoch, .int .i64 bs[i].seq, .int .i64 bs[i].kind, .int .i64 bs[i].time, .slice bs[i].x.a bs[i].x.len bs[i].x.cap] T.api_Batch) :: l)) bs[i].rs.length ⟨0, z, rfl, by omega, rfl, by rw [List.take_zero, List.mapIdx_nil, ite_self, List.append_nil]; exact hs.sub⟩ ?_
    clear hs
    rintro k _ w ⟨j, z, rfl, hj, hk, hs⟩
    refine wp_on ?_
    refine wp_if (fun hc => ?_) fun hc => ?_
    rotate_left
    · refine wp_pass (wp_lv ⟨z, rfl, ?_⟩)
      rw [show bs[i].rs.take j = bs[i].rs from List.take_of_length_le (by omega)] at hs
      rw [flat1]
      exact hs.sub
    have hjl : j < bs[i].rs.length := by omega
    refine wp_ixA hs j hjl ?_
    refine wp_newO hs fun e w' hs => ?_
    refine wp_lt ?_
    refine wp_stG hs fun w' hs => ?_
    refine wp_ldG hs ?_
    refine wp_call (dmark_c bs[i] hs) fun _ _ hs => ?_
    obtain ⟨rfl, hs⟩ := hs
    refine ret_of ?_
    refine wp_mid (fun v w' => ∃ z : Sl, v = (z, ()) ∧ Sat w' (slc T.towpathref03_At 5 z ((flatA (bs.take i) ++ if markB bs[i] then [] else (bs[i].rs.take (j + 1)).mapIdx fun j r => atF bs[i].base j r).flatMap encAt) :: pt c (.cells #[.int .i64 bs[i].base, .int .i64 bs[i].pid, .int .i64 bs[i].epoch, .int .i64 bs[i].seq, .int .i64 bs[i].kind, .int .i64 bs[i].time, .slice bs[i].x.a bs[i].x.len bs[i].x.cap] T.api_Batch) :: l)) ?_ ?_
    rotate_left
    · rintro _ w' ⟨z, rfl, hs⟩
      refine wp_on ?_
      refine wp_dn (us' := [z.v, .int .i64 ((j + 1 : Nat) : Int)]) (by (try simp (disch := omega) only [w64]); first | rfl | (congr; omega)) ?_
      refine wp_lp (bs[i].rs.length - (j + 1)) ?_
      exact ⟨j + 1, z, rfl, by omega, rfl, hs⟩
    refine wp_if (fun hm => ?_) fun hm => ?_
    · have hm : markB bs[i] = false := by simpa using hm
      rw [if_neg (by rw [hm]; simp)] at hs
      refine wp_ldO hs ?_
      refine wp_ldG hs ?_
      refine wp_ap0 hs (xs := flatA (bs.take i) ++ (bs[i].rs.take j).mapIdx fun j r => atF bs[i].base j r) (enc := encAt) (atF bs[i].base j bs[i].rs[j]) (fun z w' hs => ?_) rfl (by rw [List.length_append, List.length_mapIdx, List.length_take]; omega)
      refine wp_lv ⟨z, rfl, ?_⟩
      rw [if_neg (by rw [hm]; simp), mapIdx_take _ hjl, ← List.append_assoc]
      exact hs.sub
    · have hm : markB bs[i] = true := by simpa using hm
      rw [if_pos hm] at hs
      refine wp_lv ⟨z, rfl, ?_⟩
      rw [if_pos hm]
      exact hs.sub

theorem dvalid_c (b : BatM) [hb : FocR l b.x 4 (b.rs.flatMap encR)] (hs : Sat w l) : Ret P F.towpathref03_Valid #[.agg (encB7 b).toArray] w fun vs w' => vs = [.int .i64 (validB b)] ∧ Sat w' l :=
  towpathref03_Valid_calls b.base b.pid b.epoch b.seq b.kind b.time b.x <| by
    unfold towpathref03_Valid validB
    have hl := hs.slen b.x (xs := b.rs) (enc := encR)
    refine wp_boxO hs fun a0 w' hs => ?_
    refine wp_mid (fun v w' => v = (decide (¬ numsB b), ()) ∧ Sat w' (pt a0 (.cells #[.int .i64 b.base, .int .i64 b.pid, .int .i64 b.epoch, .int .i64 b.seq, .int .i64 b.kind, .int .i64 b.time, .slice b.x.a b.x.len b.x.cap] T.api_Batch) :: l)) ?_ ?_
    · have hno : ∀ {w'}, ¬ numsB b → Sat w' (pt a0 (.cells #[.int .i64 b.base, .int .i64 b.pid, .int .i64 b.epoch, .int .i64 b.seq, .int .i64 b.kind, .int .i64 b.time, .slice b.x.a b.x.len b.x.cap] T.api_Batch) :: l) → ((true, ()) : Bool × Unit) = (decide (¬ numsB b), ()) ∧ Sat w' (pt a0 (.cells #[.int .i64 b.base, .int .i64 b.pid, .int .i64 b.epoch, .int .i64 b.seq, .int .i64 b.kind, .int .i64 b.time, .slice b.x.a b.x.len b.x.cap] T.api_Batch) :: l) := fun h hs => ⟨by rw [decide_eq_true h], hs⟩
      refine wp_ldO hs ?_
      refine wp_call (out_c b.kind 0 3 hs) fun _ _ hs => ?_
      obtain ⟨rfl, hs⟩ := hs
      refine ret_of ?_
      refine wp_ldO hs ?_
      refine wp_if (fun h1 => ?_) fun h1 => ?_
      · exact wp_lv (hno (fun h => h1 h.1) hs)
      refine wp_call (out_c b.base 0 1099511627776 hs) fun _ _ hs => ?_
      obtain ⟨rfl, hs⟩ := hs
      refine ret_of ?_
      refine wp_ldO hs ?_
      refine wp_if (fun h2 => ?_) fun h2 => ?_
      · exact wp_lv (hno (fun h => h2 h.2.1) hs)
      refine wp_call (out_c b.pid 0 1048576 hs) fun _ _ hs => ?_
      obtain ⟨rfl, hs⟩ := hs
      refine ret_of ?_
      refine wp_ldO hs ?_
      refine wp_if (fun h3 => ?_) fun h3 => ?_
      · exact wp_lv (hno (fun h => h3 h.2.2.1) hs)
      refine wp_call (out_c b.epoch 0 32767 hs) fun _ _ hs => ?_
      obtain ⟨rfl, hs⟩ := hs
      refine ret_of ?_
      refine wp_ldO hs ?_
      refine wp_if (fun h4 => ?_) fun h4 => ?_
      · exact wp_lv (hno (fun h => h4 h.2.2.2.1) hs)
      refine wp_call (out_c b.seq 0 2147483647 hs) fun _ _ hs => ?_
      obtain ⟨rfl, hs⟩ := hs
      refine ret_of ?_
      refine wp_ldO hs ?_
      refine wp_if (fun h5 => ?_) fun h5 => ?_
      · exact wp_lv (hno (fun h => h5 h.2.2.2.2.1) hs)
      refine wp_call (out_c b.time 0 1099511627776 hs) fun _ _ hs => ?_
      obtain ⟨rfl, hs⟩ := hs
      refine ret_of ?_
      refine wp_lv ⟨?_, hs⟩
      have : numsB b ↔ (0 ≤ b.time ∧ b.time ≤ 1099511627776) := ⟨fun h => h.2.2.2.2.2, fun h => ⟨Decidable.not_not.1 h1, Decidable.not_not.1 h2, Decidable.not_not.1 h3, Decidable.not_not.1 h4, Decidable.not_not.1 h5, h⟩⟩
      rw [decide_not, decide_eq_decide.2 this]
    clear hs
    rintro _ w ⟨rfl, hs⟩
    refine wp_on ?_
    refine wp_if (fun h1 => ?_) fun h1 => ?_
    · rw [if_pos (.inl h1)]; exact ⟨rfl, rfl, hs.tail⟩
    have hnum : numsB b := Decidable.not_not.1 h1
    refine wp_ldO hs ?_
    refine wp_ldO hs ?_
    refine wp_ldO hs ?_
    refine wp_ldO hs ?_
    refine wp_if (fun h2 => ?_) fun h2 => ?_
    · rw [if_pos (.inr fun h => h.1 ⟨h2.1, or_assoc.1 h2.2⟩)]; exact ⟨rfl, rfl, hs.tail⟩
    have h2 : ¬ (b.pid = 0 ∧ (b.kind ≠ 0 ∨ b.epoch ≠ 0 ∨ b.seq ≠ 0)) := fun h => h2 ⟨h.1, or_assoc.2 h.2⟩
    refine wp_mid (fun v w' => v = (decide (¬ fitsB b), ()) ∧ Sat w' (pt a0 (.cells #[.int .i64 b.base, .int .i64 b.pid, .int .i64 b.epoch, .int .i64 b.seq, .int .i64 b.kind, .int .i64 b.time, .slice b.x.a b.x.len b.x.cap] T.api_Batch) :: l)) ?_ ?_
    · refine wp_tk hs fun w' hs => ?_
      refine wp_ldG hs ?_
      refine wp_hdO hs ?_
      refine wp_call (dmark_c b hs) fun _ w' hs => ?_
      obtain ⟨rfl, hs⟩ := hs
      refine ret_of ?_ ⟨trivial, fun _ => run_ldO hs⟩
      refine wp_ldG hs ?_
      refine wp_untick ?_
      refine wp_if (fun h3 => ?_) fun h3 => ?_
      · refine wp_untick ?_
        refine wp_lv ⟨?_, hs⟩
        rw [decide_eq_true]
        rintro ⟨-, h4⟩
        apply h3
        rw [Bool.eq_iff_iff, beq_iff_eq, hl]
        by_cases hm : markB b = true
        · rw [if_pos hm] at h4; simp [hm, h4.2]
        · rw [if_neg hm] at h4; simp [hm]; intro h5; rw [h5] at h4; simp at h4
      have h3 : markB b = true ↔ b.rs.length = 0 := by
        have := Decidable.not_not.1 h3
        rw [Bool.eq_iff_iff, beq_iff_eq, hl] at this
        rw [this]; omega
      refine wp_call (dmark_c b hs) fun _ _ hs => ?_
      obtain ⟨rfl, hs⟩ := hs
      refine ret_of ?_
      refine wp_ldO hs ?_
      refine wp_untick ?_
      refine wp_lv ⟨?_, hs⟩
      have : ¬ fitsB b ↔ (markB b = true ∧ b.seq ≠ 0) := by
        unfold fitsB
        by_cases hm : markB b = true
        · rw [if_pos hm]
          have := h3.1 hm
          constructor
          · exact fun h => ⟨hm, fun h5 => h ⟨h2, h5, this⟩⟩
          · exact fun h h5 => h.2 h5.2.1
        · rw [if_neg hm]
          have : 0 < b.rs.length := Nat.pos_of_ne_zero fun h => hm (h3.2 h)
          constructor
          · exact fun h => absurd ⟨h2, this⟩ h
          · exact fun h => absurd h.1 hm
      rw [decide_eq_decide.2 this, Bool.decide_and]
      cases markB b <;> simp [bne]
      rfl
    clear hs
    rintro _ w ⟨rfl, hs⟩
    refine wp_on ?_
    refine wp_if (fun h3 => ?_) fun h3 => ?_
    · rw [if_pos (.inr h3)]; exact ⟨rfl, rfl, hs.tail⟩
    have hfit : fitsB b := Decidable.not_not.1 h3
    rw [if_neg (fun h => h.elim h1 h3)]
    refine wp_ldO hs ?_
    refine wp_if (fun h4 => ?_) fun h4 => ?_
    · rw [if_pos (by omega)]; exact ⟨rfl, rfl, hs.tail⟩
    rw [if_neg (by omega)]
    refine wp_ldO hs ?_
    refine wp_mid (fun v w' => badF b.rs = 0 ∧ Sat w' (pt a0 (.cells #[.int .i64 b.base, .int .i64 b.pid, .int .i64 b.epoch, .int .i64 b.seq, .int .i64 b.kind, .int .i64 b.time, .slice b.x.a b.x.len b.x.cap] T.api_Batch) :: l)) ?_ ?_
    · refine wp_loop (fun k v w => ∃ i : Nat, v = ((i : Int), ()) ∧ i ≤ b.rs.length ∧ b.rs.length - i = k ∧ badF (b.rs.take i) = 0 ∧ Sat w (pt a0 (.cells #[.int .i64 b.base, .int .i64 b.pid, .int .i64 b.epoch, .int .i64 b.seq, .int .i64 b.kind, .int .i64 b.time, .slice b.x.a b.x.len b.x.cap] T.api_Batch) :: l)) b.rs.length ⟨0, rfl, by omega, rfl, rfl, hs⟩ ?_
      clear hs
      rintro k _ w ⟨i, rfl, hi, hk, hbad, hs⟩
      refine wp_on ?_
      refine wp_if (fun hc => ?_) fun hc => ?_
      rotate_left
      · refine wp_pass (wp_lv ⟨?_, hs⟩)
        rwa [List.take_of_length_le (by omega)] at hbad
      have hil : i < b.rs.length := by omega
      have hbt := badF_take b.rs i hil hbad
      have hbs' := badF_step b.rs i hil hbad
      refine wp_ixA hs i hil ?_
      refine wp_newO hs fun c w' hs => ?_
      refine wp_stG hs fun w' hs => ?_
      refine wp_ldO hs ?_
      refine wp_ldO hs ?_
      refine wp_if (fun h5 => ?_) fun h5 => ?_
      · have e : recF b.rs[i] = 7 := by unfold recF; rw [if_pos (by omega)]
        rw [e] at hbt
        have := hbt (by decide)
        rw [if_pos (by rw [this]; decide), this]
        refine wp_pass (wp_pass ?_)
        exact ⟨rfl, rfl, hs.tail.tail⟩
      refine wp_ldO hs ?_
      refine wp_call (out_c b.rs[i].time 0 1099511627776 hs) fun _ _ hs => ?_
      obtain ⟨rfl, hs⟩ := hs
      refine ret_of ?_
      refine wp_ldO hs ?_
      refine wp_ldO hs ?_
      refine wp_if (fun h6 => ?_) fun h6 => ?_
      · have e : recF b.rs[i] = 2 := by
          unfold recF
          rw [if_neg (by omega), if_pos]
          rcases h6 with h6 | ⟨h6, h7⟩
          · exact .inl h6
          · exact .inr ⟨h6, by omega⟩
        rw [e] at hbt
        have := hbt (by decide)
        rw [if_pos (by rw [this]; decide), this]
        refine wp_pass (wp_pass ?_)
        exact ⟨rfl, rfl, hs.tail.tail⟩
      · have e : recF b.rs[i] = 0 := by
          unfold recF
          rw [if_neg (by omega), if_neg]
          rintro (h7 | ⟨h7, h8⟩)
          · exact h6 (.inl h7)
          · exact h6 (.inr ⟨h7, by omega⟩)
        refine wp_dn (us' := [.int .i64 ((i + 1 : Nat) : Int)]) (by (try simp (disch := omega) only [w64]); first | rfl | (congr; omega)) ?_
        refine wp_lp (b.rs.length - (i + 1)) ?_
        exact ⟨i + 1, rfl, by omega, rfl, hbs' e, hs.sub⟩
    clear hs
    rintro _ w ⟨hbad, hs⟩
    refine wp_on ?_
    rw [if_neg (by rw [hbad]; simp)]
    have hsp : 1 ≤ spanB b ∧ spanB b ≤ 64 := by
      unfold spanB
      have h3 := hfit.2
      split
      · omega
      · rename_i hm
        rw [if_neg hm] at h3
        omega
    obtain ⟨-, hba, -, -, hse, -⟩ := hnum
    refine wp_tk hs fun w' hs => ?_
    refine wp_hdO hs ?_
    refine wp_ldG hs ?_
    refine wp_call (dspan_c b hs) fun _ w' hs => ?_
    obtain ⟨rfl, hs⟩ := hs
    refine ret_of ?_ ⟨trivial, fun _ => run_ldO hs⟩
    refine wp_untick ?_
    rw [w64 (x := b.base + spanB b) (by omega) (by omega), w64 (x := b.base + spanB b - 1) (by omega) (by omega)]
    refine wp_if (fun h5 => ?_) fun h5 => ?_
    · rw [if_pos (.inl (by omega))]; exact ⟨rfl, rfl, hs.tail⟩
    refine wp_mid (fun v w' => v = (decide (b.pid > 0 ∧ markB b = false ∧ b.seq > 2147483647 - (spanB b - 1)), ()) ∧ Sat w' l) ?_ ?_
    · refine wp_ldO hs ?_
      refine wp_ldG hs ?_
      refine wp_if (fun h6 => ?_) fun h6 => ?_
      rotate_left
      · exact wp_lv ⟨by rw [decide_eq_false (fun h => h6 h.1)], hs.tail⟩
      refine wp_call (dmark_c b hs) fun _ _ hs => ?_
      obtain ⟨rfl, hs⟩ := hs
      refine ret_of ?_
      refine wp_ldO hs ?_
      refine wp_ldO hs ?_
      rw [w64 (x := b.seq + ((b.x.len : Nat) : Int)) (by omega) (by omega), w64 (x := b.seq + ((b.x.len : Nat) : Int) - 1) (by omega) (by omega)]
      refine wp_lv ⟨?_, hs.tail⟩
      have : (b.pid > 0 ∧ markB b = false ∧ b.seq > 2147483647 - (spanB b - 1)) ↔ (markB b = false ∧ b.seq + ((b.x.len : Nat) : Int) - 1 > 2147483647) := by
        constructor
        · rintro ⟨-, h7, h8⟩
          refine ⟨h7, ?_⟩
          unfold spanB at h8
          rw [if_neg (by rw [h7]; simp)] at h8
          omega
        · rintro ⟨h7, h8⟩
          refine ⟨h6, h7, ?_⟩
          unfold spanB
          rw [if_neg (by rw [h7]; simp)]
          omega
      rw [decide_eq_decide.2 this, Bool.decide_and]
      cases markB b <;> rfl
    clear hs
    rintro _ w ⟨rfl, hs⟩
    refine wp_on ?_
    refine wp_if (fun h6 => ?_) fun h6 => ?_
    · rw [if_pos (.inr h6)]; exact ⟨rfl, rfl, hs⟩
    · rw [if_neg (fun h => h.elim (fun h => h5 (by omega)) h6)]; exact ⟨rfl, rfl, hs⟩

end
end Go.Dec
