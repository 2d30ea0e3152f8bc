/- Windows: the document's Hex, Key and Parse; Bound; the law of keys. -/
import Derived.Test.YtjgejjcdoppccaaW18
namespace Go.Dec
set_option linter.unusedVariables false
set_option linter.unusedSimpArgs false

theorem bytes_ext {a b : ByteArray} (h : a.data.toList = b.data.toList) : a = b := by
  cases a; cases b; exact congrArg ByteArray.mk (Array.ext' h)

/-- The last so many digits, as a text. -/
def hexE (i m : Nat) : ByteArray := ⟨(hexW i m).toArray⟩
theorem digit_text : ∀ d : Fin 16, (ByteArray.extract (ByteArray.mk #[48, 49, 50, 51, 52, 53, 54, 55, 56, 57, 97, 98, 99, 100, 101, 102]) d.val (d.val + 1)).data.toList = [hd d.val] := by decide +kernel
theorem digit_bt : ∀ d : Fin 16, bt (ByteArray.mk #[48, 49, 50, 51, 52, 53, 54, 55, 56, 57, 97, 98, 99, 100, 101, 102]) (d.val : Int) = ((hd d.val).toNat : Int) := by decide +kernel

def shortF (s : ByteArray) : ByteArray := if s.size > 1030 then s.extract 0 1030 else s

def keyV (t : Int) (key : ByteArray) : List Value := if isT t then if key.size > 1011 then [.string (ByteArray.mk #[]), .int .i64 7] else [.string (keyB t.toNat key), .int .i64 0] else [.string (ByteArray.mk #[]), .int .i64 2]

section
variable {w : World} {l r : List HP}

theorem short_c (s : ByteArray) (hs : Sat w l) : Ret P F.towpathlaw21_short #[.string s] w fun vs w' => vs = [.string (shortF s)] ∧ Sat w' l :=
  towpathlaw21_short_calls s <| by
    unfold towpathlaw21_short shortF
    refine wp_if (fun h => ?_) fun h => ?_
    · rw [if_pos (by omega)]
      exact wp_mu (wp_lt ⟨rfl, rfl, hs⟩)
    · rw [if_neg (by omega)]
      exact wp_lt ⟨rfl, rfl, hs⟩

theorem rhex_c (m : Nat) (hm : m < 17592186044416) (hs : Sat w l) : Ret P F.towpathref21_Hex #[.int .i64 m] w fun vs w' => vs = [.string (hexB m)] ∧ Sat w' l :=
  towpathref21_Hex_calls m <| by
    unfold towpathref21_Hex
    refine wp_mid (fun v w' => v = (hexB m, ()) ∧ Sat w' l) ?_ ?_
    · refine wp_loop (fun n v w => ∃ i : Nat, v = (((m / 16 ^ i : Nat) : Int), hexE i m, (i : Int), ()) ∧ i ≤ 11 ∧ 11 - i = n ∧ Sat w l) 11 ⟨0, by simp [hexE, hexW], by omega, rfl, hs⟩ ?_
      clear hs
      rintro n _ w ⟨i, rfl, hi, hn, hs⟩
      refine wp_on ?_
      have hq : m / 16 ^ i ≤ m := Nat.div_le_self _ _
      have hsz : (hexE i m).size = i := by show (hexW i m).toArray.size = i; simp [hexW_length]
      refine wp_if (fun hc => ?_) fun hc => ?_
      · obtain ⟨d, hd⟩ : ∃ d, d = m / 16 ^ i % 16 := ⟨_, rfl⟩
        have hd16 : d < 16 := by omega
        have e1 : Int.tmod ((m / 16 ^ i : Nat) : Int) 16 = (d : Int) := by
          have : ∀ q : Nat, Int.tmod (q : Int) 16 = ((q % 16 : Nat) : Int) := fun q => by rw [Int.tmod_eq_emod_of_nonneg (by omega)]; omega
          rw [this, ← hd]
        have hb : ∀ q : Nat, q ≤ m → -9223372036854775808 ≤ (q : Int) ∧ (q : Int) < 9223372036854775808 := fun q hq => by omega
        have e2 : IntKind.wrap .i64 ((d : Int) + 1) = ((d + 1 : Nat) : Int) := by rw [w64 (by omega) (by omega)]; rfl
        have e3 : Int.tdiv ((m / 16 ^ i : Nat) : Int) 16 = ((m / 16 ^ (i + 1) : Nat) : Int) := by rw [Nat.pow_succ, ← Nat.div_div_eq_div_mul]; rfl
        rw [e1, e2, e3, Int.toNat_natCast, Int.toNat_natCast]
        have e4 := digit_text ⟨d, hd16⟩
        dsimp only at e4
        generalize ByteArray.extract (ByteArray.mk #[48, 49, 50, 51, 52, 53, 54, 55, 56, 57, 97, 98, 99, 100, 101, 102]) d (d + 1) = t at *
        have ht : t.size = 1 := by show t.data.size = 1; rw [← Array.length_toList, e4]; rfl
        refine wp_must ⟨by omega, by omega, by omega⟩ (wp_must (by omega) ?_)
        have e5 : t ++ hexE i m = hexE (i + 1) m := bytes_ext (by rw [ByteArray.data_append, Array.toList_append, e4, hd]; rfl)
        rw [e5]
        have : m / 16 ^ (i + 1) ≤ m := Nat.div_le_self _ _
        refine wp_lt (wp_ltw ?_ (hb _ this))
        refine wp_ltx (y := ((i + 1 : Nat) : Int)) ?_
        refine wp_lp (11 - (i + 1)) ?_
        exact ⟨i + 1, rfl, by omega, rfl, hs⟩
      · refine wp_pass (wp_lv ⟨?_, hs⟩)
        rw [show i = 11 by omega]; rfl
    · rintro _ w' ⟨rfl, hs⟩
      refine wp_on ?_
      exact wp_lt ⟨rfl, rfl, hs⟩

theorem rkey_c (t : Int) (key : ByteArray) (hs : Sat w l) : Ret P F.towpathref21_Key #[.int .i64 t, .string key] w fun vs w' => vs = keyV t key ∧ Sat w' l :=
  towpathref21_Key_calls t key <| by
    unfold towpathref21_Key keyV
    refine wp_callS (isT t, ()) (rtime_c t hs) rfl fun w' hs => ⟨trivial, ?_⟩
    refine wp_on ?_
    refine wp_if (fun h => ?_) fun h => ?_
    · rw [if_neg h]; exact ⟨rfl, rfl, hs⟩
    have h := Decidable.not_not.1 h
    rw [if_pos h]
    have ht : 0 ≤ t ∧ t ≤ 1099511627776 := by simpa [isT] using h
    refine wp_if (fun h2 => ?_) fun h2 => ?_
    · rw [if_pos (by omega)]; exact ⟨rfl, rfl, hs⟩
    rw [if_neg (by omega)]
    obtain ⟨m, rfl⟩ : ∃ m : Nat, t = m := ⟨t.toNat, by omega⟩
    refine wp_callS (hexB m, ()) (rhex_c m (by omega) hs) rfl fun w' hs => ⟨trivial, ?_⟩
    refine wp_on ?_
    have hl := hexB_size m
    have h1 : (ByteArray.mk #[119]).size = 1 := rfl
    have h3 : (ByteArray.mk #[58]).size = 1 := rfl
    refine wp_must (by omega) (wp_must (by rw [ByteArray.size_append]; omega) (wp_must (by rw [ByteArray.size_append, ByteArray.size_append]; omega) ?_))
    rw [← hexB_eq]
    refine wp_lt ⟨rfl, ?_, hs⟩
    rw [Int.toNat_natCast, ← keyB_eq]; rfl

theorem rparse_c (s : ByteArray) (hsz : s.size ≤ 1000000) (hs : Sat w l) : Ret P F.towpathref21_Parse #[.string s] w fun vs w' => vs = parseV (parseF s) ∧ Sat w' l :=
  towpathref21_Parse_calls s <| by
    unfold towpathref21_Parse
    refine wp_if (fun h => ?_) fun h => ?_
    · rw [parseF, if_pos (.inl (by omega))]; exact ⟨rfl, rfl, hs⟩
    have h13 : 13 ≤ s.size := by omega
    rw [parse_doc s h13]
    obtain ⟨e, he⟩ : ∃ e, e = (s.extract 1 12).data.toList := ⟨_, rfl⟩
    have hel : e.length = 11 := by rw [he, Array.length_toList]; show (s.extract 1 12).size = 11; rw [ByteArray.size_extract]; omega
    have hget : ∀ i (hi : i < 11), bt s ((i + 1 : Nat) : Int) = ((e[i]'(by omega)).toNat : Int) := fun i hi => by
      rw [bt_get (by omega)]
      congr 2
      subst he
      simp [ByteArray.data_extract, Nat.add_comm]
    rw [← he]
    refine wp_mid (fun v w' => v = (((digN e 0 : Nat) : Int), ()) ∧ Sat w' l) ?_ ?_
    · refine wp_loop (fun n v w => ∃ i : Nat, v = (((digN (e.take i) 0 : Nat) : Int), ((i + 1 : Nat) : Int), ()) ∧ i ≤ 11 ∧ 11 - i = n ∧ Sat w l) 11 ⟨0, rfl, by omega, rfl, hs⟩ ?_
      clear hs
      rintro n _ w ⟨i, rfl, hi, hn, hs⟩
      refine wp_on ?_
      refine wp_if (fun hc => ?_) fun hc => ?_
      · have hi11 : i < 11 := by omega
        have hb := hget i hi11
        have hnx : digN (e.take (i + 1)) 0 = digN (e.take i) 0 * 16 + (hexv (e[i]'(by omega)).toNat).getD 0 := by
          rw [List.take_add_one, List.getElem?_eq_getElem (by omega), digN_append]; rfl
        have hlt : digN (e.take i) 0 < 17592186044416 := by
          have h1 := digN_lt (e.take i) 0
          rw [List.length_take, hel, Nat.min_eq_left hi] at h1
          have h2 : (16 : Nat) ^ i ≤ 16 ^ 11 := Nat.pow_le_pow_right (by omega) hi
          omega
        generalize digN (e.take i) 0 = q at *
        have hpd := pd_hexv ⟨(e[i]'(by omega)).toNat, (e[i]'(by omega)).toNat_lt⟩
        dsimp only at hpd
        rw [← hpd] at hnx
        generalize (e[i]'(by omega)).toNat = b at *
        refine wp_mid (fun v w' => v = (((q * 16 + pd b 16 : Nat) : Int), ()) ∧ Sat w' l) ?_ ?_
        · refine wp_ltx (y := ((q * 16 : Nat) : Int)) ?_
          refine wp_bind ?_
          refine wp_loop (fun n v w => ∃ j : Nat, v = (((q * 16 + pd b j : Nat) : Int), (j : Int), ()) ∧ j ≤ 16 ∧ 16 - j = n ∧ Sat w l) 16 ⟨0, rfl, by omega, rfl, hs⟩ ?_
          clear hs
          rintro n _ w ⟨j, rfl, hj, hn2, hs⟩
          refine wp_on ?_
          have hp := pd_le b j
          have hjj : j * j ≤ 16 * 16 := Nat.mul_le_mul hj hj
          refine wp_if (fun hc2 => ?_) fun hc2 => ?_
          · refine wp_tk hs fun w' hs => ?_
            refine wp_mu (wp_mu (wp_untick ?_))
            have hdb := digit_bt ⟨j, by omega⟩
            dsimp only at hdb
            rw [hdb, hb]
            refine wp_mid (fun v w' => v = (((q * 16 + pd b (j + 1) : Nat) : Int), ()) ∧ Sat w' l) ?_ ?_
            · refine wp_if (fun h3 => ?_) fun h3 => ?_
              · refine wp_ltx (y := ((q * 16 + pd b (j + 1) : Nat) : Int)) ?_ ?_
                · exact wp_lv ⟨rfl, hs⟩
                · rw [pd, if_pos (by omega), w64 (by omega) (by omega)]; omega
              · refine wp_lv ⟨?_, hs⟩
                rw [pd, if_neg (by omega)]; rfl
            · rintro _ w' ⟨rfl, hs⟩
              refine wp_on (wp_ltx (y := ((j + 1 : Nat) : Int)) ?_)
              refine wp_lp (16 - (j + 1)) ?_
              exact ⟨j + 1, rfl, by omega, rfl, hs⟩
          · refine wp_pass (wp_go (wp_lv ⟨?_, hs⟩))
            rw [show j = 16 by omega]
        · rintro _ w' ⟨rfl, hs⟩
          refine wp_on (wp_ltx (y := ((i + 1 + 1 : Nat) : Int)) ?_)
          refine wp_lp (11 - (i + 1)) ?_
          exact ⟨i + 1, by rw [hnx], by omega, rfl, hs⟩
      · refine wp_pass (wp_lv ⟨?_, hs⟩)
        rw [List.take_of_length_le (by omega)]
    · clear hs
      rintro _ w ⟨rfl, hs⟩
      refine wp_on (wp_mu ?_)
      have hrs : (s.extract 13 s.size).size = s.size - 13 := by rw [ByteArray.size_extract]; omega
      refine wp_call (rkey_c _ _ hs) fun vs w' h => ?_
      obtain ⟨rfl, hs⟩ := h
      unfold keyV
      generalize digN e 0 = q at *
      by_cases hq : q ≤ 1099511627776
      · have : isT (q : Int) = true := by simp [isT]; omega
        rw [if_pos this]
        by_cases hk : (s.extract 13 s.size).size > 1011
        · rw [if_pos hk, if_neg (fun h => by omega)]
          refine ret_of ?_
          refine wp_lt (wp_lt ?_)
          exact wp_ifT ⟨rfl, rfl, hs⟩ (.inl (by decide))
        · rw [if_neg hk, Int.toNat_natCast]
          refine ret_of ?_
          refine wp_lt (wp_lt ?_)
          by_cases hkk : keyB q (s.extract 13 s.size) = s
          · rw [if_pos ⟨hq, by omega, hkk⟩]
            refine wp_ifF ?_ (fun h => h.elim (fun h => h rfl) fun h => h hkk)
            refine wp_tk hs fun w' hs => ?_
            refine wp_mu ?_
            refine wp_lt (wp_lt (wp_untick ?_))
            exact ⟨rfl, rfl, hs⟩
          · rw [if_neg (fun h => hkk h.2.2)]
            exact wp_ifT ⟨rfl, rfl, hs⟩ (.inr hkk)
      · have : isT (q : Int) = false := by simp [isT]; omega
        rw [if_neg (by rw [this]; simp), if_neg (fun h => hq h.1)]
        refine ret_of ?_
        refine wp_lt (wp_lt ?_)
        exact wp_ifT ⟨rfl, rfl, hs⟩ (.inl (by decide))

def clampT (n : Int) : Int := if 17592186044415 < if 0 > n then 0 else n then 17592186044415 else if 0 > n then 0 else n

theorem clampT_two (n : Int) : clampT n = if (if n < 0 then 0 else n) > 17592186044415 then 17592186044415 else (if n < 0 then 0 else n) := by
  rfl

theorem clampT_nat (n : Int) : ∃ m : Nat, clampT n = m ∧ m < 17592186044416 ∧ ∀ a : Nat, a ≤ 1099511627776 → ((a < m) ↔ ((a : Int) < n)) := by
  refine ⟨(clampT n).toNat, ?_, ?_, fun a ha => ?_⟩ <;> unfold clampT <;> split <;> split <;> omega

theorem bound_c (n : Int) (hs : Sat w l) : Ret P F.window_Bound #[.int .i64 n] w fun vs w' => vs = [.string ((ByteArray.mk #[119]) ++ hexB (clampT n).toNat)] ∧ Sat w' l :=
  window_Bound_calls n <| by
    unfold window_Bound
    obtain ⟨m, hm, hlt, -⟩ := clampT_nat n
    rw [show (if 17592186044415 < if 0 > n then 0 else n then 17592186044415 else if 0 > n then 0 else n) = clampT n from rfl, hm]
    refine wp_callS (strOfNums (hexL m), ()) (hex_c m hlt hs) rfl fun w' hs => ⟨trivial, ?_⟩
    refine wp_on ?_
    rw [hexB_eq]
    have hl := hexB_size m
    exact wp_mu (wp_lt ⟨rfl, rfl, hs⟩)

end

section
variable {w : World} {l r : List HP}

theorem key_c' (t : Int) (key : ByteArray) (hs : Sat w l) : Ret P F.window_Key #[.int .i64 t, .string key] w fun vs w' => vs = keyV t key ∧ Sat w' l :=
  Calls.mono (key_c t key hs) fun e w' ⟨vs, he, hv, hs⟩ => ⟨vs, he, by rw [hv, keyB_eq]; rfl, hs⟩

/-- A key's text and error. -/
theorem keyV_cases (t : Int) (key : ByteArray) : (∃ m : Nat, t = m ∧ m ≤ 1099511627776 ∧ key.size ≤ 1011 ∧ keyV t key = [.string (keyB m key), .int .i64 0]) ∨ ∃ n : Int, n ≠ 0 ∧ keyV t key = [.string (ByteArray.mk #[]), .int .i64 n] := by
  unfold keyV
  by_cases h : isT t = true
  · have ht : 0 ≤ t ∧ t ≤ 1099511627776 := by simpa [isT] using h
    rw [if_pos h]
    by_cases h2 : key.size > 1011
    · rw [if_pos h2]; exact .inr ⟨7, by decide, rfl⟩
    · rw [if_neg h2]; exact .inl ⟨t.toNat, by omega, by omega, by omega, rfl⟩
  · rw [if_neg h]; exact .inr ⟨2, by decide, rfl⟩

theorem parseV_cases (o : Option (Nat × ByteArray)) : ∃ (n : Int) (s : ByteArray) (e : Int), parseV o = [.int .i64 n, .string s, .int .i64 e] := by
  cases o with
  | none => exact ⟨_, _, _, rfl⟩
  | some x => exact ⟨_, _, _, rfl⟩

theorem keys_law (a : Int) (k : ByteArray) (b : Int) (l' s : ByteArray) (at_ : Int) (hs : Sat w l) :
    Ret P F.towpathlaw21_WindowKeys #[.int .i64 a, .string k, .int .i64 b, .string l', .string s, .int .i64 at_] w fun vs w' => vs = [.bool true] ∧ Sat w' l :=
  towpathlaw21_WindowKeys_calls a k b l' s at_ <| by
    unfold towpathlaw21_WindowKeys
    refine wp_callS (shortF k, ()) (short_c k hs) rfl fun w' hs => ⟨trivial, wp_on ?_⟩
    refine wp_callS (shortF l', ()) (short_c l' hs) rfl fun w' hs => ⟨trivial, wp_on ?_⟩
    refine wp_callS (shortF s, ()) (short_c s hs) rfl fun w' hs => ⟨trivial, wp_on ?_⟩
    have hss : (shortF s).size ≤ 1030 := by 
      unfold shortF
      split
      · rw [ByteArray.size_extract]; omega
      · omega
    generalize shortF k = k at *
    generalize shortF l' = l' at *
    generalize shortF s = s at *
    refine wp_lt (wp_lt (wp_lt ?_))
    obtain ⟨x, e, hx, hxe⟩ : ∃ x e, keyV a k = [.string x, .int .i64 e] ∧ (e = 0 → ∃ m : Nat, a = m ∧ m ≤ 1099511627776 ∧ k.size ≤ 1011 ∧ x = keyB m k) := by
      rcases keyV_cases a k with ⟨m, h1, h2, h3, h4⟩ | ⟨n, h1, h2⟩
      · exact ⟨_, _, h4, fun _ => ⟨m, h1, h2, h3, rfl⟩⟩
      · exact ⟨_, _, h2, fun h => absurd h h1⟩
    obtain ⟨y, f, hy, hyf⟩ : ∃ x e, keyV b l' = [.string x, .int .i64 e] ∧ (e = 0 → ∃ m : Nat, b = m ∧ m ≤ 1099511627776 ∧ l'.size ≤ 1011 ∧ x = keyB m l') := by
      rcases keyV_cases b l' with ⟨m, h1, h2, h3, h4⟩ | ⟨n, h1, h2⟩
      · exact ⟨_, _, h4, fun _ => ⟨m, h1, h2, h3, rfl⟩⟩
      · exact ⟨_, _, h2, fun h => absurd h h1⟩
    refine wp_call (key_c' a k hs) fun vs w' h => ?_
    obtain ⟨rfl, hs⟩ := h
    rw [hx]
    refine ret_of ?_
    refine wp_lt (wp_lt ?_)
    refine wp_call (key_c' b l' hs) fun vs w' h => ?_
    obtain ⟨rfl, hs⟩ := h
    rw [hy]
    refine ret_of ?_
    refine wp_lt (wp_lt ?_)
    refine wp_call (rkey_c a k hs) fun vs w' h => ?_
    obtain ⟨rfl, hs⟩ := h
    rw [hx]
    refine ret_of ?_
    refine wp_lt (wp_lt ?_)
    refine wp_ifF ?_ (fun h => h.elim (fun h => h rfl) fun h => h rfl)
    obtain ⟨n, t, g, hp⟩ := parseV_cases (parseF s)
    refine wp_call (parse_c s hs) fun vs w' h => ?_
    obtain ⟨rfl, hs⟩ := h
    rw [hp]
    refine ret_of ?_
    refine wp_lt (wp_lt (wp_lt ?_))
    refine wp_call (rparse_c s (by omega) hs) fun vs w' h => ?_
    obtain ⟨rfl, hs⟩ := h
    rw [hp]
    refine ret_of ?_
    refine wp_lt (wp_lt (wp_lt ?_))
    refine wp_ifF ?_ (fun h => h.elim (fun h => h.elim (fun h => h rfl) fun h => h rfl) fun h => h rfl)
    refine wp_mid (fun _ w' => Sat w' l) ?_ ?_
    · refine wp_if (fun he => ?_) fun he => ?_
      · obtain ⟨m, rfl, hm, hk, rfl⟩ := hxe he
        refine wp_call (parse_c _ hs) fun vs w' h => ?_
        obtain ⟨rfl, hs⟩ := h
        rw [parse_key hm hk]
        refine ret_of (vs := [.int .i64 m, .string k, .int .i64 0]) ?_
        refine wp_lt (wp_lt (wp_lt ?_))
        refine wp_ifF ?_ (fun h => h.elim (fun h => h.elim (fun h => h rfl) fun h => h rfl) fun h => h rfl)
        exact wp_lv hs
      · exact wp_lv hs
    clear hs
    rintro _ w hs
    refine wp_on ?_
    refine wp_ifF ?_ ?_
    · obtain ⟨m, hm, hlt, hless⟩ := clampT_nat at_
      refine wp_lt ?_
      refine wp_mid (fun v w' => v = ((if at_ < 0 then 0 else at_), ()) ∧ Sat w' l) ?_ ?_
      · refine wp_if (fun h => ?_) fun h => ?_
        · exact wp_lv ⟨by rw [if_pos h], hs⟩
        · exact wp_lv ⟨by rw [if_neg h], hs⟩
      rintro _ w' ⟨rfl, hs⟩
      refine wp_on ?_
      refine wp_mid (fun v w' => v = ((m : Int), ()) ∧ Sat w' l) ?_ ?_
      · refine wp_if (fun h => ?_) fun h => ?_
        · exact wp_lv ⟨by rw [← hm, clampT_two, if_pos h], hs⟩
        · exact wp_lv ⟨by rw [← hm, clampT_two, if_neg h], hs⟩
      rintro _ w' ⟨rfl, hs⟩
      refine wp_on ?_
      refine wp_callS ((ByteArray.mk #[119]) ++ hexB (clampT at_).toNat, ()) (bound_c at_ hs) rfl fun w' hs => ⟨trivial, wp_on ?_⟩
      rw [hm, Int.toNat_natCast]
      refine wp_callS (hexB m, ()) (rhex_c m hlt hs) rfl fun w' hs => ⟨trivial, wp_on ?_⟩
      have hl := hexB_size m
      refine wp_mu ?_
      refine wp_ifF ?_ (fun h => h rfl)
      refine wp_mid (fun v w' => v = (true, ()) ∧ Sat w' l) ?_ (by rintro _ w' ⟨rfl, hs⟩; refine wp_on ?_; exact ⟨rfl, rfl, hs⟩)
      refine wp_if (fun h => ?_) fun h => ?_
      · refine wp_callS (true, ()) (awake _ _ hs) rfl fun w' hs => ⟨trivial, wp_on (wp_lt ?_)⟩
        exact wp_lv ⟨rfl, hs⟩
      · obtain ⟨q, rfl, hq, hk, rfl⟩ := hxe (Decidable.not_not.1 h)
        refine wp_callS ((ByteArray.mk #[119]) ++ hexB (clampT at_).toNat, ()) (bound_c at_ hs) rfl fun w' hs => ⟨trivial, wp_on ?_⟩
        rw [hm, Int.toNat_natCast, less_bound hq hlt]
        refine wp_ite_t ?_ ?_
        · rw [beq_iff_eq, decide_eq_decide]; exact hless q hq
        refine wp_callS (true, ()) (awake _ _ hs) rfl fun w' hs => ⟨trivial, wp_on (wp_lt ?_)⟩
        exact wp_lv ⟨rfl, hs⟩
    · rintro ⟨⟨h1, h2⟩, h3⟩
      obtain ⟨m, rfl, hm, hk, rfl⟩ := hxe h1
      obtain ⟨q, rfl, hq, hk2, rfl⟩ := hyf h2
      exact h3 (less_keys hm hq k l')

end
end Go.Dec
