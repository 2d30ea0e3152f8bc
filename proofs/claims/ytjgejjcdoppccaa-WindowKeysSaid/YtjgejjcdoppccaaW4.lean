/- Windows: slices of spans: reversed; compared. -/
import Derived.Test.YtjgejjcdoppccaaW2
import Derived.Test.YtjgejjcdoppccaaOpsE
namespace Go.Dec
set_option linter.unusedVariables false
set_option linter.unusedSimpArgs false

def encS (x : Int × Int) : List Value := [.int .i64 x.1, .int .i64 x.2]
theorem encS_len (x : Int × Int) : (encS x).length = 2 := rfl
theorem encS_one (x : Int × Int) : ∀ u ∈ encS x, u.oneCell' = true := by simp [encS, Value.oneCell']
abbrev spans (x : Sl) (xs : List (Int × Int)) : HP := slc T.window_Span 2 x (xs.flatMap encS)

section
variable {w : World} {l r : List HP}

theorem slc_len {T : TypeId} {sz : Nat} {x : Sl} {α : Type} {enc : α → List Value} {xs : List α} (henc : ∀ x, (enc x).length = sz) (hsz : 0 < sz) (hs : Sat w (slc T sz x (xs.flatMap enc) :: l)) : x.len = xs.length := hs.rd.len henc hsz

/-- Half turned. -/
def turned (xs ys : List (Int × Int)) (i j : Int) : Prop := ys.length = xs.length ∧ ∀ k : Nat, k < xs.length → ys[k]? = if (k : Int) < i ∨ j < k then xs[xs.length - 1 - k]? else xs[k]?

theorem turned_step {xs ys : List (Int × Int)} {ni nj : Nat} {yi yj : Int × Int} (ht : turned xs ys ni nj) (hlt : (ni : Int) < nj) (hsum : (ni : Int) + nj = xs.length - 1) (hbi : ni < ys.length) (hbj : nj < ys.length) (hi : yi = ys[ni]) (hj : yj = ys[nj]) :
    turned xs ((ys.set ni yj).set nj yi) (ni + 1) (nj - 1) := by
  obtain ⟨hl, h⟩ := ht
  refine ⟨by simp [hl], fun k hk => ?_⟩
  have h1 := h ni (by omega)
  have h2 := h nj (by omega)
  rw [if_neg (by omega), List.getElem?_eq_getElem hbi, ← hi] at h1
  rw [if_neg (by omega), List.getElem?_eq_getElem hbj, ← hj] at h2
  rw [List.getElem?_set, List.getElem?_set]
  by_cases k1 : nj = k
  · subst k1
    rw [if_pos rfl, if_pos (by simp; omega), if_pos (by omega), show xs.length - 1 - nj = ni by omega]; exact h1
  · rw [if_neg k1]
    by_cases k2 : ni = k
    · subst k2
      rw [if_pos rfl, if_pos (by omega), if_pos (by omega), show xs.length - 1 - ni = nj by omega]; exact h2
    · rw [if_neg k2, h k hk]
      by_cases k3 : (k : Int) < ni ∨ (nj : Int) < k
      · rw [if_pos k3, if_pos (by omega)]
      · rw [if_neg k3, if_neg (by omega)]

theorem turned_end {xs ys : List (Int × Int)} {i j : Int} (ht : turned xs ys i j) (h0 : 0 ≤ i) (hge : j ≤ i) (hsum : i + j = xs.length - 1) : ys = xs.reverse := by
  obtain ⟨hl, h⟩ := ht
  apply List.ext_getElem?
  intro k
  by_cases hk : k < xs.length
  · rw [h k hk, List.getElem?_reverse hk]
    by_cases k1 : (k : Int) < i ∨ j < k
    · rw [if_pos k1]
    · rw [if_neg k1, show xs.length - 1 - k = k by omega]
  · rw [List.getElem?_eq_none (by omega), List.getElem?_eq_none (by simp; omega)]

theorem reverse_c (x : Sl) (xs : List (Int × Int)) (hlen : xs.length < 9223372036854775807) (hs : Sat w (spans x xs :: l)) : Ret P F.slices_Reverse_s_window_Span_window_Span #[x.v] w fun vs w' => vs = [] ∧ Sat w' (spans x xs.reverse :: l) :=
  slices_Reverse_s_window_Span_window_Span_calls x <| by
    have hl := slc_len encS_len (by decide) hs
    unfold slices_Reverse_s_window_Span_window_Span
    refine wp_lt ?_
    rw [hl, w64 (by omega) (by omega)]
    refine wp_mid (fun _ w' => Sat w' (spans x xs.reverse :: l)) ?_ fun _ w' hs => ⟨rfl, rfl, hs⟩
    refine wp_loop (fun n v w => ∃ i j : Int, v = (i, j, ()) ∧ 0 ≤ i ∧ i + j = xs.length - 1 ∧ (j - i + 1).toNat ≤ n ∧ ∃ ys, turned xs ys i j ∧ Sat w (spans x ys :: l)) (xs.length + 1) ?_ ?_
    · refine ⟨0, _, rfl, by omega, by omega, by omega, xs, ⟨rfl, fun k hk => ?_⟩, hs⟩
      rw [if_neg (by omega)]
    · rintro n _ w ⟨i, j, rfl, h0, hsum, hn, ys, ht, hs⟩
      refine wp_ite (fun hlt => ?_) fun hge => ?_
      · have hlt : i < j := by simpa using hlt
        obtain ⟨a, ha, hel⟩ := hs.rd.el encS_len (by rw [hl]; omega)
        obtain ⟨ni, rfl⟩ : ∃ ni : Nat, i = ni := ⟨i.toNat, by omega⟩
        obtain ⟨nj, rfl⟩ : ∃ nj : Nat, j = nj := ⟨j.toNat, by omega⟩
        have hyl := ht.1
        refine wp_mid (fun _ w' => ∃ zs, turned xs zs (ni + 1) (nj - 1) ∧ Sat w' (spans x zs :: l)) ?_ ?_
        · refine wp_tick fun w2 hw => ?_
          have hs := hs.heap hw
          obtain ⟨a', ha', hel⟩ := hs.rd.el encS_len (by rw [hl]; omega)
          rw [ha] at ha'
          obtain rfl := Option.some.inj ha'
          have hbi : ni < ys.length := by omega
          have hbj : nj < ys.length := by omega
          have hi := hel ni hbi
          have hj := hel nj hbj
          obtain ⟨⟨i0, i1⟩, hyi⟩ : ∃ y, y = ys[ni] := ⟨_, rfl⟩
          obtain ⟨⟨j0, j1⟩, hyj⟩ : ∃ y, y = ys[nj] := ⟨_, rfl⟩
          rw [← hyi] at hi
          rw [← hyj] at hj
          refine wp_ex (a, ()) ⟨by dsimp only; omega, by dsimp only; omega, ha⟩ ?_
          refine wp_rdA (ps := [.int .i64, .int .i64]) (j0, j1, ()) (At.ldA hj rfl) ?_
          refine wp_ex (a, ()) ⟨by dsimp only; omega, by dsimp only; omega, ha⟩ ?_
          refine wp_rdA (ps := [.int .i64, .int .i64]) (i0, i1, ()) (At.ldA hi rfl) ?_
          refine wp_ex (a, ()) ⟨by dsimp only; omega, by dsimp only; omega, ha⟩ ?_
          refine wp_stE (i := ni) (y := (j0, j1)) encS_len hs ha hbi (fun b o h => by subst h; exact add_mk ..) rfl rfl (encS_one _) fun w' hs => ⟨trivial, ?_⟩
          refine wp_ex (a, ()) ⟨by dsimp only; omega, by dsimp only; omega, ha⟩ ?_
          refine wp_stE (i := nj) (y := (i0, i1)) encS_len hs ha (by simp; omega) (fun b o h => by subst h; exact add_mk ..) rfl rfl (encS_one _) fun w' hs => ⟨trivial, ?_⟩
          refine wp_untick (wp_leave ⟨(), rfl, _, ?_, hs⟩)
          exact turned_step ht hlt hsum hbi hbj (by rw [hyi]) (by rw [hyj])
        · rintro _ w' ⟨zs, ht', hs⟩
          refine wp_lw (y := (ni : Int) + 1) (w64 (by dsimp only; omega) (by dsimp only; omega)) ?_
          refine wp_lw (y := (nj : Int) - 1) (w64 (by dsimp only; omega) (by dsimp only; omega)) ?_
          exact wp_leave ⟨((ni : Int) + 1, (nj : Int) - 1, ()), (((nj : Int) - 1) - ((ni : Int) + 1) + 1).toNat, by omega, rfl, _, _, rfl, by omega, by omega, Nat.le_refl _, zs, ht', hs⟩
      · have hge : j ≤ i := by simpa using hge
        refine wp_pass ?_
        refine wp_leave ?_
        refine ⟨(), rfl, ?_⟩
        rw [turned_end ht h0 hge hsum] at hs
        exact hs

end
end Go.Dec
