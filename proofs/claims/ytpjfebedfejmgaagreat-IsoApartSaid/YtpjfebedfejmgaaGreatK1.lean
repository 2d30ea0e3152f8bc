/- Isolation: keys that are pairs of numbers. -/
import Derived.WideKeyRuns
import Derived.DeepKeys3
import Derived.Test.YtpjfebedfejmgaaGreatOpsZ
import Derived.Test.YtpjfebedfejmgaaGreatTypes
namespace Go.Dec
set_option linter.unusedVariables false
set_option linter.unusedSimpArgs false

abbrev ekK (k : Int × Int) : Value := .agg #[.int .i64 k.1, .int .i64 k.2]

theorem eq_keys (a b : Int × Int) (w : World) : (Op.equal T.iso_key (ekK a) (ekK b)).run P w = .ok (a.1 == b.1 && a.2 == b.2) w :=
  eqV_ok 10000 (t := T.iso_key) (x := ekK a) (y := ekK b) (by kernel_rfl) w
theorem check_int {P : Program} {t : TypeId} {q k : IntKind} (hu : P.underlying t = some (.int q)) (e : Bool) (n : Nat) (v : Int) (w : World) : (Instr.checkKey e (n + 1) t (.int k v)).run P w = .ok () w := by
  simp [Instr.checkKey, run_underlying hu]
theorem check_pair {P : Program} {t : TypeId} {f0 f1 : Field} {q0 q1 k0 k1 : IntKind} (hu : P.underlying t = some (.struct #[f0, f1])) (h0 : P.underlying f0.type = some (.int q0)) (h1 : P.underlying f1.type = some (.int q1)) (o0 : f0.offset = 0) (o1 : f1.offset = 1)
    (n0 : ¬ f0.name = "_") (n1 : ¬ f1.name = "_") (e : Bool) (n : Nat) (a b : Int) (w : World) : (Instr.checkKey e (n + 2) t (.agg #[.int k0 a, .int k1 b])).run P w = .ok () w := by
  have p0 : (part f0.type #[Value.int k0 a, .int k1 b] f0.offset).run P w = .ok (.int k0 a) w := run_part_plain w (by simp [Program.plainKey, h0]) (by rw [o0]; rfl)
  have p1 : (part f1.type #[Value.int k0 a, .int k1 b] f1.offset).run P w = .ok (.int k1 b) w := run_part_plain w (by simp [Program.plainKey, h1]) (by rw [o1]; rfl)
  have c0 := check_int (k := k0) h0 e n a w
  have c1 := check_int (k := k1) h1 e n b w
  rw [show n + 2 = (n + 1) + 1 from rfl, Instr.checkKey]
  simp only [Sem.run_bind, run_underlying hu, Result.andThen_ok]
  rw [← Array.forIn_toList]
  simp only [List.forIn_cons, List.forIn_nil, Sem.run_bind, n0, n1, ne_eq, not_false_eq_true, if_true, Result.andThen_ok, p0, p1, c0, c1, Sem.run_pure]
theorem check_key (e : Bool) (k : Int × Int) (w : World) : (Instr.checkKey e 10000 T.iso_key (ekK k)).run P w = .ok () w :=
  check_pair (P := P) (q0 := .i64) (q1 := .i64) Go.Proofs.Tryz.underlying55 (by kernel_rfl) (by kernel_rfl) rfl rfl (by decide) (by decide) e 9998 k.1 k.2 w

theorem find_keys (k : Int × Int) (w : World) : ∀ (es : List MapEntry) (i : Nat), (∀ e ∈ es, ∃ k', e.key = ekK k') →
    (∃ (j : Nat) (e : MapEntry), es[j]? = some e ∧ e.key = ekK k ∧ (Instr.findAsking T.iso_key (ekK k) es i).run P w = .ok (some (i + j, e.val)) w) ∨
    ((∀ e ∈ es, e.key ≠ ekK k) ∧ (Instr.findAsking T.iso_key (ekK k) es i).run P w = .ok none w)
  | [], i, _ => .inr ⟨by simp, by simp [Instr.findAsking, Sem.run_pure]⟩
  | e :: es, i, h => by
    obtain ⟨k', hk'⟩ := h e (List.mem_cons_self ..)
    have hrun : (Instr.findAsking T.iso_key (ekK k) (e :: es) i).run P w = (if (k.1 == k'.1 && k.2 == k'.2) = true then (pure (some (i, e.val)) : Sem (Option (Nat × Value))) else Instr.findAsking T.iso_key (ekK k) es (i + 1)).run P w := by
      rw [Instr.findAsking]
      simp only [Sem.run_bind, hk', eq_keys, Result.andThen_ok]
    by_cases hk : k = k'
    · subst hk
      refine .inl ⟨0, e, rfl, hk', ?_⟩
      rw [hrun, if_pos (by simp)]; rfl
    · have hne : ¬ (k.1 == k'.1 && k.2 == k'.2) = true := fun h2 => hk (by
        simp only [Bool.and_eq_true, beq_iff_eq] at h2
        exact Prod.ext h2.1 h2.2)
      rcases find_keys k w es (i + 1) (fun e he => h e (List.mem_cons_of_mem _ he)) with ⟨j, e', h1, h2, h3⟩ | ⟨h1, h2⟩
      · exact .inl ⟨j + 1, e', h1, h2, by rw [hrun, if_neg hne, h3, Nat.add_assoc, Nat.add_comm 1 j]⟩
      · refine .inr ⟨fun e' he' => ?_, by rw [hrun, if_neg hne, h2]⟩
        rcases List.mem_cons.1 he' with rfl | he'
        · rw [hk']
          intro h4
          injection h4 with h4
          simp at h4
          exact hk (Prod.ext h4.1.symm h4.2.symm)
        · exact h1 e' he'

instance : KeyT P T.iso_key ekK where
  inj a b h := by
    injection h with h4
    simp at h4
    exact Prod.ext h4.1 h4.2
  same a := by
    show (_ && _) = true
    simp [Instr.sameBits]
  check := check_key
  find es k w h := by
    have e := run_findKey_eq (P := P) w (k := T.iso_key) (by kernel_rfl) (ekK k) es
    rcases find_keys k w es 0 h with ⟨j, e', h1, h2, h3⟩ | ⟨h1, h2⟩
    · exact .inl ⟨j, e', h1, h2, by rw [e, h3, Nat.zero_add]⟩
    · exact .inr ⟨h1, by rw [e, h2]⟩
instance : KeyT P T.int64 ekI := keyT_int (by kernel_rfl)
instance IsK.key {a b : Int} : IsK ekK (.agg #[.int .i64 a, .int .i64 b]) (a, b) := ⟨rfl⟩
instance : MapT P T.m_int64_iso_life T.int64 (.agg #[.int .i64 0, .int .i64 0, .int .i64 0, .int .i64 0]) := ⟨T.iso_life, by kernel_rfl, by kernel_rfl⟩
instance : MapT P T.m_iso_key_iso_life T.iso_key (.agg #[.int .i64 0, .int .i64 0, .int .i64 0, .int .i64 0]) := ⟨T.iso_life, by kernel_rfl, by kernel_rfl⟩

end Go.Dec
