/- Disks: DiskKeeps. -/
import Derived.Test.YtnfaklmndojeaaaE7
namespace Go.Dec
set_option linter.unusedVariables false
set_option linter.unusedSimpArgs false

/-- At most twenty picks. -/
def cut20 (x : Sl) : Sl := if x.len > 20 then ⟨x.a, 20, x.cap⟩ else x

section
variable {P : Program} {w : World} {l r r1 : List HP} {d q : Nat} {A A' : DiskA} {e : Int}

theorem cut20_rd {x : Sl} {zs : List Int} [hR : FocR l x 1 (zs.flatMap encI)] (hs : Sat w l) : FocR l (cut20 x) 1 ((zs.take 20).flatMap encI) := by
  have hl := hs.slen x (xs := zs) (enc := encI)
  unfold cut20
  by_cases h : x.len > 20
  · rw [if_pos h]
    exact FocR.pre (by omega)
  · rw [if_neg h, List.take_of_length_le (by omega)]
    exact hR
theorem wp_cut20 {Q : Post} {S : World → Prop} {e : Nat} {k : Sl → Prog} (x : Sl) (hcap : x.len ≤ x.cap) (h : (k (cut20 x)).wp P S w Q) :
    (Prog.bind e [.one .slc] (.ite (decide (((x.len : Nat) : Int) > 20)) (.must ((0 : Int) ≤ 20 ∧ 20 ≤ ((x.cap : Nat) : Int)) <| .done e [.slice x.a 20 x.cap]) (.done e [x.v])) (u1 k)).wp P S w Q := by
  refine wp_bind ?_
  refine wp_if (fun h1 => ?_) fun h1 => ?_
  · refine wp_must (by omega) ?_
    have e1 : cut20 x = ⟨x.a, 20, x.cap⟩ := by unfold cut20; rw [if_pos (by omega)]
    rw [e1] at h
    exact wp_go h
  · have e1 : cut20 x = x := by unfold cut20; rw [if_neg (by omega)]
    rw [e1] at h
    exact wp_go h
end

section
variable {w : World} {l r r1 : List HP} {d q : Nat} {A A' : DiskA} {e : Int}

theorem file_at (hok : okA A) {i : Nat} (hi : i < A.fs.length) {f : FileA} (hf : f ∈ A.fs) (hn : f.name = A.fs[i].name) : f = A.fs[i] := by
  have h1 := find_name (names_nodup hok.sorted) hf hn
  have h2 := find_name (names_nodup hok.sorted) (List.getElem_mem hi) rfl
  rw [h1] at h2; exact Option.some.inj h2

/-- Read, of a file that is there. -/
theorem read_at (hok : okA A) {i : Nat} (hi : i < A.fs.length) (n : ByteArray) (hn : A.fs[i].name = n) [hf : Fo l dk d A r] (hs : Sat w l) : Ret P F.disk_Disk_Read #[.pointer (some ⟨d, 0, none⟩), .string n] w fun vs w' =>
    ∃ z : Sl, vs = [z.v, .int .i64 0] ∧ Sat w' (slc T.uint8 1 z (A.fs[i].b.flatMap encU) :: dk d A :: r) := by
  subst hn
  refine Calls.mono (read_c _ hs) fun e w' ⟨vs, he, h⟩ => ⟨vs, he, ?_⟩
  rcases h with ⟨g, hg, hgn, h⟩ | ⟨h, -⟩
  · rw [file_at hok hi hg hgn] at h; exact h
  · exact absurd rfl (h _ (List.getElem_mem hi))
theorem kept_at (hok : okA A) {i : Nat} (hi : i < A.fs.length) (n : ByteArray) (hn : A.fs[i].name = n) [hf : Fo l dk d A r] (hs : Sat w l) : Ret P F.disk_Disk_Kept #[.pointer (some ⟨d, 0, none⟩), .string n] w fun vs w' => vs = [.int .i64 (A.fs[i].kept : Nat)] ∧ Sat w' (dk d A :: r) := by
  subst hn
  have h := kept_c (hf := hf) A.fs[i].name hs
  unfold sizeF at h
  rw [find_name (names_nodup hok.sorted) (List.getElem_mem hi) rfl] at h
  exact h

theorem crash_len (A : DiskA) (ps : List Int) : (crashA A ps).fs.length = A.fs.length := by show (A.fs.mapIdx _).length = _; rw [List.length_mapIdx]
theorem crash_get (A : DiskA) (ps : List Int) {i : Nat} (hi : i < A.fs.length) (h2 : i < (crashA A ps).fs.length) : (crashA A ps).fs[i] = crashF ps A.fs[i] i := by
  exact List.getElem_mapIdx (l := A.fs) (f := fun i f => crashF ps f i) (i := i) (h := h2)

theorem sync_nil_fs (A : DiskA) (h : (syncA A []).1 = 0) : (syncA A []).2.fs = A.fs.map (syncF []) := by
  unfold syncA at h ⊢
  split at h
  · cases h
  · rename_i hg
    rw [if_neg hg]
    rw [if_neg (by simp)]
    exact doneA_fs _

theorem keeps_law (room : Int) (x : Sl) (ops : List OpM) (px : Sl) (zs : List Int) [hx : FocR l x 6 (ops.flatMap encOp)] [hp : FocR l px 1 (zs.flatMap encI)] (hlen : ops.length ≤ 9223372036854775807) (hops : ∀ o ∈ ops, OpIn l o) (hcap : px.len ≤ px.cap) (hs : Sat w l) :
    Ret P F.towpathlaw04_DiskKeeps #[.int .i64 room, x.v, px.v] w fun vs w' => vs = [.bool true] ∧ Sat w' l :=
  towpathlaw04_DiskKeeps_calls room x px <| by
    unfold towpathlaw04_DiskKeeps
    have hR := cut20_rd (x := px) (zs := zs) hs
    refine wp_call (play_c room x ops 40 hlen hops hs) fun _ _ hs => ?_
    obtain ⟨d, q, A, rfl, hs⟩ := hs
    refine ret_of ?_
    refine wp_lt ?_
    refine wp_ifF ?_ (by simp)
    refine wp_cut20 px hcap ?_
    have hok := ok_of hs
    have hs : Sat _ (dk d A :: l) := hs.sub
    have htl : (zs.take 20).length ≤ 1000000 := by rw [List.length_take]; omega
    refine wp_call (crash_c (d := d) (cut20 px) (zs.take 20) htl hs) fun _ _ hs => ?_
    obtain ⟨c, rfl, hs⟩ := hs
    refine ret_of ?_
    generalize zs.take 20 = ps at *
    have hokc := okA_crash hok ps
    refine wp_call (names_c (d := d) (ByteArray.mk #[]) hs) fun _ _ hs => ?_
    obtain ⟨nx, rfl, hs⟩ := hs
    refine ret_of ?_
    rw [namesF_all] at hs
    have hnl := hs.slen nx (xs := A.fs.map fun f : FileA => f.name) (enc := encT)
    rw [List.length_map] at hnl
    have hmany := hok.many
    refine wp_mid (fun v w' => v = (false, ()) ∧ Sat w' (dk c (crashA A ps) :: slc T.string 1 nx ((A.fs.map (·.name)).flatMap encT) :: dk d A :: l)) ?_ ?_
    · refine wp_ifF ?_ (by simp)
      refine wp_call (names_c (d := c) (ByteArray.mk #[]) hs) fun _ _ hs => ?_
      obtain ⟨ny, rfl, hs⟩ := hs
      refine ret_of ?_
      rw [namesF_all] at hs
      have hyl := hs.slen ny (xs := (crashA A ps).fs.map fun f : FileA => f.name) (enc := encT)
      rw [List.length_map, crash_len] at hyl
      refine wp_ifF ?_ (by omega)
      refine wp_call (gone_c (d := c) hs) fun _ _ hs => ?_
      obtain ⟨rfl, hs⟩ := hs
      refine ret_of ?_
      exact wp_lv ⟨rfl, hs.sub⟩
    clear hs
    rintro _ w ⟨rfl, hs⟩
    refine wp_on ?_
    refine wp_ifF ?_ (by simp)
    refine wp_mid (fun v w' => Sat w' (slc T.string 1 nx ((A.fs.map (·.name)).flatMap encT) :: dk d A :: l)) ?_ ?_
    · refine wp_loop (fun k v w => ∃ i : Nat, v = ((i : Int), ()) ∧ i ≤ A.fs.length ∧ A.fs.length - i = k ∧ Sat w (dk c (crashA A ps) :: slc T.string 1 nx ((A.fs.map (·.name)).flatMap encT) :: dk d A :: l)) A.fs.length ⟨0, rfl, by omega, rfl, hs⟩ ?_
      clear hs
      rintro k _ w ⟨i, rfl, hi, hk, hs⟩
      refine wp_on ?_
      refine wp_if (fun hc => ?_) fun hc => ?_
      rotate_left
      · exact wp_pass (wp_lv hs.tail)
      have hil : i < A.fs.length := by omega
      have hil2 : i < (crashA A ps).fs.length := by rw [crash_len]; exact hil
      have hget := crash_get A ps hil hil2
      refine wp_ix1 hs i (by rw [List.length_map]; exact hil) ?_
      rw [List.getElem_map]
      refine wp_lt ?_
      refine wp_call (read_at (d := d) hok hil A.fs[i].name rfl hs) fun _ _ hs => ?_
      obtain ⟨z1, rfl, hs⟩ := hs
      refine ret_of ?_
      refine wp_lt ?_
      have hz1 := hs.slen z1 (xs := A.fs[i].b) (enc := encU)
      have hc1 := (hs.focS z1).slc_cap
      refine wp_call (read_at (d := c) (A := crashA A ps) hokc hil2 A.fs[i].name (by rw [hget]; rfl) hs) fun _ _ hs => ?_
      obtain ⟨z2, rfl, hs⟩ := hs
      refine ret_of ?_
      refine wp_lt ?_
      rw [hget] at hs
      have hz2 := hs.slen z2 (xs := (crashF ps A.fs[i] i).b) (enc := encU)
      have hkept := hok.kept _ (List.getElem_mem hil)
      have hla := lastN_le hkept (pickN ps i)
      have hlo : A.fs[i].kept ≤ lastN A.fs[i] (pickN ps i) := by unfold lastN; omega
      have hb : (crashF ps A.fs[i] i).b = A.fs[i].b.take (lastN A.fs[i] (pickN ps i)) := rfl
      have hkc : (crashF ps A.fs[i] i).kept = lastN A.fs[i] (pickN ps i) := rfl
      rw [hb] at hs hz2
      rw [List.length_take, Nat.min_eq_left hla] at hz2
      generalize lastN A.fs[i] (pickN ps i) = la at *
      have hcapz : z2.len ≤ z1.cap := by omega
      refine wp_mid (fun v w' => v = (false, ()) ∧ Sat w' (dk c (crashA A ps) :: slc T.string 1 nx ((A.fs.map (·.name)).flatMap encT) :: dk d A :: l)) ?_ ?_
      · refine wp_tk hs fun w' hs => ?_
        refine wp_must (fun _ => ⟨Int.natCast_nonneg _, by exact_mod_cast hcapz⟩) ?_
        have hRz : FocR (slc T.uint8 1 z2 ((A.fs[i].b.take la).flatMap encU) :: dk c (crashA A ps) :: slc T.uint8 1 z1 (A.fs[i].b.flatMap encU) :: dk d A :: slc T.string 1 nx ((A.fs.map (·.name)).flatMap encT) :: l) ⟨z1.a, z2.len, z1.cap⟩ 1 ((A.fs[i].b.take la).flatMap encU) := by
          rw [hz2]
          exact FocR.pre hla
        have hs : Sat w' (slc T.uint8 1 z2 ((A.fs[i].b.take la).flatMap encU) :: dk c (crashA A ps) :: slc T.uint8 1 z1 (A.fs[i].b.flatMap encU) :: dk d A :: slc T.string 1 nx ((A.fs.map (·.name)).flatMap encT) :: l) := hs.sub
        rw [Int.toNat_natCast]
        refine wp_ofB (x := ⟨z1.a, z2.len, z1.cap⟩) hs (bs := A.fs[i].b.take la) ?_
        refine wp_ofB hs (bs := A.fs[i].b.take la) ?_
        refine wp_ifF ?_ (fun h => h.elim (fun h => h.elim (fun h => h rfl) fun h => absurd (show ((z2.len : Nat) : Int) > ((z1.len : Nat) : Int) from h) (by omega)) fun h => h rfl)
        refine wp_call (kept_at (d := d) hok hil A.fs[i].name rfl hs) fun _ _ hs => ?_
        obtain ⟨rfl, hs⟩ := hs
        refine ret_of ?_
        refine wp_ifF ?_ (fun h => absurd (show ((z2.len : Nat) : Int) < ((A.fs[i].kept : Nat) : Int) from h) (by omega))
        refine wp_call (kept_at (d := c) (A := crashA A ps) hokc hil2 A.fs[i].name (by rw [hget]; rfl) hs) fun _ _ hs => ?_
        obtain ⟨rfl, hs⟩ := hs
        refine ret_of ?_
        rw [hget, hkc]
        refine wp_untick ?_
        refine wp_lv ⟨?_, hs.sub⟩
        have : (((la : Nat) : Int) != ((z2.len : Nat) : Int)) = false := by rw [bne_eq_false_iff_eq]; omega
        rw [this]
      clear hs
      rintro _ w ⟨rfl, hs⟩
      refine wp_on ?_
      refine wp_ifF ?_ (by simp)
      refine wp_dn (us' := [.int .i64 ((i + 1 : Nat) : Int)]) (by (try simp (disch := omega) only [w64]); first | rfl | (congr; omega)) ?_
      refine wp_lp (A.fs.length - (i + 1)) ?_
      exact ⟨i + 1, rfl, by omega, rfl, hs⟩
    clear hs
    rintro _ w hs
    refine wp_on ?_
    refine wp_call (sync_c (d := d) ⟨none, 0, 0⟩ [] (by simp) hs) fun _ _ hs => ?_
    obtain ⟨rfl, hs⟩ := hs
    refine ret_of ?_
    have hok2 := ok_of hs
    refine wp_mid (fun v w' => Sat w' l) ?_ ?_
    rotate_left
    · rintro _ w' hs
      refine wp_on ?_
      refine wp_call (awake_c hs) fun _ _ hs => ?_
      obtain ⟨rfl, hs⟩ := hs
      refine ret_of ?_
      refine wp_lt ?_
      exact ⟨rfl, rfl, hs⟩
    refine wp_if (fun h0 => ?_) fun h0 => ?_
    rotate_left
    · exact wp_lv hs.tail.tail
    have hfs := sync_nil_fs A h0
    generalize (syncA A []).2 = B at *
    have hlB : B.fs.length = A.fs.length := by rw [hfs, List.length_map]
    refine wp_mid (fun v w' => Sat w' l) ?_ (by rintro _ w' hs; refine wp_on ?_; exact wp_lv hs)
    refine wp_loop (fun k v w => ∃ i : Nat, v = ((i : Int), ()) ∧ i ≤ A.fs.length ∧ A.fs.length - i = k ∧ Sat w (dk d B :: slc T.string 1 nx ((A.fs.map (·.name)).flatMap encT) :: l)) A.fs.length ⟨0, rfl, by omega, rfl, hs⟩ ?_
    clear hs
    rintro k _ w ⟨i, rfl, hi, hk, hs⟩
    refine wp_on ?_
    refine wp_if (fun hc => ?_) fun hc => ?_
    rotate_left
    · exact wp_pass (wp_lv hs.tail.tail)
    have hil : i < A.fs.length := by omega
    have hilB : i < B.fs.length := by omega
    have hBi : B.fs[i] = { A.fs[i] with kept := A.fs[i].b.length } := by
      simp only [hfs, List.getElem_map]
      unfold syncF
      rw [if_pos (show asked [] A.fs[i].name = true from rfl)]
    refine wp_ix1 hs i (by rw [List.length_map]; exact hil) ?_
    rw [List.getElem_map]
    refine wp_lt ?_
    refine wp_call (read_at (d := d) (A := B) hok2 hilB A.fs[i].name (by rw [hBi]) hs) fun _ _ hs => ?_
    obtain ⟨z1, rfl, hs⟩ := hs
    refine ret_of ?_
    refine wp_lt ?_
    refine wp_call (crash_c (d := d) (A := B) ⟨none, 0, 0⟩ [] (by simp) hs) fun _ _ hs => ?_
    obtain ⟨c3, rfl, hs⟩ := hs
    refine ret_of ?_
    have hil3 : i < (crashA B []).fs.length := by rw [crash_len]; exact hilB
    have hget3 := crash_get B [] hilB hil3
    have hb3 : (crashF [] B.fs[i] i).b = A.fs[i].b := by
      rw [hBi]
      show A.fs[i].b.take _ = _
      apply List.take_of_length_le
      unfold lastN
      simp
    refine wp_call (read_at (d := c3) (A := crashA B []) (okA_crash hok2 []) hil3 A.fs[i].name (by rw [hget3, hBi]; rfl) hs) fun _ _ hs => ?_
    obtain ⟨z2, rfl, hs⟩ := hs
    refine ret_of ?_
    refine wp_lt ?_
    rw [hget3, hb3, hBi] at hs
    refine wp_ofB hs (bs := A.fs[i].b) ?_
    refine wp_ofB hs (bs := A.fs[i].b) ?_
    refine wp_ifF ?_ (by simp)
    refine wp_dn (us' := [.int .i64 ((i + 1 : Nat) : Int)]) (by (try simp (disch := omega) only [w64]); first | rfl | (congr; omega)) ?_
    refine wp_lp (A.fs.length - (i + 1)) ?_
    exact ⟨i + 1, rfl, by omega, rfl, hs.sub⟩

end
end Go.Dec
