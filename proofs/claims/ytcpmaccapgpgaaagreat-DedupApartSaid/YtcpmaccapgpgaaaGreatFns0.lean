/- Functions of this seat, decompiled by a program of ours; each is held to the code by the kernel. -/
import Derived.Test.YtcpmaccapgpgaaaGreatNames
namespace Go.Dec
set_option linter.unusedVariables false

def dedup_New (most : Int) : Prog :=
.ite (decide (most < 1) || decide (most > 4096)) (
.done 0 [.pointer none, .int .i64 2]) (
.act (Instr.makeMap T.m_int64_dedup_Row none) sM (u1 fun m0 =>
.act (Instr.box T.dedup_Table (.agg #[.int .i64 most, .int .i64 0, .map m0])) sA (u1 fun a1 =>
.done 0 [.pointer (some a1), .int .i64 0])))
theorem dedup_New_eq (most : Int) : decomp P 14 ⟨okFs, []⟩ { cnd := [], blk := [], reg := [], lps := [] } [.tmp 2, .tmp 3] (bodyOf Go.Proofs.Tryz.f6) [.val (.int .i64 most)] = dedup_New most := by kernel_rfl
theorem dedup_New_calls (most : Int) {w : World} {R : List Value → World → Prop} (h : (dedup_New most).wp P (fun _ => True) w fun e vs w' => e = 0 ∧ R vs w') :
    Calls P F.dedup_New #[.int .i64 most] w fun e w' => ∃ vs, e = .returned (pack vs) ∧ R vs w' :=
  decomp_sound (isFn_of Go.Proofs.Tryz.func6 (by kernel_rfl) (by kernel_rfl) (by kernel_rfl)) okFs_ok mix [.val (.int .i64 most)] (by rw [dedup_New_eq]; exact h)

def towpathlaw07_awake  : Prog :=
.call F.dedup_New [.int .i64 5] (.tup [.one .ptr, .one (.int .i64)]) (u2 fun p0 (n1 : Int) =>
.lt (.int .i64) (n1) fun (n2 : Int) =>
.bind 1 [.one .bool] (
.ite (n2 != 0 || Option.isNone p0) (
.done 1 [.bool true]) (
.call F.towpathlaw07_two [.int .i64 0, .int .i64 0, .int .i64 10] (sG [.int .i64, .int .i64, .int .i64, .int .i64, .int .i64, .int .i64, .slc]) (u7 fun (n3 : Int) (n4 : Int) (n5 : Int) (n6 : Int) (n7 : Int) (n8 : Int) l9 =>
.call F.dedup_Table_Take [.pointer p0, .agg #[.int .i64 n3, .int .i64 n4, .int .i64 n5, .int .i64 n6, .int .i64 n7, .int .i64 n8, l9.v]] (sI .i64) (u1 fun (n10 : Int) =>
.done 1 [.bool (n10 != 0)])))) (u1 fun b11 =>
.ite (b11) (
.done 0 [.bool false]) (
.call F.towpathlaw07_two [.int .i64 0, .int .i64 0, .int .i64 0] (sG [.int .i64, .int .i64, .int .i64, .int .i64, .int .i64, .int .i64, .slc]) (u7 fun (n12 : Int) (n13 : Int) (n14 : Int) (n15 : Int) (n16 : Int) (n17 : Int) l18 =>
.call F.dedup_Table_Judge [.pointer p0, .agg #[.int .i64 n12, .int .i64 n13, .int .i64 n14, .int .i64 n15, .int .i64 n16, .int .i64 n17, l18.v]] (.tup [.agg [.bool, .int .i64], .one (.int .i64)]) (u3 fun b19 (n20 : Int) (n21 : Int) =>
.act (new T.dedup_Verdict) sA (u1 fun a22 =>
.actU (st T.dedup_Verdict a22 (.agg #[.bool b19, .int .i64 n20])) <|
.lt (.int .i64) (n21) fun (n23 : Int) =>
.call F.towpathlaw07_two [.int .i64 0, .int .i64 3, .int .i64 0] (sG [.int .i64, .int .i64, .int .i64, .int .i64, .int .i64, .int .i64, .slc]) (u7 fun (n24 : Int) (n25 : Int) (n26 : Int) (n27 : Int) (n28 : Int) (n29 : Int) l30 =>
.call F.dedup_Table_Judge [.pointer p0, .agg #[.int .i64 n24, .int .i64 n25, .int .i64 n26, .int .i64 n27, .int .i64 n28, .int .i64 n29, l30.v]] (.tup [.agg [.bool, .int .i64], .one (.int .i64)]) (u3 fun b31 (n32 : Int) (n33 : Int) =>
.act (new T.dedup_Verdict) sA (u1 fun a34 =>
.actU (st T.dedup_Verdict a34 (.agg #[.bool b31, .int .i64 n32])) <|
.lt (.int .i64) (n33) fun (n35 : Int) =>
.call F.dedup_Table_Stable [.pointer p0] (sI .i64) (u1 fun (n36 : Int) =>
.lt (.int .i64) (n36) fun (n37 : Int) =>
.call F.dedup_Table_Take [.pointer p0, .agg #[.int .i64 12, .int .i64 3, .int .i64 0, .int .i64 0, .int .i64 2, .int .i64 0, .slice none 0 0]] (sI .i64) (u1 fun (n38 : Int) =>
.lt (.int .i64) (n38) fun (n39 : Int) =>
.call F.towpathlaw07_two [.int .i64 0, .int .i64 2, .int .i64 0] (sG [.int .i64, .int .i64, .int .i64, .int .i64, .int .i64, .int .i64, .slc]) (u7 fun (n40 : Int) (n41 : Int) (n42 : Int) (n43 : Int) (n44 : Int) (n45 : Int) l46 =>
.call F.dedup_Table_Judge [.pointer p0, .agg #[.int .i64 n40, .int .i64 n41, .int .i64 n42, .int .i64 n43, .int .i64 n44, .int .i64 n45, l46.v]] (.tup [.agg [.bool, .int .i64], .one (.int .i64)]) (u3 fun b47 (n48 : Int) (n49 : Int) =>
.act (new T.dedup_Verdict) sA (u1 fun a50 =>
.actU (st T.dedup_Verdict a50 (.agg #[.bool b47, .int .i64 n48])) <|
.lt (.int .i64) (n49) fun (n51 : Int) =>
.call F.towpathlaw07_two [.int .i64 1, .int .i64 0, .int .i64 0] (sG [.int .i64, .int .i64, .int .i64, .int .i64, .int .i64, .int .i64, .slc]) (u7 fun (n52 : Int) (n53 : Int) (n54 : Int) (n55 : Int) (n56 : Int) (n57 : Int) l58 =>
.call F.dedup_Table_Judge [.pointer p0, .agg #[.int .i64 n52, .int .i64 n53, .int .i64 n54, .int .i64 n55, .int .i64 n56, .int .i64 n57, l58.v]] (.tup [.agg [.bool, .int .i64], .one (.int .i64)]) (u3 fun b59 (n60 : Int) (n61 : Int) =>
.act (new T.dedup_Verdict) sA (u1 fun a62 =>
.actU (st T.dedup_Verdict a62 (.agg #[.bool b59, .int .i64 n60])) <|
.lt (.int .i64) (n61) fun (n63 : Int) =>
.bind 1 [.one .bool] (
.read ((n23 == 0) = true) (ld T.bool (Addr.add a22 0)) sB (u1 fun b64 =>
.read ((n23 == 0 && b64) = true) (ld T.int64 (Addr.add a22 1)) (sI .i64) (u1 fun (n65 : Int) =>
.ite (n23 == 0 && b64 && n65 == 10 && n35 == 21 && n37 == 10 && n39 == 0) (
.call F.dedup_Table_Stable [.pointer p0] (sI .i64) (u1 fun (n66 : Int) =>
.lt (.bool) (n66 == 13 && n51 == 20 && n63 == 0) fun b67 =>
.done 1 [.bool b67])) (
.done 1 [.bool false])))) (u1 fun b68 =>
.done 0 [.bool b68]))))))))))))))))))
theorem towpathlaw07_awake_eq  : decomp P 94 ⟨okFs, []⟩ { cnd := [], blk := [], reg := [(2, [(28, .one .bool)]), (10, [(0, .one .bool)])], lps := [] } [.tmp 0] (bodyOf Go.Proofs.Tryz.f9) [] = towpathlaw07_awake  := by kernel_rfl
theorem towpathlaw07_awake_calls  {w : World} {R : List Value → World → Prop} (h : (towpathlaw07_awake ).wp P (fun _ => True) w fun e vs w' => e = 0 ∧ R vs w') :
    Calls P F.towpathlaw07_awake #[] w fun e w' => ∃ vs, e = .returned (pack vs) ∧ R vs w' :=
  decomp_sound (isFn_of Go.Proofs.Tryz.func9 (by kernel_rfl) (by kernel_rfl) (by kernel_rfl)) okFs_ok mix [] (by rw [towpathlaw07_awake_eq]; exact h)

def dedup_Table_Rows (t : Option Addr) : Prog :=
.ite (Option.isNone t) (
.done 0 [.slice none 0 0]) (
.ex [.adr] (c1 fun a0 => t = some a0) (u1 fun a1 =>
.read True (ld T.m_int64_dedup_Row (Addr.add a1 2)) sM (u1 fun m2 =>
.call F.maps_Values_map_int64_dedup_Row_int64_dedup_Row [.map m2] sV (u1 fun v3 =>
.call F.slices_Collect_dedup_Row [v3] sL (u1 fun l4 =>
.call F.slices_SortFunc_s_dedup_Row_dedup_Row [l4.v, .func (Fn.func 36) #[] #[]] (.tup []) (u0 <|
.done 0 [l4.v]))))))
theorem dedup_Table_Rows_eq (t : Option Addr) : decomp P 15 ⟨okFs, []⟩ { cnd := [], blk := [], reg := [], lps := [] } [.tmp 2] (bodyOf Go.Proofs.Tryz.f13) [.val (.pointer t)] = dedup_Table_Rows t := by kernel_rfl
theorem dedup_Table_Rows_calls (t : Option Addr) {w : World} {R : List Value → World → Prop} (h : (dedup_Table_Rows t).wp P (fun _ => True) w fun e vs w' => e = 0 ∧ R vs w') :
    Calls P F.dedup_Table_Rows #[.pointer t] w fun e w' => ∃ vs, e = .returned (pack vs) ∧ R vs w' :=
  decomp_sound (isFn_of Go.Proofs.Tryz.func13 (by kernel_rfl) (by kernel_rfl) (by kernel_rfl)) okFs_ok mix [.val (.pointer t)] (by rw [dedup_Table_Rows_eq]; exact h)

def dedup_Table_Open (t : Option Addr) : Prog :=
.call F.dedup_Table_Rows [.pointer t] sL (u1 fun l0 =>
.bind 1 [.one .slc] (
.loop 2 [.one .slc, .one (.int .i64)] (⟨none, 0, 0⟩, (0, ())) (u2 fun l1 (n2 : Int) =>
.ite (decide (n2 < ((l0.len : Nat) : Int))) (
.ex [.adr] (c1 fun a3 => 0 ≤ n2 ∧ n2 < ((l0.len : Nat) : Int) ∧ l0.a = some a3) (u1 fun a4 =>
.read True (ld T.dedup_Row (Addr.add a4 (Int.toNat n2 * 7))) (sG [.int .i64, .int .i64, .int .i64, .int .i64, .int .i64, .int .i64, .int .i64]) (u7 fun (n5 : Int) (n6 : Int) (n7 : Int) (n8 : Int) (n9 : Int) (n10 : Int) (n11 : Int) =>
.act (new T.dedup_Row) sA (u1 fun a12 =>
.actU (st T.dedup_Row a12 (.agg #[.int .i64 n5, .int .i64 n6, .int .i64 n7, .int .i64 n8, .int .i64 n9, .int .i64 n10, .int .i64 n11])) <|
.read True (ld T.dedup_Row a12) (sG [.int .i64, .int .i64, .int .i64, .int .i64, .int .i64, .int .i64, .int .i64]) (u7 fun (n13 : Int) (n14 : Int) (n15 : Int) (n16 : Int) (n17 : Int) (n18 : Int) (n19 : Int) =>
.call F.dedup_Row_open [.agg #[.int .i64 n13, .int .i64 n14, .int .i64 n15, .int .i64 n16, .int .i64 n17, .int .i64 n18, .int .i64 n19]] sB (u1 fun b20 =>
.bind 3 [.one .slc] (
.ite (b20) (
.read True (ld T.dedup_Row a12) (sG [.int .i64, .int .i64, .int .i64, .int .i64, .int .i64, .int .i64, .int .i64]) (u7 fun (n21 : Int) (n22 : Int) (n23 : Int) (n24 : Int) (n25 : Int) (n26 : Int) (n27 : Int) =>
.act (Instr.buildSlice T.s_dedup_Row 1 #[(0, .agg #[.int .i64 n21, .int .i64 n22, .int .i64 n23, .int .i64 n24, .int .i64 n25, .int .i64 n26, .int .i64 n27])]) sL (u1 fun l28 =>
.act (app T.s_dedup_Row T.s_dedup_Row T.s_dedup_Row l1.v l28.v) sL (u1 fun l29 =>
.done 3 [l29.v])))) (
.done 3 [l1.v])) (u1 fun l30 =>
.done 2 [l30.v, .int .i64 (IntKind.wrap .i64 (n2 + 1))]))))))) (
.done 1 [l1.v]))) (u1 fun l31 =>
.call F.slices_SortFunc_s_dedup_Row_dedup_Row [l31.v, .func (Fn.func 39) #[] #[]] (.tup []) (u0 <|
.done 0 [l31.v])))
theorem dedup_Table_Open_eq (t : Option Addr) : decomp P 23 ⟨okFs, []⟩ { cnd := [(2013298702, [(3, .one .slc)])], blk := [(0, [(3, .one .slc)])], reg := [], lps := [(0, [(3, .one .slc), (9, .one (.int .i64))])] } [.tmp 2] (bodyOf Go.Proofs.Tryz.f14) [.val (.pointer t)] = dedup_Table_Open t := by kernel_rfl
theorem dedup_Table_Open_calls (t : Option Addr) {w : World} {R : List Value → World → Prop} (h : (dedup_Table_Open t).wp P (fun _ => True) w fun e vs w' => e = 0 ∧ R vs w') :
    Calls P F.dedup_Table_Open #[.pointer t] w fun e w' => ∃ vs, e = .returned (pack vs) ∧ R vs w' :=
  decomp_sound (isFn_of Go.Proofs.Tryz.func14 (by kernel_rfl) (by kernel_rfl) (by kernel_rfl)) okFs_ok mix [.val (.pointer t)] (by rw [dedup_Table_Open_eq]; exact h)

def dedup_Table_Stable (t : Option Addr) : Prog :=
.call F.dedup_Table_Open [.pointer t] sL (u1 fun l0 =>
.ite (decide (((l0.len : Nat) : Int) > 0)) (
.ex [.adr] (c1 fun a1 => (0 : Int) ≤ 0 ∧ 0 < ((l0.len : Nat) : Int) ∧ l0.a = some a1) (u1 fun a2 =>
.read True (ld T.int64 (Addr.add (Addr.add a2 0) 5)) (sI .i64) (u1 fun (n3 : Int) =>
.lt (.int .i64) (n3) fun (n4 : Int) =>
.done 0 [.int .i64 n4]))) (
.call F.dedup_Table_Next [.pointer t] (sI .i64) (u1 fun (n5 : Int) =>
.lt (.int .i64) (n5) fun (n6 : Int) =>
.done 0 [.int .i64 n6])))
theorem dedup_Table_Stable_eq (t : Option Addr) : decomp P 15 ⟨okFs, []⟩ { cnd := [], blk := [], reg := [], lps := [] } [.tmp 2] (bodyOf Go.Proofs.Tryz.f16) [.val (.pointer t)] = dedup_Table_Stable t := by kernel_rfl
theorem dedup_Table_Stable_calls (t : Option Addr) {w : World} {R : List Value → World → Prop} (h : (dedup_Table_Stable t).wp P (fun _ => True) w fun e vs w' => e = 0 ∧ R vs w') :
    Calls P F.dedup_Table_Stable #[.pointer t] w fun e w' => ∃ vs, e = .returned (pack vs) ∧ R vs w' :=
  decomp_sound (isFn_of Go.Proofs.Tryz.func16 (by kernel_rfl) (by kernel_rfl) (by kernel_rfl)) okFs_ok mix [.val (.pointer t)] (by rw [dedup_Table_Stable_eq]; exact h)

def dedup_Table_Next (t : Option Addr) : Prog :=
.ite (Option.isNone t) (
.done 0 [.int .i64 0]) (
.ex [.adr] (c1 fun a0 => t = some a0) (u1 fun a1 =>
.read True (ld T.int64 (Addr.add a1 1)) (sI .i64) (u1 fun (n2 : Int) =>
.lt (.int .i64) (n2) fun (n3 : Int) =>
.done 0 [.int .i64 n3])))
theorem dedup_Table_Next_eq (t : Option Addr) : decomp P 9 ⟨okFs, []⟩ { cnd := [], blk := [], reg := [], lps := [] } [.tmp 2] (bodyOf Go.Proofs.Tryz.f18) [.val (.pointer t)] = dedup_Table_Next t := by kernel_rfl
theorem dedup_Table_Next_calls (t : Option Addr) {w : World} {R : List Value → World → Prop} (h : (dedup_Table_Next t).wp P (fun _ => True) w fun e vs w' => e = 0 ∧ R vs w') :
    Calls P F.dedup_Table_Next #[.pointer t] w fun e w' => ∃ vs, e = .returned (pack vs) ∧ R vs w' :=
  decomp_sound (isFn_of Go.Proofs.Tryz.func18 (by kernel_rfl) (by kernel_rfl) (by kernel_rfl)) okFs_ok mix [.val (.pointer t)] (by rw [dedup_Table_Next_eq]; exact h)

def dedup_Table_Row (t : Option Addr) (pid : Int) : Prog :=
.act (new T.dedup_Row) sA (u1 fun a0 =>
.ite (Option.isNone t) (
.actU (st T.dedup_Row a0 (.agg #[.int .i64 0, .int .i64 0, .int .i64 0, .int .i64 0, .int .i64 0, .int .i64 0, .int .i64 0])) <|
.read True (ld T.dedup_Row a0) (sG [.int .i64, .int .i64, .int .i64, .int .i64, .int .i64, .int .i64, .int .i64]) (u7 fun (n1 : Int) (n2 : Int) (n3 : Int) (n4 : Int) (n5 : Int) (n6 : Int) (n7 : Int) =>
.done 0 [.agg #[.int .i64 n1, .int .i64 n2, .int .i64 n3, .int .i64 n4, .int .i64 n5, .int .i64 n6, .int .i64 n7], .bool false])) (
.ex [.adr] (c1 fun a8 => t = some a8) (u1 fun a9 =>
.read True (ld T.m_int64_dedup_Row (Addr.add a9 2)) sM (u1 fun m10 =>
.read True (Instr.lookup T.m_int64_dedup_Row (.map m10) (.int .i64 pid) true) (.tup [.agg [.int .i64, .int .i64, .int .i64, .int .i64, .int .i64, .int .i64, .int .i64], .one .bool]) (u8 fun (n11 : Int) (n12 : Int) (n13 : Int) (n14 : Int) (n15 : Int) (n16 : Int) (n17 : Int) b18 =>
.act (new T.dedup_Row) sA (u1 fun a19 =>
.actU (st T.dedup_Row a19 (.agg #[.int .i64 n11, .int .i64 n12, .int .i64 n13, .int .i64 n14, .int .i64 n15, .int .i64 n16, .int .i64 n17])) <|
.lt (.bool) (b18) fun b20 =>
.read True (ld T.dedup_Row a19) (sG [.int .i64, .int .i64, .int .i64, .int .i64, .int .i64, .int .i64, .int .i64]) (u7 fun (n21 : Int) (n22 : Int) (n23 : Int) (n24 : Int) (n25 : Int) (n26 : Int) (n27 : Int) =>
.actU (st T.dedup_Row a0 (.agg #[.int .i64 n21, .int .i64 n22, .int .i64 n23, .int .i64 n24, .int .i64 n25, .int .i64 n26, .int .i64 n27])) <|
.lt (.bool) (b20) fun b28 =>
.read True (ld T.dedup_Row a0) (sG [.int .i64, .int .i64, .int .i64, .int .i64, .int .i64, .int .i64, .int .i64]) (u7 fun (n29 : Int) (n30 : Int) (n31 : Int) (n32 : Int) (n33 : Int) (n34 : Int) (n35 : Int) =>
.done 0 [.agg #[.int .i64 n29, .int .i64 n30, .int .i64 n31, .int .i64 n32, .int .i64 n33, .int .i64 n34, .int .i64 n35], .bool b28]))))))))
theorem dedup_Table_Row_eq (t : Option Addr) (pid : Int) : decomp P 22 ⟨okFs, []⟩ { cnd := [], blk := [], reg := [], lps := [] } [.cell 4 55, .tmp 5] (bodyOf Go.Proofs.Tryz.f19) [.val (.pointer t), .val (.int .i64 pid)] = dedup_Table_Row t pid := by kernel_rfl
theorem dedup_Table_Row_calls (t : Option Addr) (pid : Int) {w : World} {R : List Value → World → Prop} (h : (dedup_Table_Row t pid).wp P (fun _ => True) w fun e vs w' => e = 0 ∧ R vs w') :
    Calls P F.dedup_Table_Row #[.pointer t, .int .i64 pid] w fun e w' => ∃ vs, e = .returned (pack vs) ∧ R vs w' :=
  decomp_sound (isFn_of Go.Proofs.Tryz.func19 (by kernel_rfl) (by kernel_rfl) (by kernel_rfl)) okFs_ok mix [.val (.pointer t), .val (.int .i64 pid)] (by rw [dedup_Table_Row_eq]; exact h)

def towpathlaw07_small (o_0 : Int) (o_1 : Int) (o_2 : Int) (o_3 : Int) (o_4 : Int) (o_5 : Int) (o_6 : Int) (o_7 : Sl) (o_8 : Bool) (o_9 : Int) (next_ : Int) : Prog :=
.act (Instr.box T.towpathlaw07_Op (.agg #[.int .i64 o_0, .int .i64 o_1, .int .i64 o_2, .int .i64 o_3, .int .i64 o_4, .int .i64 o_5, .int .i64 o_6, o_7.v, .bool o_8, .int .i64 o_9])) sA (u1 fun a0 =>
.act (new T.api_Batch) sA (u1 fun a1 =>
.read True (ld T.api_Batch (Addr.add a0 1)) (sG [.int .i64, .int .i64, .int .i64, .int .i64, .int .i64, .int .i64, .slc]) (u7 fun (n2 : Int) (n3 : Int) (n4 : Int) (n5 : Int) (n6 : Int) (n7 : Int) l8 =>
.act (new T.api_Batch) sA (u1 fun a9 =>
.actU (st T.api_Batch a9 (.agg #[.int .i64 n2, .int .i64 n3, .int .i64 n4, .int .i64 n5, .int .i64 n6, .int .i64 n7, l8.v])) <|
.actU (st T.s_api_Record (Addr.add a9 6) (.slice none 0 0)) <|
.read True (ld T.s_api_Record (Addr.add (Addr.add a0 1) 6)) sL (u1 fun l10 =>
.bind 1 [] (
.loop 2 [.one (.int .i64)] (0, ()) (u1 fun (n11 : Int) =>
.ite (decide (n11 < ((l10.len : Nat) : Int))) (
.ex [.adr] (c1 fun a12 => 0 ≤ n11 ∧ n11 < ((l10.len : Nat) : Int) ∧ l10.a = some a12) (u1 fun a13 =>
.read True (ld T.api_Record (Addr.add a13 (Int.toNat n11 * 4))) (sG [.str, .str, .bool, .int .i64]) (u4 fun s14 s15 b16 (n17 : Int) =>
.act (new T.api_Record) sA (u1 fun a18 =>
.lt (.int .i64) (n11) fun (n19 : Int) =>
.actU (st T.api_Record a18 (.agg #[.string s14, .string s15, .bool b16, .int .i64 n17])) <|
.ite (decide (n19 ≥ 8)) (
.done 1 []) (
.read True (ld T.string (Addr.add a18 0)) sS (u1 fun s20 =>
.bind 3 [] (
.ite (decide (((ByteArray.size s20 : Nat) : Int) > 8)) (
.read True (ld T.string (Addr.add a18 0)) sS (u1 fun s21 =>
.must ((0 : Int) ≤ 8 ∧ 8 ≤ ((ByteArray.size s21 : Nat) : Int)) <|
.actU (st T.string (Addr.add a18 0) (.string (ByteArray.extract s21 0 8))) <|
.done 3 [])) (
.done 3 [])) (u0 <|
.read True (ld T.string (Addr.add a18 1)) sS (u1 fun s22 =>
.bind 3 [] (
.ite (decide (((ByteArray.size s22 : Nat) : Int) > 8)) (
.read True (ld T.string (Addr.add a18 1)) sS (u1 fun s23 =>
.must ((0 : Int) ≤ 8 ∧ 8 ≤ ((ByteArray.size s23 : Nat) : Int)) <|
.actU (st T.string (Addr.add a18 1) (.string (ByteArray.extract s23 0 8))) <|
.done 3 [])) (
.done 3 [])) (u0 <|
.read True (ld T.s_api_Record (Addr.add a9 6)) sL (u1 fun l24 =>
.read True (ld T.api_Record a18) (sG [.str, .str, .bool, .int .i64]) (u4 fun s25 s26 b27 (n28 : Int) =>
.act (Instr.buildSlice T.s_api_Record 1 #[(0, .agg #[.string s25, .string s26, .bool b27, .int .i64 n28])]) sL (u1 fun l29 =>
.act (app T.s_api_Record T.s_api_Record T.s_api_Record l24.v l29.v) sL (u1 fun l30 =>
.actU (st T.s_api_Record (Addr.add a9 6) l30.v) <|
.done 2 [.int .i64 (IntKind.wrap .i64 (n11 + 1))]))))))))))))) (
.done 1 []))) (u0 <|
.read True (ld T.bool (Addr.add a0 8)) sB (u1 fun b31 =>
.bind 1 [] (
.ite (b31) (
.read True (ld T.int64 (Addr.add a9 0)) (sI .i64) (u1 fun (n32 : Int) =>
.actU (st T.int64 (Addr.add a9 0) (.int .i64 (Int.tmod n32 5))) <|
.read True (ld T.int64 (Addr.add a9 0)) (sI .i64) (u1 fun (n33 : Int) =>
.bind 2 [] (
.ite (decide (n33 < 0)) (
.actU (st T.int64 (Addr.add a9 0) (.int .i64 0)) <|
.done 2 []) (
.done 2 [])) (u0 <|
.read True (ld T.int64 (Addr.add a9 0)) (sI .i64) (u1 fun (n34 : Int) =>
.actU (st T.int64 (Addr.add a9 0) (.int .i64 (IntKind.wrap .i64 (n34 + next_)))) <|
.done 1 []))))) (
.done 1 [])) (u0 <|
.read True (ld T.api_Batch a9) (sG [.int .i64, .int .i64, .int .i64, .int .i64, .int .i64, .int .i64, .slc]) (u7 fun (n35 : Int) (n36 : Int) (n37 : Int) (n38 : Int) (n39 : Int) (n40 : Int) l41 =>
.actU (st T.api_Batch a1 (.agg #[.int .i64 n35, .int .i64 n36, .int .i64 n37, .int .i64 n38, .int .i64 n39, .int .i64 n40, l41.v])) <|
.read True (ld T.api_Batch a1) (sG [.int .i64, .int .i64, .int .i64, .int .i64, .int .i64, .int .i64, .slc]) (u7 fun (n42 : Int) (n43 : Int) (n44 : Int) (n45 : Int) (n46 : Int) (n47 : Int) l48 =>
.done 0 [.agg #[.int .i64 n42, .int .i64 n43, .int .i64 n44, .int .i64 n45, .int .i64 n46, .int .i64 n47, l48.v]]))))))))))
theorem towpathlaw07_small_eq (o_0 : Int) (o_1 : Int) (o_2 : Int) (o_3 : Int) (o_4 : Int) (o_5 : Int) (o_6 : Int) (o_7 : Sl) (o_8 : Bool) (o_9 : Int) (next_ : Int) : decomp P 61 ⟨okFs, []⟩ { cnd := [(4123168604185, []), (1055531162664993, []), (73786976294838206517, []), (4721790022117341790254, [])], blk := [(0, [])], reg := [], lps := [(0, [(15, .one (.int .i64))])] } [.cell 4 35] (bodyOf Go.Proofs.Tryz.f23) [.val (.agg #[.int .i64 o_0, .int .i64 o_1, .int .i64 o_2, .int .i64 o_3, .int .i64 o_4, .int .i64 o_5, .int .i64 o_6, .slice o_7.a o_7.len o_7.cap, .bool o_8, .int .i64 o_9]), .val (.int .i64 next_)] = towpathlaw07_small o_0 o_1 o_2 o_3 o_4 o_5 o_6 o_7 o_8 o_9 next_ := by kernel_rfl
theorem towpathlaw07_small_calls (o_0 : Int) (o_1 : Int) (o_2 : Int) (o_3 : Int) (o_4 : Int) (o_5 : Int) (o_6 : Int) (o_7 : Sl) (o_8 : Bool) (o_9 : Int) (next_ : Int) {w : World} {R : List Value → World → Prop} (h : (towpathlaw07_small o_0 o_1 o_2 o_3 o_4 o_5 o_6 o_7 o_8 o_9 next_).wp P (fun _ => True) w fun e vs w' => e = 0 ∧ R vs w') :
    Calls P F.towpathlaw07_small #[.agg #[.int .i64 o_0, .int .i64 o_1, .int .i64 o_2, .int .i64 o_3, .int .i64 o_4, .int .i64 o_5, .int .i64 o_6, .slice o_7.a o_7.len o_7.cap, .bool o_8, .int .i64 o_9], .int .i64 next_] w fun e w' => ∃ vs, e = .returned (pack vs) ∧ R vs w' :=
  decomp_sound (isFn_of Go.Proofs.Tryz.func23 (by kernel_rfl) (by kernel_rfl) (by kernel_rfl)) okFs_ok mix [.val (.agg #[.int .i64 o_0, .int .i64 o_1, .int .i64 o_2, .int .i64 o_3, .int .i64 o_4, .int .i64 o_5, .int .i64 o_6, .slice o_7.a o_7.len o_7.cap, .bool o_8, .int .i64 o_9]), .val (.int .i64 next_)] (by rw [towpathlaw07_small_eq]; exact h)

def dedup_Table_Take (t : Option Addr) (b_0 : Int) (b_1 : Int) (b_2 : Int) (b_3 : Int) (b_4 : Int) (b_5 : Int) (b_6 : Sl) : Prog :=
.act (Instr.box T.api_Batch (.agg #[.int .i64 b_0, .int .i64 b_1, .int .i64 b_2, .int .i64 b_3, .int .i64 b_4, .int .i64 b_5, b_6.v])) sA (u1 fun a0 =>
.read True (ld T.api_Batch a0) (sG [.int .i64, .int .i64, .int .i64, .int .i64, .int .i64, .int .i64, .slc]) (u7 fun (n1 : Int) (n2 : Int) (n3 : Int) (n4 : Int) (n5 : Int) (n6 : Int) l7 =>
.call F.dedup_Table_Judge [.pointer t, .agg #[.int .i64 n1, .int .i64 n2, .int .i64 n3, .int .i64 n4, .int .i64 n5, .int .i64 n6, l7.v]] (.tup [.agg [.bool, .int .i64], .one (.int .i64)]) (u3 fun b8 (n9 : Int) (n10 : Int) =>
.act (new T.dedup_Verdict) sA (u1 fun a11 =>
.actU (st T.dedup_Verdict a11 (.agg #[.bool b8, .int .i64 n9])) <|
.lt (.int .i64) (n10) fun (n12 : Int) =>
.lt (.bool) (n12 != 0) fun b13 =>
.ite (b13) (
.lt (.int .i64) (n12) fun (n14 : Int) =>
.done 0 [.int .i64 n14]) (
.read True (ld T.bool (Addr.add a11 0)) sB (u1 fun b15 =>
.lt (.bool) (b15) fun b16 =>
.ite (b16) (
.done 0 [.int .i64 4]) (
.tick <|
.read True (ld T.int64 (Addr.add a0 0)) (sI .i64) (u1 fun (n17 : Int) =>
.ex [.adr] (c1 fun a18 => t = some a18) (u1 fun a19 =>
.read True (ld T.int64 (Addr.add a19 1)) (sI .i64) (u1 fun (n20 : Int) =>
.lt (.bool) (decide (n17 < n20)) fun b21 =>
.untick <|
.ite (b21) (
.done 0 [.int .i64 8]) (
.read True (ld T.api_Batch a0) (sG [.int .i64, .int .i64, .int .i64, .int .i64, .int .i64, .int .i64, .slc]) (u7 fun (n22 : Int) (n23 : Int) (n24 : Int) (n25 : Int) (n26 : Int) (n27 : Int) l28 =>
.call F.rec_Next [.agg #[.int .i64 n22, .int .i64 n23, .int .i64 n24, .int .i64 n25, .int .i64 n26, .int .i64 n27, l28.v]] (sI .i64) (u1 fun (n29 : Int) =>
.ex [.adr] (c1 fun a30 => t = some a30) (u1 fun a31 =>
.actU (st T.int64 (Addr.add a31 1) (.int .i64 n29)) <|
.read True (ld T.int64 (Addr.add a0 1)) (sI .i64) (u1 fun (n32 : Int) =>
.ite (n32 == 0) (
.done 0 [.int .i64 0]) (
.read True (ld T.int64 (Addr.add a0 1)) (sI .i64) (u1 fun (n33 : Int) =>
.call F.dedup_Table_row [.pointer t, .int .i64 n33] (.tup [.agg [.int .i64, .int .i64, .int .i64, .int .i64, .int .i64, .int .i64, .int .i64], .one .bool]) (u8 fun (n34 : Int) (n35 : Int) (n36 : Int) (n37 : Int) (n38 : Int) (n39 : Int) (n40 : Int) b41 =>
.act (new T.dedup_Row) sA (u1 fun a42 =>
.actU (st T.dedup_Row a42 (.agg #[.int .i64 n34, .int .i64 n35, .int .i64 n36, .int .i64 n37, .int .i64 n38, .int .i64 n39, .int .i64 n40])) <|
.lt (.bool) (b41) fun b43 =>
.read True (ld T.int64 (Addr.add a0 5)) (sI .i64) (u1 fun (n44 : Int) =>
.lt (.int .i64) (n44) fun (n45 : Int) =>
.bind 1 [.one (.int .i64)] (
.ite (b43) (
.read True (ld T.int64 (Addr.add a42 6)) (sI .i64) (u1 fun (n46 : Int) =>
.lt (.int .i64) (if n46 > n45 then n46 else n45) fun (n47 : Int) =>
.done 1 [.int .i64 n47])) (
.done 1 [.int .i64 n45])) (u1 fun (n48 : Int) =>
.read True (ld T.int (Addr.add a0 4)) (sI .i64) (u1 fun (n49 : Int) =>
.bind 1 [] (
.bind 2 [] (
.lt (.bool) (n49 == 2) fun b50 =>
.bind 3 [.one .bool] (
.ite (b50) (
.done 3 [.bool b50]) (
.lt (.bool) (n49 == 3) fun b51 =>
.done 3 [.bool b51])) (u1 fun b52 =>
.ite (b52) (
.tick <|
.ex [.adr] (c1 fun a53 => t = some a53) (u1 fun a54 =>
.read True (ld T.m_int64_dedup_Row (Addr.add a54 2)) sM (u1 fun m55 =>
.read True (ld T.int64 (Addr.add a0 1)) (sI .i64) (u1 fun (n56 : Int) =>
.read True (ld T.int64 (Addr.add a0 1)) (sI .i64) (u1 fun (n57 : Int) =>
.read True (ld T.int (Addr.add a0 2)) (sI .i64) (u1 fun (n58 : Int) =>
.actU (Instr.mapUpdate T.m_int64_dedup_Row (.map m55) (.int .i64 n56) (.agg #[.int .i64 n57, .int .i64 (IntKind.wrap .i64 (n58 + 1)), .int .i64 0, .int .i64 0, .int .i64 0, .int .i64 (-1), .int .i64 n48])) <|
.untick <|
.done 0 [.int .i64 0])))))) (
.lt (.bool) (n49 == 1) fun b59 =>
.ite (b59) (
.read True (ld T.dedup_Row a42) (sG [.int .i64, .int .i64, .int .i64, .int .i64, .int .i64, .int .i64, .int .i64]) (u7 fun (n60 : Int) (n61 : Int) (n62 : Int) (n63 : Int) (n64 : Int) (n65 : Int) (n66 : Int) =>
.call F.dedup_Row_open [.agg #[.int .i64 n60, .int .i64 n61, .int .i64 n62, .int .i64 n63, .int .i64 n64, .int .i64 n65, .int .i64 n66]] sB (u1 fun b67 =>
.bind 3 [] (
.ite (not b67) (
.read True (ld T.int64 (Addr.add a0 0)) (sI .i64) (u1 fun (n68 : Int) =>
.actU (st T.int64 (Addr.add a42 5) (.int .i64 n68)) <|
.done 3 [])) (
.done 3 [])) (u0 <|
.done 2 [])))) (
.done 2 [])))) (u0 <|
.tick <|
.ex [.adr] (c1 fun a69 => t = some a69) (u1 fun a70 =>
.read True (ld T.m_int64_dedup_Row (Addr.add a70 2)) sM (u1 fun m71 =>
.read True (ld T.int64 (Addr.add a0 1)) (sI .i64) (u1 fun (n72 : Int) =>
.read True (ld T.int64 (Addr.add a0 1)) (sI .i64) (u1 fun (n73 : Int) =>
.read True (ld T.int (Addr.add a0 2)) (sI .i64) (u1 fun (n74 : Int) =>
.read True (ld T.int (Addr.add a0 3)) (sI .i64) (u1 fun (n75 : Int) =>
.read True (ld T.s_api_Record (Addr.add a0 6)) sL (u1 fun l76 =>
.read True (ld T.int64 (Addr.add a0 0)) (sI .i64) (u1 fun (n77 : Int) =>
.read True (ld T.int64 (Addr.add a42 5)) (sI .i64) (u1 fun (n78 : Int) =>
.actU (Instr.mapUpdate T.m_int64_dedup_Row (.map m71) (.int .i64 n72) (.agg #[.int .i64 n73, .int .i64 n74, .int .i64 n75, .int .i64 (((l76.len : Nat) : Int)), .int .i64 n77, .int .i64 n78, .int .i64 n48])) <|
.untick <|
.done 1 []))))))))))) (u0 <|
.done 0 [.int .i64 0])))))))))))))))))))))))
theorem dedup_Table_Take_eq (t : Option Addr) (b_0 : Int) (b_1 : Int) (b_2 : Int) (b_3 : Int) (b_4 : Int) (b_5 : Int) (b_6 : Sl) : decomp P 100 ⟨okFs, []⟩ { cnd := [(34587645138207506480, [(9, .one (.int .i64))]), (737869762948382064695, [(55, .one .bool)]), (2166395068749415481073467467, [])], blk := [(1, []), (4, [])], reg := [], lps := [] } [.tmp 4] (bodyOf Go.Proofs.Tryz.f25) [.val (.pointer t), .val (.agg #[.int .i64 b_0, .int .i64 b_1, .int .i64 b_2, .int .i64 b_3, .int .i64 b_4, .int .i64 b_5, .slice b_6.a b_6.len b_6.cap])] = dedup_Table_Take t b_0 b_1 b_2 b_3 b_4 b_5 b_6 := by kernel_rfl
theorem dedup_Table_Take_calls (t : Option Addr) (b_0 : Int) (b_1 : Int) (b_2 : Int) (b_3 : Int) (b_4 : Int) (b_5 : Int) (b_6 : Sl) {w : World} {R : List Value → World → Prop} (h : (dedup_Table_Take t b_0 b_1 b_2 b_3 b_4 b_5 b_6).wp P (fun _ => True) w fun e vs w' => e = 0 ∧ R vs w') :
    Calls P F.dedup_Table_Take #[.pointer t, .agg #[.int .i64 b_0, .int .i64 b_1, .int .i64 b_2, .int .i64 b_3, .int .i64 b_4, .int .i64 b_5, .slice b_6.a b_6.len b_6.cap]] w fun e w' => ∃ vs, e = .returned (pack vs) ∧ R vs w' :=
  decomp_sound (isFn_of Go.Proofs.Tryz.func25 (by kernel_rfl) (by kernel_rfl) (by kernel_rfl)) okFs_ok mix [.val (.pointer t), .val (.agg #[.int .i64 b_0, .int .i64 b_1, .int .i64 b_2, .int .i64 b_3, .int .i64 b_4, .int .i64 b_5, .slice b_6.a b_6.len b_6.cap])] (by rw [dedup_Table_Take_eq]; exact h)

def dedup_Table_Expire (t : Option Addr) (time : Int) : Prog :=
.ite (Option.isNone t) (
.done 0 [.slice none 0 0]) (
.ex [.adr] (c1 fun a0 => t = some a0) (u1 fun a1 =>
.read True (ld T.m_int64_dedup_Row (Addr.add a1 2)) sM (u1 fun m2 =>
.act (Instr.range T.m_int64_dedup_Row (.map m2)) sA (u1 fun a3 =>
.bind 1 [.one .slc] (
.loop 2 [.one .slc] (⟨none, 0, 0⟩, ()) (u1 fun l4 =>
.next (Instr.next (.pointer (some a3)) false T.unit) ([.one (.int .i64), .agg [.int .i64, .int .i64, .int .i64, .int .i64, .int .i64, .int .i64, .int .i64]]) (u8 fun (n5 : Int) (n6 : Int) (n7 : Int) (n8 : Int) (n9 : Int) (n10 : Int) (n11 : Int) (n12 : Int) =>
.act (Instr.entry (.pointer (some a3))) (.tup [.one (.int .i64), .agg [.int .i64, .int .i64, .int .i64, .int .i64, .int .i64, .int .i64, .int .i64]]) (u8 fun (n13 : Int) (n14 : Int) (n15 : Int) (n16 : Int) (n17 : Int) (n18 : Int) (n19 : Int) (n20 : Int) =>
.act (new T.dedup_Row) sA (u1 fun a21 =>
.lt (.int .i64) (n13) fun (n22 : Int) =>
.actU (st T.dedup_Row a21 (.agg #[.int .i64 n14, .int .i64 n15, .int .i64 n16, .int .i64 n17, .int .i64 n18, .int .i64 n19, .int .i64 n20])) <|
.read True (ld T.dedup_Row a21) (sG [.int .i64, .int .i64, .int .i64, .int .i64, .int .i64, .int .i64, .int .i64]) (u7 fun (n23 : Int) (n24 : Int) (n25 : Int) (n26 : Int) (n27 : Int) (n28 : Int) (n29 : Int) =>
.call F.dedup_Row_open [.agg #[.int .i64 n23, .int .i64 n24, .int .i64 n25, .int .i64 n26, .int .i64 n27, .int .i64 n28, .int .i64 n29]] sB (u1 fun b30 =>
.read (not b30 = true) (ld T.int64 (Addr.add a21 6)) (sI .i64) (u1 fun (n31 : Int) =>
.bind 3 [.one .slc] (
.ite (not b30 && decide (n31 < time)) (
.act (Instr.buildSlice T.s_int64 1 #[(0, .int .i64 n22)]) sL (u1 fun l32 =>
.act (app T.s_int64 T.s_int64 T.s_int64 l4.v l32.v) sL (u1 fun l33 =>
.done 3 [l33.v]))) (
.done 3 [l4.v])) (u1 fun l34 =>
.done 2 [l34.v]))))))) (
.done 1 [l4.v]))) (u1 fun l35 =>
.bind 1 [] (
.loop 2 [.one (.int .i64)] (0, ()) (u1 fun (n36 : Int) =>
.ite (decide (n36 < ((l35.len : Nat) : Int))) (
.ex [.adr] (c1 fun a37 => 0 ≤ n36 ∧ n36 < ((l35.len : Nat) : Int) ∧ l35.a = some a37) (u1 fun a38 =>
.read True (ld T.int64 (Addr.add a38 (Int.toNat n36 * 1))) (sI .i64) (u1 fun (n39 : Int) =>
.lt (.int .i64) (n39) fun (n40 : Int) =>
.ex [.adr] (c1 fun a41 => t = some a41) (u1 fun a42 =>
.read True (ld T.m_int64_dedup_Row (Addr.add a42 2)) sM (u1 fun m43 =>
.act (Builtin.delete_ #[T.m_int64_dedup_Row, T.int64] T.unit #[.map m43, .int .i64 n40]) (.tup []) (u0 <|
.done 2 [.int .i64 (IntKind.wrap .i64 (n36 + 1))])))))) (
.done 1 []))) (u0 <|
.call F.slices_Sort_s_int64_int64 [l35.v] (.tup []) (u0 <|
.done 0 [l35.v])))))))
theorem dedup_Table_Expire_eq (t : Option Addr) (time : Int) : decomp P 50 ⟨okFs, [(17, [.one (.int .i64), .agg [.int .i64, .int .i64, .int .i64, .int .i64, .int .i64, .int .i64, .int .i64]]), (19, [.one (.int .i64), .agg [.int .i64, .int .i64, .int .i64, .int .i64, .int .i64, .int .i64, .int .i64]])]⟩ { cnd := [(131941395464222, [(5, .one .slc)])], blk := [(0, [(5, .one .slc)]), (2, [])], reg := [], lps := [(0, [(5, .one .slc)]), (2, [(37, .one (.int .i64))])] } [.tmp 4] (bodyOf Go.Proofs.Tryz.f27) [.val (.pointer t), .val (.int .i64 time)] = dedup_Table_Expire t time := by kernel_rfl
theorem dedup_Table_Expire_calls (t : Option Addr) (time : Int) {w : World} {R : List Value → World → Prop} (h : (dedup_Table_Expire t time).wp P (fun _ => True) w fun e vs w' => e = 0 ∧ R vs w') :
    Calls P F.dedup_Table_Expire #[.pointer t, .int .i64 time] w fun e w' => ∃ vs, e = .returned (pack vs) ∧ R vs w' :=
  decomp_sound (isFn_of Go.Proofs.Tryz.func27 (by kernel_rfl) (by kernel_rfl) (by kernel_rfl)) okFs_ok mix [.val (.pointer t), .val (.int .i64 time)] (by rw [dedup_Table_Expire_eq]; exact h)

def towpathlaw07_two (epoch : Int) (seq : Int) (base : Int) : Prog :=
.act (new T.api_Batch) sA (u1 fun a0 =>
.act (Instr.buildSlice T.s_api_Record 2 #[(0, .agg #[.string (ByteArray.mk #[97]), .string (ByteArray.mk #[]), .bool false, .int .i64 0]), (1, .agg #[.string (ByteArray.mk #[98]), .string (ByteArray.mk #[]), .bool false, .int .i64 0])]) sL (u1 fun l1 =>
.actU (st T.api_Batch a0 (.agg #[.int .i64 base, .int .i64 3, .int .i64 epoch, .int .i64 seq, .int .i64 1, .int .i64 0, l1.v])) <|
.read True (ld T.api_Batch a0) (sG [.int .i64, .int .i64, .int .i64, .int .i64, .int .i64, .int .i64, .slc]) (u7 fun (n2 : Int) (n3 : Int) (n4 : Int) (n5 : Int) (n6 : Int) (n7 : Int) l8 =>
.done 0 [.agg #[.int .i64 n2, .int .i64 n3, .int .i64 n4, .int .i64 n5, .int .i64 n6, .int .i64 n7, l8.v]])))
theorem towpathlaw07_two_eq (epoch : Int) (seq : Int) (base : Int) : decomp P 14 ⟨okFs, []⟩ { cnd := [], blk := [], reg := [], lps := [] } [.cell 6 35] (bodyOf Go.Proofs.Tryz.f30) [.val (.int .i64 epoch), .val (.int .i64 seq), .val (.int .i64 base)] = towpathlaw07_two epoch seq base := by kernel_rfl
theorem towpathlaw07_two_calls (epoch : Int) (seq : Int) (base : Int) {w : World} {R : List Value → World → Prop} (h : (towpathlaw07_two epoch seq base).wp P (fun _ => True) w fun e vs w' => e = 0 ∧ R vs w') :
    Calls P F.towpathlaw07_two #[.int .i64 epoch, .int .i64 seq, .int .i64 base] w fun e w' => ∃ vs, e = .returned (pack vs) ∧ R vs w' :=
  decomp_sound (isFn_of Go.Proofs.Tryz.func30 (by kernel_rfl) (by kernel_rfl) (by kernel_rfl)) okFs_ok mix [.val (.int .i64 epoch), .val (.int .i64 seq), .val (.int .i64 base)] (by rw [towpathlaw07_two_eq]; exact h)

def dedup_Table_Judge (t : Option Addr) (b_0 : Int) (b_1 : Int) (b_2 : Int) (b_3 : Int) (b_4 : Int) (b_5 : Int) (b_6 : Sl) : Prog :=
.act (Instr.box T.api_Batch (.agg #[.int .i64 b_0, .int .i64 b_1, .int .i64 b_2, .int .i64 b_3, .int .i64 b_4, .int .i64 b_5, b_6.v])) sA (u1 fun a0 =>
.act (new T.dedup_Verdict) sA (u1 fun a1 =>
.ite (Option.isNone t) (
.actU (st T.dedup_Verdict a1 (.agg #[.bool false, .int .i64 0])) <|
.read True (ld T.dedup_Verdict a1) (sG [.bool, .int .i64]) (u2 fun b2 (n3 : Int) =>
.done 0 [.agg #[.bool b2, .int .i64 n3], .int .i64 1])) (
.read True (ld T.api_Batch a0) (sG [.int .i64, .int .i64, .int .i64, .int .i64, .int .i64, .int .i64, .slc]) (u7 fun (n4 : Int) (n5 : Int) (n6 : Int) (n7 : Int) (n8 : Int) (n9 : Int) l10 =>
.call F.rec_Valid [.agg #[.int .i64 n4, .int .i64 n5, .int .i64 n6, .int .i64 n7, .int .i64 n8, .int .i64 n9, l10.v]] (sI .i64) (u1 fun (n11 : Int) =>
.lt (.int .i64) (n11) fun (n12 : Int) =>
.read ((n12 != 0) = false) (ld T.int64 (Addr.add a0 1)) (sI .i64) (u1 fun (n13 : Int) =>
.ite (n12 != 0 || n13 == 0) (
.actU (st T.dedup_Verdict a1 (.agg #[.bool false, .int .i64 0])) <|
.lt (.int .i64) (n12) fun (n14 : Int) =>
.read True (ld T.dedup_Verdict a1) (sG [.bool, .int .i64]) (u2 fun b15 (n16 : Int) =>
.done 0 [.agg #[.bool b15, .int .i64 n16], .int .i64 n14])) (
.read True (ld T.int64 (Addr.add a0 1)) (sI .i64) (u1 fun (n17 : Int) =>
.call F.dedup_Table_row [.pointer t, .int .i64 n17] (.tup [.agg [.int .i64, .int .i64, .int .i64, .int .i64, .int .i64, .int .i64, .int .i64], .one .bool]) (u8 fun (n18 : Int) (n19 : Int) (n20 : Int) (n21 : Int) (n22 : Int) (n23 : Int) (n24 : Int) b25 =>
.act (new T.dedup_Row) sA (u1 fun a26 =>
.actU (st T.dedup_Row a26 (.agg #[.int .i64 n18, .int .i64 n19, .int .i64 n20, .int .i64 n21, .int .i64 n22, .int .i64 n23, .int .i64 n24])) <|
.lt (.bool) (b25) fun b27 =>
.read True (ld T.int (Addr.add a0 2)) (sI .i64) (u1 fun (n28 : Int) =>
.read True (ld T.int (Addr.add a26 1)) (sI .i64) (u1 fun (n29 : Int) =>
.ite (decide (n28 < n29)) (
.read True (ld T.api_Batch a0) (sG [.int .i64, .int .i64, .int .i64, .int .i64, .int .i64, .int .i64, .slc]) (u7 fun (n30 : Int) (n31 : Int) (n32 : Int) (n33 : Int) (n34 : Int) (n35 : Int) l36 =>
.call F.dedup_mark [.agg #[.int .i64 n30, .int .i64 n31, .int .i64 n32, .int .i64 n33, .int .i64 n34, .int .i64 n35, l36.v]] sB (u1 fun b37 =>
.ite (b37) (
.actU (st T.dedup_Verdict a1 (.agg #[.bool true, .int .i64 (-1)])) <|
.read True (ld T.dedup_Verdict a1) (sG [.bool, .int .i64]) (u2 fun b38 (n39 : Int) =>
.done 0 [.agg #[.bool b38, .int .i64 n39], .int .i64 0])) (
.actU (st T.dedup_Verdict a1 (.agg #[.bool false, .int .i64 0])) <|
.read True (ld T.dedup_Verdict a1) (sG [.bool, .int .i64]) (u2 fun b40 (n41 : Int) =>
.done 0 [.agg #[.bool b40, .int .i64 n41], .int .i64 20]))))) (
.read True (ld T.api_Batch a0) (sG [.int .i64, .int .i64, .int .i64, .int .i64, .int .i64, .int .i64, .slc]) (u7 fun (n42 : Int) (n43 : Int) (n44 : Int) (n45 : Int) (n46 : Int) (n47 : Int) l48 =>
.call F.dedup_mark [.agg #[.int .i64 n42, .int .i64 n43, .int .i64 n44, .int .i64 n45, .int .i64 n46, .int .i64 n47, l48.v]] sB (u1 fun b49 =>
.bind 1 [] (
.ite (not b49) (
.read True (ld T.dedup_Row a26) (sG [.int .i64, .int .i64, .int .i64, .int .i64, .int .i64, .int .i64, .int .i64]) (u7 fun (n50 : Int) (n51 : Int) (n52 : Int) (n53 : Int) (n54 : Int) (n55 : Int) (n56 : Int) =>
.read True (ld T.api_Batch a0) (sG [.int .i64, .int .i64, .int .i64, .int .i64, .int .i64, .int .i64, .slc]) (u7 fun (n57 : Int) (n58 : Int) (n59 : Int) (n60 : Int) (n61 : Int) (n62 : Int) l63 =>
.call F.dedup_again [.agg #[.int .i64 n50, .int .i64 n51, .int .i64 n52, .int .i64 n53, .int .i64 n54, .int .i64 n55, .int .i64 n56], .agg #[.int .i64 n57, .int .i64 n58, .int .i64 n59, .int .i64 n60, .int .i64 n61, .int .i64 n62, l63.v]] (.tup [.agg [.bool, .int .i64], .one .bool]) (u3 fun b64 (n65 : Int) b66 =>
.act (new T.dedup_Verdict) sA (u1 fun a67 =>
.actU (st T.dedup_Verdict a67 (.agg #[.bool b64, .int .i64 n65])) <|
.lt (.bool) (b66) fun b68 =>
.ite (b68) (
.read True (ld T.dedup_Verdict a67) (sG [.bool, .int .i64]) (u2 fun b69 (n70 : Int) =>
.actU (st T.dedup_Verdict a1 (.agg #[.bool b69, .int .i64 n70])) <|
.read True (ld T.dedup_Verdict a1) (sG [.bool, .int .i64]) (u2 fun b71 (n72 : Int) =>
.done 0 [.agg #[.bool b71, .int .i64 n72], .int .i64 0]))) (
.done 1 [])))))) (
.done 1 [])) (u0 <|
.read True (ld T.dedup_Row a26) (sG [.int .i64, .int .i64, .int .i64, .int .i64, .int .i64, .int .i64, .int .i64]) (u7 fun (n73 : Int) (n74 : Int) (n75 : Int) (n76 : Int) (n77 : Int) (n78 : Int) (n79 : Int) =>
.read True (ld T.api_Batch a0) (sG [.int .i64, .int .i64, .int .i64, .int .i64, .int .i64, .int .i64, .slc]) (u7 fun (n80 : Int) (n81 : Int) (n82 : Int) (n83 : Int) (n84 : Int) (n85 : Int) l86 =>
.call F.dedup_Table_fresh [.pointer t, .agg #[.int .i64 n73, .int .i64 n74, .int .i64 n75, .int .i64 n76, .int .i64 n77, .int .i64 n78, .int .i64 n79], .bool b27, .agg #[.int .i64 n80, .int .i64 n81, .int .i64 n82, .int .i64 n83, .int .i64 n84, .int .i64 n85, l86.v]] (sI .i64) (u1 fun (n87 : Int) =>
.actU (st T.dedup_Verdict a1 (.agg #[.bool false, .int .i64 0])) <|
.lt (.int .i64) (n87) fun (n88 : Int) =>
.read True (ld T.dedup_Verdict a1) (sG [.bool, .int .i64]) (u2 fun b89 (n90 : Int) =>
.done 0 [.agg #[.bool b89, .int .i64 n90], .int .i64 n88]))))))))))))))))))))
theorem dedup_Table_Judge_eq (t : Option Addr) (b_0 : Int) (b_1 : Int) (b_2 : Int) (b_3 : Int) (b_4 : Int) (b_5 : Int) (b_6 : Sl) : decomp P 58 ⟨okFs, []⟩ { cnd := [(18374686479678046251, [])], blk := [], reg := [], lps := [] } [.cell 4 69, .tmp 5] (bodyOf Go.Proofs.Tryz.f31) [.val (.pointer t), .val (.agg #[.int .i64 b_0, .int .i64 b_1, .int .i64 b_2, .int .i64 b_3, .int .i64 b_4, .int .i64 b_5, .slice b_6.a b_6.len b_6.cap])] = dedup_Table_Judge t b_0 b_1 b_2 b_3 b_4 b_5 b_6 := by kernel_rfl
theorem dedup_Table_Judge_calls (t : Option Addr) (b_0 : Int) (b_1 : Int) (b_2 : Int) (b_3 : Int) (b_4 : Int) (b_5 : Int) (b_6 : Sl) {w : World} {R : List Value → World → Prop} (h : (dedup_Table_Judge t b_0 b_1 b_2 b_3 b_4 b_5 b_6).wp P (fun _ => True) w fun e vs w' => e = 0 ∧ R vs w') :
    Calls P F.dedup_Table_Judge #[.pointer t, .agg #[.int .i64 b_0, .int .i64 b_1, .int .i64 b_2, .int .i64 b_3, .int .i64 b_4, .int .i64 b_5, .slice b_6.a b_6.len b_6.cap]] w fun e w' => ∃ vs, e = .returned (pack vs) ∧ R vs w' :=
  decomp_sound (isFn_of Go.Proofs.Tryz.func31 (by kernel_rfl) (by kernel_rfl) (by kernel_rfl)) okFs_ok mix [.val (.pointer t), .val (.agg #[.int .i64 b_0, .int .i64 b_1, .int .i64 b_2, .int .i64 b_3, .int .i64 b_4, .int .i64 b_5, .slice b_6.a b_6.len b_6.cap])] (by rw [dedup_Table_Judge_eq]; exact h)

def slices_Collect_dedup_Row (seq : Value) : Prog :=
.call F.slices_AppendSeq_s_dedup_Row_dedup_Row [.slice none 0 0, seq] sL (u1 fun l0 =>
.done 0 [l0.v])
theorem slices_Collect_dedup_Row_eq (seq : Value) : decomp P 5 ⟨okFs, []⟩ { cnd := [], blk := [], reg := [], lps := [] } [.tmp 2] (bodyOf Go.Proofs.Tryz.f33) [.any seq] = slices_Collect_dedup_Row seq := by kernel_rfl
theorem slices_Collect_dedup_Row_calls (seq : Value) {w : World} {R : List Value → World → Prop} (h : (slices_Collect_dedup_Row seq).wp P (fun _ => True) w fun e vs w' => e = 0 ∧ R vs w') :
    Calls P F.slices_Collect_dedup_Row #[seq] w fun e w' => ∃ vs, e = .returned (pack vs) ∧ R vs w' :=
  decomp_sound (isFn_of Go.Proofs.Tryz.func33 (by kernel_rfl) (by kernel_rfl) (by kernel_rfl)) okFs_ok mix [.any seq] (by rw [slices_Collect_dedup_Row_eq]; exact h)

def maps_Values_map_int64_dedup_Row_int64_dedup_Row (m : Option Nat) : Prog :=
.act (Instr.box T.m_int64_dedup_Row (.map m)) sA (u1 fun a0 =>
.done 0 [.func (Fn.func 68) #[] #[.pointer (some a0)]])
theorem maps_Values_map_int64_dedup_Row_int64_dedup_Row_eq (m : Option Nat) : decomp P 4 ⟨okFs, []⟩ { cnd := [], blk := [], reg := [], lps := [] } [.tmp 2] (bodyOf Go.Proofs.Tryz.f34) [.val (.map m)] = maps_Values_map_int64_dedup_Row_int64_dedup_Row m := by kernel_rfl
theorem maps_Values_map_int64_dedup_Row_int64_dedup_Row_calls (m : Option Nat) {w : World} {R : List Value → World → Prop} (h : (maps_Values_map_int64_dedup_Row_int64_dedup_Row m).wp P (fun _ => True) w fun e vs w' => e = 0 ∧ R vs w') :
    Calls P F.maps_Values_map_int64_dedup_Row_int64_dedup_Row #[.map m] w fun e w' => ∃ vs, e = .returned (pack vs) ∧ R vs w' :=
  decomp_sound (isFn_of Go.Proofs.Tryz.func34 (by kernel_rfl) (by kernel_rfl) (by kernel_rfl)) okFs_ok mix [.val (.map m)] (by rw [maps_Values_map_int64_dedup_Row_int64_dedup_Row_eq]; exact h)

def slices_SortFunc_s_dedup_Row_dedup_Row (x : Sl) (cmp : Value) : Prog :=
.lt (.int .i64) (((x.len : Nat) : Int)) fun (n0 : Int) =>
.call F.math_bits_Len [.int .u64 (IntKind.wrap .u64 n0)] (sI .i64) (u1 fun (n1 : Int) =>
.call F.slices_pdqsortCmpFunc_dedup_Row [x.v, .int .i64 0, .int .i64 n0, .int .i64 n1, cmp] (.tup []) (u0 <|
.done 0 []))
theorem slices_SortFunc_s_dedup_Row_dedup_Row_eq (x : Sl) (cmp : Value) : decomp P 14 ⟨okFs, []⟩ { cnd := [], blk := [], reg := [], lps := [] } [] (bodyOf Go.Proofs.Tryz.f35) [.val (.slice x.a x.len x.cap), .any cmp] = slices_SortFunc_s_dedup_Row_dedup_Row x cmp := by kernel_rfl
theorem slices_SortFunc_s_dedup_Row_dedup_Row_calls (x : Sl) (cmp : Value) {w : World} {R : List Value → World → Prop} (h : (slices_SortFunc_s_dedup_Row_dedup_Row x cmp).wp P (fun _ => True) w fun e vs w' => e = 0 ∧ R vs w') :
    Calls P F.slices_SortFunc_s_dedup_Row_dedup_Row #[.slice x.a x.len x.cap, cmp] w fun e w' => ∃ vs, e = .returned (pack vs) ∧ R vs w' :=
  decomp_sound (isFn_of Go.Proofs.Tryz.func35 (by kernel_rfl) (by kernel_rfl) (by kernel_rfl)) okFs_ok mix [.val (.slice x.a x.len x.cap), .any cmp] (by rw [slices_SortFunc_s_dedup_Row_dedup_Row_eq]; exact h)

def dedup_Table_Rows_1 (a_0 : Int) (a_1 : Int) (a_2 : Int) (a_3 : Int) (a_4 : Int) (a_5 : Int) (a_6 : Int) (b_0 : Int) (b_1 : Int) (b_2 : Int) (b_3 : Int) (b_4 : Int) (b_5 : Int) (b_6 : Int) : Prog :=
.act (Instr.box T.dedup_Row (.agg #[.int .i64 a_0, .int .i64 a_1, .int .i64 a_2, .int .i64 a_3, .int .i64 a_4, .int .i64 a_5, .int .i64 a_6])) sA (u1 fun a0 =>
.act (Instr.box T.dedup_Row (.agg #[.int .i64 b_0, .int .i64 b_1, .int .i64 b_2, .int .i64 b_3, .int .i64 b_4, .int .i64 b_5, .int .i64 b_6])) sA (u1 fun a1 =>
.read True (ld T.int64 (Addr.add a0 0)) (sI .i64) (u1 fun (n2 : Int) =>
.read True (ld T.int64 (Addr.add a1 0)) (sI .i64) (u1 fun (n3 : Int) =>
.call F.cmp_Compare_int64 [.int .i64 n2, .int .i64 n3] (sI .i64) (u1 fun (n4 : Int) =>
.lt (.int .i64) (n4) fun (n5 : Int) =>
.done 0 [.int .i64 n5])))))
theorem dedup_Table_Rows_1_eq (a_0 : Int) (a_1 : Int) (a_2 : Int) (a_3 : Int) (a_4 : Int) (a_5 : Int) (a_6 : Int) (b_0 : Int) (b_1 : Int) (b_2 : Int) (b_3 : Int) (b_4 : Int) (b_5 : Int) (b_6 : Int) : decomp P 10 ⟨okFs, []⟩ { cnd := [], blk := [], reg := [], lps := [] } [.tmp 4] (bodyOf Go.Proofs.Tryz.f36) [.val (.agg #[.int .i64 a_0, .int .i64 a_1, .int .i64 a_2, .int .i64 a_3, .int .i64 a_4, .int .i64 a_5, .int .i64 a_6]), .val (.agg #[.int .i64 b_0, .int .i64 b_1, .int .i64 b_2, .int .i64 b_3, .int .i64 b_4, .int .i64 b_5, .int .i64 b_6])] = dedup_Table_Rows_1 a_0 a_1 a_2 a_3 a_4 a_5 a_6 b_0 b_1 b_2 b_3 b_4 b_5 b_6 := by kernel_rfl
theorem dedup_Table_Rows_1_calls (a_0 : Int) (a_1 : Int) (a_2 : Int) (a_3 : Int) (a_4 : Int) (a_5 : Int) (a_6 : Int) (b_0 : Int) (b_1 : Int) (b_2 : Int) (b_3 : Int) (b_4 : Int) (b_5 : Int) (b_6 : Int) {w : World} {R : List Value → World → Prop} (h : (dedup_Table_Rows_1 a_0 a_1 a_2 a_3 a_4 a_5 a_6 b_0 b_1 b_2 b_3 b_4 b_5 b_6).wp P (fun _ => True) w fun e vs w' => e = 0 ∧ R vs w') :
    Calls P F.dedup_Table_Rows_1 #[.agg #[.int .i64 a_0, .int .i64 a_1, .int .i64 a_2, .int .i64 a_3, .int .i64 a_4, .int .i64 a_5, .int .i64 a_6], .agg #[.int .i64 b_0, .int .i64 b_1, .int .i64 b_2, .int .i64 b_3, .int .i64 b_4, .int .i64 b_5, .int .i64 b_6]] w fun e w' => ∃ vs, e = .returned (pack vs) ∧ R vs w' :=
  decomp_sound (isFn_of Go.Proofs.Tryz.func36 (by kernel_rfl) (by kernel_rfl) (by kernel_rfl)) okFs_ok mix [.val (.agg #[.int .i64 a_0, .int .i64 a_1, .int .i64 a_2, .int .i64 a_3, .int .i64 a_4, .int .i64 a_5, .int .i64 a_6]), .val (.agg #[.int .i64 b_0, .int .i64 b_1, .int .i64 b_2, .int .i64 b_3, .int .i64 b_4, .int .i64 b_5, .int .i64 b_6])] (by rw [dedup_Table_Rows_1_eq]; exact h)

def cmp_Compare_int64 (x : Int) (y : Int) : Prog :=
.call F.cmp_isNaN_int64 [.int .i64 x] sB (u1 fun b0 =>
.lt (.bool) (b0) fun b1 =>
.call F.cmp_isNaN_int64 [.int .i64 y] sB (u1 fun b2 =>
.lt (.bool) (b2) fun b3 =>
.ite (b1) (
.ite (b3) (
.done 0 [.int .i64 0]) (
.done 0 [.int .i64 (-1)])) (
.ite (b3) (
.done 0 [.int .i64 1]) (
.ite (decide (x < y)) (
.done 0 [.int .i64 (-1)]) (
.ite (decide (x > y)) (
.done 0 [.int .i64 1]) (
.done 0 [.int .i64 0]))))))
theorem cmp_Compare_int64_eq (x : Int) (y : Int) : decomp P 20 ⟨okFs, []⟩ { cnd := [], blk := [], reg := [], lps := [] } [.tmp 4] (bodyOf Go.Proofs.Tryz.f37) [.val (.int .i64 x), .val (.int .i64 y)] = cmp_Compare_int64 x y := by kernel_rfl
theorem cmp_Compare_int64_calls (x : Int) (y : Int) {w : World} {R : List Value → World → Prop} (h : (cmp_Compare_int64 x y).wp P (fun _ => True) w fun e vs w' => e = 0 ∧ R vs w') :
    Calls P F.cmp_Compare_int64 #[.int .i64 x, .int .i64 y] w fun e w' => ∃ vs, e = .returned (pack vs) ∧ R vs w' :=
  decomp_sound (isFn_of Go.Proofs.Tryz.func37 (by kernel_rfl) (by kernel_rfl) (by kernel_rfl)) okFs_ok mix [.val (.int .i64 x), .val (.int .i64 y)] (by rw [cmp_Compare_int64_eq]; exact h)

def dedup_Row_open (r_0 : Int) (r_1 : Int) (r_2 : Int) (r_3 : Int) (r_4 : Int) (r_5 : Int) (r_6 : Int) : Prog :=
.act (Instr.box T.dedup_Row (.agg #[.int .i64 r_0, .int .i64 r_1, .int .i64 r_2, .int .i64 r_3, .int .i64 r_4, .int .i64 r_5, .int .i64 r_6])) sA (u1 fun a0 =>
.read True (ld T.int64 (Addr.add a0 5)) (sI .i64) (u1 fun (n1 : Int) =>
.lt (.bool) (decide (n1 ≥ 0)) fun b2 =>
.done 0 [.bool b2]))
theorem dedup_Row_open_eq (r_0 : Int) (r_1 : Int) (r_2 : Int) (r_3 : Int) (r_4 : Int) (r_5 : Int) (r_6 : Int) : decomp P 6 ⟨okFs, []⟩ { cnd := [], blk := [], reg := [], lps := [] } [.tmp 2] (bodyOf Go.Proofs.Tryz.f38) [.val (.agg #[.int .i64 r_0, .int .i64 r_1, .int .i64 r_2, .int .i64 r_3, .int .i64 r_4, .int .i64 r_5, .int .i64 r_6])] = dedup_Row_open r_0 r_1 r_2 r_3 r_4 r_5 r_6 := by kernel_rfl
theorem dedup_Row_open_calls (r_0 : Int) (r_1 : Int) (r_2 : Int) (r_3 : Int) (r_4 : Int) (r_5 : Int) (r_6 : Int) {w : World} {R : List Value → World → Prop} (h : (dedup_Row_open r_0 r_1 r_2 r_3 r_4 r_5 r_6).wp P (fun _ => True) w fun e vs w' => e = 0 ∧ R vs w') :
    Calls P F.dedup_Row_open #[.agg #[.int .i64 r_0, .int .i64 r_1, .int .i64 r_2, .int .i64 r_3, .int .i64 r_4, .int .i64 r_5, .int .i64 r_6]] w fun e w' => ∃ vs, e = .returned (pack vs) ∧ R vs w' :=
  decomp_sound (isFn_of Go.Proofs.Tryz.func38 (by kernel_rfl) (by kernel_rfl) (by kernel_rfl)) okFs_ok mix [.val (.agg #[.int .i64 r_0, .int .i64 r_1, .int .i64 r_2, .int .i64 r_3, .int .i64 r_4, .int .i64 r_5, .int .i64 r_6])] (by rw [dedup_Row_open_eq]; exact h)

def dedup_Table_Open_1 (a_0 : Int) (a_1 : Int) (a_2 : Int) (a_3 : Int) (a_4 : Int) (a_5 : Int) (a_6 : Int) (b_0 : Int) (b_1 : Int) (b_2 : Int) (b_3 : Int) (b_4 : Int) (b_5 : Int) (b_6 : Int) : Prog :=
.act (Instr.box T.dedup_Row (.agg #[.int .i64 a_0, .int .i64 a_1, .int .i64 a_2, .int .i64 a_3, .int .i64 a_4, .int .i64 a_5, .int .i64 a_6])) sA (u1 fun a0 =>
.act (Instr.box T.dedup_Row (.agg #[.int .i64 b_0, .int .i64 b_1, .int .i64 b_2, .int .i64 b_3, .int .i64 b_4, .int .i64 b_5, .int .i64 b_6])) sA (u1 fun a1 =>
.read True (ld T.int64 (Addr.add a0 5)) (sI .i64) (u1 fun (n2 : Int) =>
.read True (ld T.int64 (Addr.add a1 5)) (sI .i64) (u1 fun (n3 : Int) =>
.call F.cmp_Compare_int64 [.int .i64 n2, .int .i64 n3] (sI .i64) (u1 fun (n4 : Int) =>
.lt (.int .i64) (n4) fun (n5 : Int) =>
.done 0 [.int .i64 n5])))))
theorem dedup_Table_Open_1_eq (a_0 : Int) (a_1 : Int) (a_2 : Int) (a_3 : Int) (a_4 : Int) (a_5 : Int) (a_6 : Int) (b_0 : Int) (b_1 : Int) (b_2 : Int) (b_3 : Int) (b_4 : Int) (b_5 : Int) (b_6 : Int) : decomp P 10 ⟨okFs, []⟩ { cnd := [], blk := [], reg := [], lps := [] } [.tmp 4] (bodyOf Go.Proofs.Tryz.f39) [.val (.agg #[.int .i64 a_0, .int .i64 a_1, .int .i64 a_2, .int .i64 a_3, .int .i64 a_4, .int .i64 a_5, .int .i64 a_6]), .val (.agg #[.int .i64 b_0, .int .i64 b_1, .int .i64 b_2, .int .i64 b_3, .int .i64 b_4, .int .i64 b_5, .int .i64 b_6])] = dedup_Table_Open_1 a_0 a_1 a_2 a_3 a_4 a_5 a_6 b_0 b_1 b_2 b_3 b_4 b_5 b_6 := by kernel_rfl
theorem dedup_Table_Open_1_calls (a_0 : Int) (a_1 : Int) (a_2 : Int) (a_3 : Int) (a_4 : Int) (a_5 : Int) (a_6 : Int) (b_0 : Int) (b_1 : Int) (b_2 : Int) (b_3 : Int) (b_4 : Int) (b_5 : Int) (b_6 : Int) {w : World} {R : List Value → World → Prop} (h : (dedup_Table_Open_1 a_0 a_1 a_2 a_3 a_4 a_5 a_6 b_0 b_1 b_2 b_3 b_4 b_5 b_6).wp P (fun _ => True) w fun e vs w' => e = 0 ∧ R vs w') :
    Calls P F.dedup_Table_Open_1 #[.agg #[.int .i64 a_0, .int .i64 a_1, .int .i64 a_2, .int .i64 a_3, .int .i64 a_4, .int .i64 a_5, .int .i64 a_6], .agg #[.int .i64 b_0, .int .i64 b_1, .int .i64 b_2, .int .i64 b_3, .int .i64 b_4, .int .i64 b_5, .int .i64 b_6]] w fun e w' => ∃ vs, e = .returned (pack vs) ∧ R vs w' :=
  decomp_sound (isFn_of Go.Proofs.Tryz.func39 (by kernel_rfl) (by kernel_rfl) (by kernel_rfl)) okFs_ok mix [.val (.agg #[.int .i64 a_0, .int .i64 a_1, .int .i64 a_2, .int .i64 a_3, .int .i64 a_4, .int .i64 a_5, .int .i64 a_6]), .val (.agg #[.int .i64 b_0, .int .i64 b_1, .int .i64 b_2, .int .i64 b_3, .int .i64 b_4, .int .i64 b_5, .int .i64 b_6])] (by rw [dedup_Table_Open_1_eq]; exact h)

def rec_Next (b_0 : Int) (b_1 : Int) (b_2 : Int) (b_3 : Int) (b_4 : Int) (b_5 : Int) (b_6 : Sl) : Prog :=
.act (Instr.box T.api_Batch (.agg #[.int .i64 b_0, .int .i64 b_1, .int .i64 b_2, .int .i64 b_3, .int .i64 b_4, .int .i64 b_5, b_6.v])) sA (u1 fun a0 =>
.read True (ld T.api_Batch a0) (sG [.int .i64, .int .i64, .int .i64, .int .i64, .int .i64, .int .i64, .slc]) (u7 fun (n1 : Int) (n2 : Int) (n3 : Int) (n4 : Int) (n5 : Int) (n6 : Int) l7 =>
.call F.rec_Valid [.agg #[.int .i64 n1, .int .i64 n2, .int .i64 n3, .int .i64 n4, .int .i64 n5, .int .i64 n6, l7.v]] (sI .i64) (u1 fun (n8 : Int) =>
.ite (n8 != 0) (
.done 0 [.int .i64 0]) (
.tick <|
.hold True (ld T.int64 (Addr.add a0 0)) (sI .i64) (u1 fun (n9 : Int) =>
.read True (ld T.api_Batch a0) (sG [.int .i64, .int .i64, .int .i64, .int .i64, .int .i64, .int .i64, .slc]) (u7 fun (n10 : Int) (n11 : Int) (n12 : Int) (n13 : Int) (n14 : Int) (n15 : Int) l16 =>
.call F.rec_Span [.agg #[.int .i64 n10, .int .i64 n11, .int .i64 n12, .int .i64 n13, .int .i64 n14, .int .i64 n15, l16.v]] (sI .i64) (u1 fun (n17 : Int) =>
.lt (.int .i64) (IntKind.wrap .i64 (n9 + n17)) fun (n18 : Int) =>
.untick <|
.done 0 [.int .i64 n18])))))))
theorem rec_Next_eq (b_0 : Int) (b_1 : Int) (b_2 : Int) (b_3 : Int) (b_4 : Int) (b_5 : Int) (b_6 : Sl) : decomp P 11 ⟨okFs, []⟩ { cnd := [], blk := [], reg := [], lps := [] } [.tmp 2] (bodyOf Go.Proofs.Tryz.f48) [.val (.agg #[.int .i64 b_0, .int .i64 b_1, .int .i64 b_2, .int .i64 b_3, .int .i64 b_4, .int .i64 b_5, .slice b_6.a b_6.len b_6.cap])] = rec_Next b_0 b_1 b_2 b_3 b_4 b_5 b_6 := by kernel_rfl
theorem rec_Next_calls (b_0 : Int) (b_1 : Int) (b_2 : Int) (b_3 : Int) (b_4 : Int) (b_5 : Int) (b_6 : Sl) {w : World} {R : List Value → World → Prop} (h : (rec_Next b_0 b_1 b_2 b_3 b_4 b_5 b_6).wp P (fun _ => True) w fun e vs w' => e = 0 ∧ R vs w') :
    Calls P F.rec_Next #[.agg #[.int .i64 b_0, .int .i64 b_1, .int .i64 b_2, .int .i64 b_3, .int .i64 b_4, .int .i64 b_5, .slice b_6.a b_6.len b_6.cap]] w fun e w' => ∃ vs, e = .returned (pack vs) ∧ R vs w' :=
  decomp_sound (isFn_of Go.Proofs.Tryz.func48 (by kernel_rfl) (by kernel_rfl) (by kernel_rfl)) okFs_ok mix [.val (.agg #[.int .i64 b_0, .int .i64 b_1, .int .i64 b_2, .int .i64 b_3, .int .i64 b_4, .int .i64 b_5, .slice b_6.a b_6.len b_6.cap])] (by rw [rec_Next_eq]; exact h)

def dedup_Table_row (t : Option Addr) (pid : Int) : Prog :=
.act (new T.dedup_Row) sA (u1 fun a0 =>
.ex [.adr] (c1 fun a1 => t = some a1) (u1 fun a2 =>
.read True (ld T.m_int64_dedup_Row (Addr.add a2 2)) sM (u1 fun m3 =>
.read True (Instr.lookup T.m_int64_dedup_Row (.map m3) (.int .i64 pid) true) (.tup [.agg [.int .i64, .int .i64, .int .i64, .int .i64, .int .i64, .int .i64, .int .i64], .one .bool]) (u8 fun (n4 : Int) (n5 : Int) (n6 : Int) (n7 : Int) (n8 : Int) (n9 : Int) (n10 : Int) b11 =>
.act (new T.dedup_Row) sA (u1 fun a12 =>
.actU (st T.dedup_Row a12 (.agg #[.int .i64 n4, .int .i64 n5, .int .i64 n6, .int .i64 n7, .int .i64 n8, .int .i64 n9, .int .i64 n10])) <|
.lt (.bool) (b11) fun b13 =>
.ite (not b13) (
.actU (st T.dedup_Row a0 (.agg #[.int .i64 pid, .int .i64 (-1), .int .i64 0, .int .i64 0, .int .i64 0, .int .i64 (-1), .int .i64 0])) <|
.read True (ld T.dedup_Row a0) (sG [.int .i64, .int .i64, .int .i64, .int .i64, .int .i64, .int .i64, .int .i64]) (u7 fun (n14 : Int) (n15 : Int) (n16 : Int) (n17 : Int) (n18 : Int) (n19 : Int) (n20 : Int) =>
.done 0 [.agg #[.int .i64 n14, .int .i64 n15, .int .i64 n16, .int .i64 n17, .int .i64 n18, .int .i64 n19, .int .i64 n20], .bool false])) (
.read True (ld T.dedup_Row a12) (sG [.int .i64, .int .i64, .int .i64, .int .i64, .int .i64, .int .i64, .int .i64]) (u7 fun (n21 : Int) (n22 : Int) (n23 : Int) (n24 : Int) (n25 : Int) (n26 : Int) (n27 : Int) =>
.actU (st T.dedup_Row a0 (.agg #[.int .i64 n21, .int .i64 n22, .int .i64 n23, .int .i64 n24, .int .i64 n25, .int .i64 n26, .int .i64 n27])) <|
.read True (ld T.dedup_Row a0) (sG [.int .i64, .int .i64, .int .i64, .int .i64, .int .i64, .int .i64, .int .i64]) (u7 fun (n28 : Int) (n29 : Int) (n30 : Int) (n31 : Int) (n32 : Int) (n33 : Int) (n34 : Int) =>
.done 0 [.agg #[.int .i64 n28, .int .i64 n29, .int .i64 n30, .int .i64 n31, .int .i64 n32, .int .i64 n33, .int .i64 n34], .bool true]))))))))
theorem dedup_Table_row_eq (t : Option Addr) (pid : Int) : decomp P 22 ⟨okFs, []⟩ { cnd := [], blk := [], reg := [], lps := [] } [.cell 4 55, .tmp 5] (bodyOf Go.Proofs.Tryz.f49) [.val (.pointer t), .val (.int .i64 pid)] = dedup_Table_row t pid := by kernel_rfl
theorem dedup_Table_row_calls (t : Option Addr) (pid : Int) {w : World} {R : List Value → World → Prop} (h : (dedup_Table_row t pid).wp P (fun _ => True) w fun e vs w' => e = 0 ∧ R vs w') :
    Calls P F.dedup_Table_row #[.pointer t, .int .i64 pid] w fun e w' => ∃ vs, e = .returned (pack vs) ∧ R vs w' :=
  decomp_sound (isFn_of Go.Proofs.Tryz.func49 (by kernel_rfl) (by kernel_rfl) (by kernel_rfl)) okFs_ok mix [.val (.pointer t), .val (.int .i64 pid)] (by rw [dedup_Table_row_eq]; exact h)

def slices_Sort_s_int64_int64 (x : Sl) : Prog :=
.lt (.int .i64) (((x.len : Nat) : Int)) fun (n0 : Int) =>
.call F.math_bits_Len [.int .u64 (IntKind.wrap .u64 n0)] (sI .i64) (u1 fun (n1 : Int) =>
.call F.slices_pdqsortOrdered_int64 [x.v, .int .i64 0, .int .i64 n0, .int .i64 n1] (.tup []) (u0 <|
.done 0 []))
theorem slices_Sort_s_int64_int64_eq (x : Sl) : decomp P 11 ⟨okFs, []⟩ { cnd := [], blk := [], reg := [], lps := [] } [] (bodyOf Go.Proofs.Tryz.f54) [.val (.slice x.a x.len x.cap)] = slices_Sort_s_int64_int64 x := by kernel_rfl
theorem slices_Sort_s_int64_int64_calls (x : Sl) {w : World} {R : List Value → World → Prop} (h : (slices_Sort_s_int64_int64 x).wp P (fun _ => True) w fun e vs w' => e = 0 ∧ R vs w') :
    Calls P F.slices_Sort_s_int64_int64 #[.slice x.a x.len x.cap] w fun e w' => ∃ vs, e = .returned (pack vs) ∧ R vs w' :=
  decomp_sound (isFn_of Go.Proofs.Tryz.func54 (by kernel_rfl) (by kernel_rfl) (by kernel_rfl)) okFs_ok mix [.val (.slice x.a x.len x.cap)] (by rw [slices_Sort_s_int64_int64_eq]; exact h)

def rec_Valid (b_0 : Int) (b_1 : Int) (b_2 : Int) (b_3 : Int) (b_4 : Int) (b_5 : Int) (b_6 : Sl) : Prog :=
.act (Instr.box T.api_Batch (.agg #[.int .i64 b_0, .int .i64 b_1, .int .i64 b_2, .int .i64 b_3, .int .i64 b_4, .int .i64 b_5, b_6.v])) sA (u1 fun a0 =>
.bind 1 [.one .bool] (
.read True (ld T.api_Batch a0) (sG [.int .i64, .int .i64, .int .i64, .int .i64, .int .i64, .int .i64, .slc]) (u7 fun (n1 : Int) (n2 : Int) (n3 : Int) (n4 : Int) (n5 : Int) (n6 : Int) l7 =>
.call F.rec_numbers [.agg #[.int .i64 n1, .int .i64 n2, .int .i64 n3, .int .i64 n4, .int .i64 n5, .int .i64 n6, l7.v]] sB (u1 fun b8 =>
.read (not b8 = false) (ld T.api_Batch a0) (sG [.int .i64, .int .i64, .int .i64, .int .i64, .int .i64, .int .i64, .slc]) (u7 fun (n9 : Int) (n10 : Int) (n11 : Int) (n12 : Int) (n13 : Int) (n14 : Int) l15 =>
.ite (not b8) (
.done 1 [.bool true]) (
.call F.rec_fits [.agg #[.int .i64 n9, .int .i64 n10, .int .i64 n11, .int .i64 n12, .int .i64 n13, .int .i64 n14, l15.v]] sB (u1 fun b16 =>
.lt (.bool) (not b16) fun b17 =>
.done 1 [.bool b17])))))) (u1 fun b18 =>
.ite (b18) (
.done 0 [.int .i64 2]) (
.read True (ld T.s_api_Record (Addr.add a0 6)) sL (u1 fun l19 =>
.lt (.bool) (decide (((l19.len : Nat) : Int) > 64)) fun b20 =>
.ite (b20) (
.done 0 [.int .i64 7]) (
.read True (ld T.s_api_Record (Addr.add a0 6)) sL (u1 fun l21 =>
.bind 1 [] (
.loop 2 [.one (.int .i64)] (0, ()) (u1 fun (n22 : Int) =>
.ite (decide (n22 < ((l21.len : Nat) : Int))) (
.ex [.adr] (c1 fun a23 => 0 ≤ n22 ∧ n22 < ((l21.len : Nat) : Int) ∧ l21.a = some a23) (u1 fun a24 =>
.read True (ld T.api_Record (Addr.add a24 (Int.toNat n22 * 4))) (sG [.str, .str, .bool, .int .i64]) (u4 fun s25 s26 b27 (n28 : Int) =>
.act (new T.api_Record) sA (u1 fun a29 =>
.actU (st T.api_Record a29 (.agg #[.string s25, .string s26, .bool b27, .int .i64 n28])) <|
.read True (ld T.api_Record a29) (sG [.str, .str, .bool, .int .i64]) (u4 fun s30 s31 b32 (n33 : Int) =>
.call F.rec_record [.agg #[.string s30, .string s31, .bool b32, .int .i64 n33]] (sI .i64) (u1 fun (n34 : Int) =>
.lt (.int .i64) (n34) fun (n35 : Int) =>
.ite (n35 != 0) (
.lt (.int .i64) (n35) fun (n36 : Int) =>
.done 0 [.int .i64 n36]) (
.done 2 [.int .i64 (IntKind.wrap .i64 (n22 + 1))]))))))) (
.done 1 []))) (u0 <|
.read True (ld T.api_Batch a0) (sG [.int .i64, .int .i64, .int .i64, .int .i64, .int .i64, .int .i64, .slc]) (u7 fun (n37 : Int) (n38 : Int) (n39 : Int) (n40 : Int) (n41 : Int) (n42 : Int) l43 =>
.call F.rec_Span [.agg #[.int .i64 n37, .int .i64 n38, .int .i64 n39, .int .i64 n40, .int .i64 n41, .int .i64 n42, l43.v]] (sI .i64) (u1 fun (n44 : Int) =>
.lt (.int .i64) (IntKind.wrap .i64 (n44 - 1)) fun (n45 : Int) =>
.bind 1 [.one .bool] (
.read True (ld T.int64 (Addr.add a0 0)) (sI .i64) (u1 fun (n46 : Int) =>
.read (decide (n46 > IntKind.wrap .i64 (1099511627776 - n45)) = false) (ld T.int64 (Addr.add a0 1)) (sI .i64) (u1 fun (n47 : Int) =>
.read (decide (n46 > IntKind.wrap .i64 (1099511627776 - n45)) = false ∧ decide (n47 > 0) = true) (ld T.api_Batch a0) (sG [.int .i64, .int .i64, .int .i64, .int .i64, .int .i64, .int .i64, .slc]) (u7 fun (n48 : Int) (n49 : Int) (n50 : Int) (n51 : Int) (n52 : Int) (n53 : Int) l54 =>
.ite (decide (n46 > IntKind.wrap .i64 (1099511627776 - n45))) (
.done 1 [.bool true]) (
.ite (decide (n47 > 0)) (
.call F.rec_mark [.agg #[.int .i64 n48, .int .i64 n49, .int .i64 n50, .int .i64 n51, .int .i64 n52, .int .i64 n53, l54.v]] sB (u1 fun b55 =>
.read (not b55 = true) (ld T.int (Addr.add a0 3)) (sI .i64) (u1 fun (n56 : Int) =>
.done 1 [.bool (not b55 && decide (n56 > IntKind.wrap .i64 (2147483647 - n45)))]))) (
.done 1 [.bool false])))))) (u1 fun b57 =>
.ite (b57) (
.done 0 [.int .i64 24]) (
.done 0 [.int .i64 0])))))))))))
theorem rec_Valid_eq (b_0 : Int) (b_1 : Int) (b_2 : Int) (b_3 : Int) (b_4 : Int) (b_5 : Int) (b_6 : Sl) : decomp P 59 ⟨okFs, []⟩ { cnd := [], blk := [(1, [])], reg := [(1, [(7, .one .bool)]), (13, [(58, .one .bool)])], lps := [(1, [(24, .one (.int .i64))])] } [.tmp 2] (bodyOf Go.Proofs.Tryz.f62) [.val (.agg #[.int .i64 b_0, .int .i64 b_1, .int .i64 b_2, .int .i64 b_3, .int .i64 b_4, .int .i64 b_5, .slice b_6.a b_6.len b_6.cap])] = rec_Valid b_0 b_1 b_2 b_3 b_4 b_5 b_6 := by kernel_rfl
theorem rec_Valid_calls (b_0 : Int) (b_1 : Int) (b_2 : Int) (b_3 : Int) (b_4 : Int) (b_5 : Int) (b_6 : Sl) {w : World} {R : List Value → World → Prop} (h : (rec_Valid b_0 b_1 b_2 b_3 b_4 b_5 b_6).wp P (fun _ => True) w fun e vs w' => e = 0 ∧ R vs w') :
    Calls P F.rec_Valid #[.agg #[.int .i64 b_0, .int .i64 b_1, .int .i64 b_2, .int .i64 b_3, .int .i64 b_4, .int .i64 b_5, .slice b_6.a b_6.len b_6.cap]] w fun e w' => ∃ vs, e = .returned (pack vs) ∧ R vs w' :=
  decomp_sound (isFn_of Go.Proofs.Tryz.func62 (by kernel_rfl) (by kernel_rfl) (by kernel_rfl)) okFs_ok mix [.val (.agg #[.int .i64 b_0, .int .i64 b_1, .int .i64 b_2, .int .i64 b_3, .int .i64 b_4, .int .i64 b_5, .slice b_6.a b_6.len b_6.cap])] (by rw [rec_Valid_eq]; exact h)

def dedup_mark (b_0 : Int) (b_1 : Int) (b_2 : Int) (b_3 : Int) (b_4 : Int) (b_5 : Int) (b_6 : Sl) : Prog :=
.act (Instr.box T.api_Batch (.agg #[.int .i64 b_0, .int .i64 b_1, .int .i64 b_2, .int .i64 b_3, .int .i64 b_4, .int .i64 b_5, b_6.v])) sA (u1 fun a0 =>
.read True (ld T.int (Addr.add a0 4)) (sI .i64) (u1 fun (n1 : Int) =>
.read ((n1 == 2) = false) (ld T.int (Addr.add a0 4)) (sI .i64) (u1 fun (n2 : Int) =>
.lt (.bool) (n1 == 2 || n2 == 3) fun b3 =>
.done 0 [.bool b3])))
theorem dedup_mark_eq (b_0 : Int) (b_1 : Int) (b_2 : Int) (b_3 : Int) (b_4 : Int) (b_5 : Int) (b_6 : Sl) : decomp P 11 ⟨okFs, []⟩ { cnd := [], blk := [], reg := [], lps := [] } [.tmp 2] (bodyOf Go.Proofs.Tryz.f63) [.val (.agg #[.int .i64 b_0, .int .i64 b_1, .int .i64 b_2, .int .i64 b_3, .int .i64 b_4, .int .i64 b_5, .slice b_6.a b_6.len b_6.cap])] = dedup_mark b_0 b_1 b_2 b_3 b_4 b_5 b_6 := by kernel_rfl
theorem dedup_mark_calls (b_0 : Int) (b_1 : Int) (b_2 : Int) (b_3 : Int) (b_4 : Int) (b_5 : Int) (b_6 : Sl) {w : World} {R : List Value → World → Prop} (h : (dedup_mark b_0 b_1 b_2 b_3 b_4 b_5 b_6).wp P (fun _ => True) w fun e vs w' => e = 0 ∧ R vs w') :
    Calls P F.dedup_mark #[.agg #[.int .i64 b_0, .int .i64 b_1, .int .i64 b_2, .int .i64 b_3, .int .i64 b_4, .int .i64 b_5, .slice b_6.a b_6.len b_6.cap]] w fun e w' => ∃ vs, e = .returned (pack vs) ∧ R vs w' :=
  decomp_sound (isFn_of Go.Proofs.Tryz.func63 (by kernel_rfl) (by kernel_rfl) (by kernel_rfl)) okFs_ok mix [.val (.agg #[.int .i64 b_0, .int .i64 b_1, .int .i64 b_2, .int .i64 b_3, .int .i64 b_4, .int .i64 b_5, .slice b_6.a b_6.len b_6.cap])] (by rw [dedup_mark_eq]; exact h)

def dedup_again (r_0 : Int) (r_1 : Int) (r_2 : Int) (r_3 : Int) (r_4 : Int) (r_5 : Int) (r_6 : Int) (b_0 : Int) (b_1 : Int) (b_2 : Int) (b_3 : Int) (b_4 : Int) (b_5 : Int) (b_6 : Sl) : Prog :=
.act (Instr.box T.dedup_Row (.agg #[.int .i64 r_0, .int .i64 r_1, .int .i64 r_2, .int .i64 r_3, .int .i64 r_4, .int .i64 r_5, .int .i64 r_6])) sA (u1 fun a0 =>
.act (Instr.box T.api_Batch (.agg #[.int .i64 b_0, .int .i64 b_1, .int .i64 b_2, .int .i64 b_3, .int .i64 b_4, .int .i64 b_5, b_6.v])) sA (u1 fun a1 =>
.act (new T.dedup_Verdict) sA (u1 fun a2 =>
.bind 1 [.one .bool] (
.tick <|
.read True (ld T.int (Addr.add a1 2)) (sI .i64) (u1 fun (n3 : Int) =>
.read True (ld T.int (Addr.add a0 1)) (sI .i64) (u1 fun (n4 : Int) =>
.hold ((n3 != n4) = false) (ld T.int (Addr.add a1 3)) (sI .i64) (u1 fun (n5 : Int) =>
.hold ((n3 != n4) = false) (ld T.s_api_Record (Addr.add a1 6)) sL (u1 fun l6 =>
.read ((n3 != n4) = false) (ld T.dedup_Row a0) (sG [.int .i64, .int .i64, .int .i64, .int .i64, .int .i64, .int .i64, .int .i64]) (u7 fun (n7 : Int) (n8 : Int) (n9 : Int) (n10 : Int) (n11 : Int) (n12 : Int) (n13 : Int) =>
.ite (n3 != n4) (
.untick <|
.done 1 [.bool true]) (
.call F.dedup_Row_next [.agg #[.int .i64 n7, .int .i64 n8, .int .i64 n9, .int .i64 n10, .int .i64 n11, .int .i64 n12, .int .i64 n13]] (sI .i64) (u1 fun (n14 : Int) =>
.untick <|
.done 1 [.bool (decide (IntKind.wrap .i64 (n5 + ((l6.len : Nat) : Int)) > n14))])))))))) (u1 fun b15 =>
.ite (b15) (
.actU (st T.dedup_Verdict a2 (.agg #[.bool false, .int .i64 0])) <|
.read True (ld T.dedup_Verdict a2) (sG [.bool, .int .i64]) (u2 fun b16 (n17 : Int) =>
.done 0 [.agg #[.bool b16, .int .i64 n17], .bool false])) (
.read True (ld T.int (Addr.add a1 3)) (sI .i64) (u1 fun (n18 : Int) =>
.read True (ld T.int (Addr.add a0 2)) (sI .i64) (u1 fun (n19 : Int) =>
.read ((n18 == n19) = true) (ld T.s_api_Record (Addr.add a1 6)) sL (u1 fun l20 =>
.read ((n18 == n19) = true) (ld T.int (Addr.add a0 3)) (sI .i64) (u1 fun (n21 : Int) =>
.ite (n18 == n19 && ((l20.len : Nat) : Int) == n21) (
.read True (ld T.int64 (Addr.add a0 4)) (sI .i64) (u1 fun (n22 : Int) =>
.actU (st T.dedup_Verdict a2 (.agg #[.bool true, .int .i64 n22])) <|
.read True (ld T.dedup_Verdict a2) (sG [.bool, .int .i64]) (u2 fun b23 (n24 : Int) =>
.done 0 [.agg #[.bool b23, .int .i64 n24], .bool true]))) (
.actU (st T.dedup_Verdict a2 (.agg #[.bool true, .int .i64 (-1)])) <|
.read True (ld T.dedup_Verdict a2) (sG [.bool, .int .i64]) (u2 fun b25 (n26 : Int) =>
.done 0 [.agg #[.bool b25, .int .i64 n26], .bool true])))))))))))
theorem dedup_again_eq (r_0 : Int) (r_1 : Int) (r_2 : Int) (r_3 : Int) (r_4 : Int) (r_5 : Int) (r_6 : Int) (b_0 : Int) (b_1 : Int) (b_2 : Int) (b_3 : Int) (b_4 : Int) (b_5 : Int) (b_6 : Sl) : decomp P 40 ⟨okFs, []⟩ { cnd := [], blk := [], reg := [(1, [(21, .one .bool)])], lps := [] } [.cell 4 69, .tmp 5] (bodyOf Go.Proofs.Tryz.f64) [.val (.agg #[.int .i64 r_0, .int .i64 r_1, .int .i64 r_2, .int .i64 r_3, .int .i64 r_4, .int .i64 r_5, .int .i64 r_6]), .val (.agg #[.int .i64 b_0, .int .i64 b_1, .int .i64 b_2, .int .i64 b_3, .int .i64 b_4, .int .i64 b_5, .slice b_6.a b_6.len b_6.cap])] = dedup_again r_0 r_1 r_2 r_3 r_4 r_5 r_6 b_0 b_1 b_2 b_3 b_4 b_5 b_6 := by kernel_rfl
theorem dedup_again_calls (r_0 : Int) (r_1 : Int) (r_2 : Int) (r_3 : Int) (r_4 : Int) (r_5 : Int) (r_6 : Int) (b_0 : Int) (b_1 : Int) (b_2 : Int) (b_3 : Int) (b_4 : Int) (b_5 : Int) (b_6 : Sl) {w : World} {R : List Value → World → Prop} (h : (dedup_again r_0 r_1 r_2 r_3 r_4 r_5 r_6 b_0 b_1 b_2 b_3 b_4 b_5 b_6).wp P (fun _ => True) w fun e vs w' => e = 0 ∧ R vs w') :
    Calls P F.dedup_again #[.agg #[.int .i64 r_0, .int .i64 r_1, .int .i64 r_2, .int .i64 r_3, .int .i64 r_4, .int .i64 r_5, .int .i64 r_6], .agg #[.int .i64 b_0, .int .i64 b_1, .int .i64 b_2, .int .i64 b_3, .int .i64 b_4, .int .i64 b_5, .slice b_6.a b_6.len b_6.cap]] w fun e w' => ∃ vs, e = .returned (pack vs) ∧ R vs w' :=
  decomp_sound (isFn_of Go.Proofs.Tryz.func64 (by kernel_rfl) (by kernel_rfl) (by kernel_rfl)) okFs_ok mix [.val (.agg #[.int .i64 r_0, .int .i64 r_1, .int .i64 r_2, .int .i64 r_3, .int .i64 r_4, .int .i64 r_5, .int .i64 r_6]), .val (.agg #[.int .i64 b_0, .int .i64 b_1, .int .i64 b_2, .int .i64 b_3, .int .i64 b_4, .int .i64 b_5, .slice b_6.a b_6.len b_6.cap])] (by rw [dedup_again_eq]; exact h)

def dedup_Table_fresh (t : Option Addr) (r_0 : Int) (r_1 : Int) (r_2 : Int) (r_3 : Int) (r_4 : Int) (r_5 : Int) (r_6 : Int) (there : Bool) (b_0 : Int) (b_1 : Int) (b_2 : Int) (b_3 : Int) (b_4 : Int) (b_5 : Int) (b_6 : Sl) : Prog :=
.act (Instr.box T.dedup_Row (.agg #[.int .i64 r_0, .int .i64 r_1, .int .i64 r_2, .int .i64 r_3, .int .i64 r_4, .int .i64 r_5, .int .i64 r_6])) sA (u1 fun a0 =>
.act (Instr.box T.api_Batch (.agg #[.int .i64 b_0, .int .i64 b_1, .int .i64 b_2, .int .i64 b_3, .int .i64 b_4, .int .i64 b_5, b_6.v])) sA (u1 fun a1 =>
.read True (ld T.dedup_Row a0) (sG [.int .i64, .int .i64, .int .i64, .int .i64, .int .i64, .int .i64, .int .i64]) (u7 fun (n2 : Int) (n3 : Int) (n4 : Int) (n5 : Int) (n6 : Int) (n7 : Int) (n8 : Int) =>
.call F.dedup_Row_next [.agg #[.int .i64 n2, .int .i64 n3, .int .i64 n4, .int .i64 n5, .int .i64 n6, .int .i64 n7, .int .i64 n8]] (sI .i64) (u1 fun (n9 : Int) =>
.lt (.int .i64) (n9) fun (n10 : Int) =>
.read True (ld T.int (Addr.add a1 2)) (sI .i64) (u1 fun (n11 : Int) =>
.read True (ld T.int (Addr.add a0 1)) (sI .i64) (u1 fun (n12 : Int) =>
.bind 1 [.one (.int .i64)] (
.ite (decide (n11 > n12)) (
.done 1 [.int .i64 0]) (
.done 1 [.int .i64 n10])) (u1 fun (n13 : Int) =>
.read True (ld T.dedup_Row a0) (sG [.int .i64, .int .i64, .int .i64, .int .i64, .int .i64, .int .i64, .int .i64]) (u7 fun (n14 : Int) (n15 : Int) (n16 : Int) (n17 : Int) (n18 : Int) (n19 : Int) (n20 : Int) =>
.call F.dedup_Row_open [.agg #[.int .i64 n14, .int .i64 n15, .int .i64 n16, .int .i64 n17, .int .i64 n18, .int .i64 n19, .int .i64 n20]] sB (u1 fun b21 =>
.read (b21 = true) (ld T.int (Addr.add a1 2)) (sI .i64) (u1 fun (n22 : Int) =>
.read (b21 = true) (ld T.int (Addr.add a0 1)) (sI .i64) (u1 fun (n23 : Int) =>
.read (b21 = true ∧ decide (n22 > n23) = false) (ld T.int (Addr.add a1 4)) (sI .i64) (u1 fun (n24 : Int) =>
.lt (.bool) (b21 && (decide (n22 > n23) || n24 == 0)) fun b25 =>
.ite (b25) (
.done 0 [.int .i64 22]) (
.read True (ld T.api_Batch a1) (sG [.int .i64, .int .i64, .int .i64, .int .i64, .int .i64, .int .i64, .slc]) (u7 fun (n26 : Int) (n27 : Int) (n28 : Int) (n29 : Int) (n30 : Int) (n31 : Int) l32 =>
.call F.dedup_mark [.agg #[.int .i64 n26, .int .i64 n27, .int .i64 n28, .int .i64 n29, .int .i64 n30, .int .i64 n31, l32.v]] sB (u1 fun b33 =>
.read (not b33 = true) (ld T.int (Addr.add a1 3)) (sI .i64) (u1 fun (n34 : Int) =>
.lt (.bool) (not b33 && n34 != n13) fun b35 =>
.ite (b35) (
.done 0 [.int .i64 21]) (
.tick <|
.ex [.adr] (c1 fun a36 => not there = true → t = some a36) (u1 fun a37 =>
.read (not there = true) (ld T.m_int64_dedup_Row (Addr.add a37 2)) sM (u1 fun m38 =>
.read (not there = true) (Builtin.len_ #[T.m_int64_dedup_Row] T.int #[.map m38]) (sI .i64) (u1 fun (n39 : Int) =>
.ex [.adr] (c1 fun a40 => not there = true → t = some a40) (u1 fun a41 =>
.read (not there = true) (ld T.int (Addr.add a41 0)) (sI .i64) (u1 fun (n42 : Int) =>
.lt (.bool) (not there && decide (n39 ≥ n42)) fun b43 =>
.untick <|
.ite (b43) (
.done 0 [.int .i64 5]) (
.done 0 [.int .i64 0])))))))))))))))))))))))
theorem dedup_Table_fresh_eq (t : Option Addr) (r_0 : Int) (r_1 : Int) (r_2 : Int) (r_3 : Int) (r_4 : Int) (r_5 : Int) (r_6 : Int) (there : Bool) (b_0 : Int) (b_1 : Int) (b_2 : Int) (b_3 : Int) (b_4 : Int) (b_5 : Int) (b_6 : Sl) : decomp P 57 ⟨okFs, []⟩ { cnd := [(2097168, [(9, .one (.int .i64))])], blk := [], reg := [], lps := [] } [.tmp 8] (bodyOf Go.Proofs.Tryz.f65) [.val (.pointer t), .val (.agg #[.int .i64 r_0, .int .i64 r_1, .int .i64 r_2, .int .i64 r_3, .int .i64 r_4, .int .i64 r_5, .int .i64 r_6]), .val (.bool there), .val (.agg #[.int .i64 b_0, .int .i64 b_1, .int .i64 b_2, .int .i64 b_3, .int .i64 b_4, .int .i64 b_5, .slice b_6.a b_6.len b_6.cap])] = dedup_Table_fresh t r_0 r_1 r_2 r_3 r_4 r_5 r_6 there b_0 b_1 b_2 b_3 b_4 b_5 b_6 := by kernel_rfl
theorem dedup_Table_fresh_calls (t : Option Addr) (r_0 : Int) (r_1 : Int) (r_2 : Int) (r_3 : Int) (r_4 : Int) (r_5 : Int) (r_6 : Int) (there : Bool) (b_0 : Int) (b_1 : Int) (b_2 : Int) (b_3 : Int) (b_4 : Int) (b_5 : Int) (b_6 : Sl) {w : World} {R : List Value → World → Prop} (h : (dedup_Table_fresh t r_0 r_1 r_2 r_3 r_4 r_5 r_6 there b_0 b_1 b_2 b_3 b_4 b_5 b_6).wp P (fun _ => True) w fun e vs w' => e = 0 ∧ R vs w') :
    Calls P F.dedup_Table_fresh #[.pointer t, .agg #[.int .i64 r_0, .int .i64 r_1, .int .i64 r_2, .int .i64 r_3, .int .i64 r_4, .int .i64 r_5, .int .i64 r_6], .bool there, .agg #[.int .i64 b_0, .int .i64 b_1, .int .i64 b_2, .int .i64 b_3, .int .i64 b_4, .int .i64 b_5, .slice b_6.a b_6.len b_6.cap]] w fun e w' => ∃ vs, e = .returned (pack vs) ∧ R vs w' :=
  decomp_sound (isFn_of Go.Proofs.Tryz.func65 (by kernel_rfl) (by kernel_rfl) (by kernel_rfl)) okFs_ok mix [.val (.pointer t), .val (.agg #[.int .i64 r_0, .int .i64 r_1, .int .i64 r_2, .int .i64 r_3, .int .i64 r_4, .int .i64 r_5, .int .i64 r_6]), .val (.bool there), .val (.agg #[.int .i64 b_0, .int .i64 b_1, .int .i64 b_2, .int .i64 b_3, .int .i64 b_4, .int .i64 b_5, .slice b_6.a b_6.len b_6.cap])] (by rw [dedup_Table_fresh_eq]; exact h)

def maps_Values_map_int64_dedup_Row_int64_dedup_Row_1 (yield : Value) (fv0 : Option Addr) : Prog :=
.read True (Instr.loadAt T.m_int64_dedup_Row (.pointer fv0)) sM (u1 fun m0 =>
.act (Instr.range T.m_int64_dedup_Row (.map m0)) sA (u1 fun a1 =>
.bind 1 [] (
.loop 2 [] () (u0 <|
.next (Instr.next (.pointer (some a1)) false T.unit) ([.one (.int .i64), .agg [.int .i64, .int .i64, .int .i64, .int .i64, .int .i64, .int .i64, .int .i64]]) (u8 fun (n2 : Int) (n3 : Int) (n4 : Int) (n5 : Int) (n6 : Int) (n7 : Int) (n8 : Int) (n9 : Int) =>
.act (Instr.entry (.pointer (some a1))) (.tup [.one (.int .i64), .agg [.int .i64, .int .i64, .int .i64, .int .i64, .int .i64, .int .i64, .int .i64]]) (u8 fun (n10 : Int) (n11 : Int) (n12 : Int) (n13 : Int) (n14 : Int) (n15 : Int) (n16 : Int) (n17 : Int) =>
.act (new T.dedup_Row) sA (u1 fun a18 =>
.actU (st T.dedup_Row a18 (.agg #[.int .i64 n11, .int .i64 n12, .int .i64 n13, .int .i64 n14, .int .i64 n15, .int .i64 n16, .int .i64 n17])) <|
.read True (ld T.dedup_Row a18) (sG [.int .i64, .int .i64, .int .i64, .int .i64, .int .i64, .int .i64, .int .i64]) (u7 fun (n19 : Int) (n20 : Int) (n21 : Int) (n22 : Int) (n23 : Int) (n24 : Int) (n25 : Int) =>
.callv (yield) [.agg #[.int .i64 n19, .int .i64 n20, .int .i64 n21, .int .i64 n22, .int .i64 n23, .int .i64 n24, .int .i64 n25]] sB (u1 fun b26 =>
.ite (not b26) (
.done 0 []) (
.done 2 [])))))) (
.done 1 []))) (u0 <|
.done 0 [])))
theorem maps_Values_map_int64_dedup_Row_int64_dedup_Row_1_eq (yield : Value) (fv0 : Option Addr) : decomp P 15 ⟨okFs, [(7, [.one (.int .i64), .agg [.int .i64, .int .i64, .int .i64, .int .i64, .int .i64, .int .i64, .int .i64]]), (9, [.one (.int .i64), .agg [.int .i64, .int .i64, .int .i64, .int .i64, .int .i64, .int .i64, .int .i64]])]⟩ { cnd := [], blk := [(0, [])], reg := [], lps := [(0, [])] } [] (bodyOf Go.Proofs.Tryz.f68) [.any yield, .val (.pointer fv0)] = maps_Values_map_int64_dedup_Row_int64_dedup_Row_1 yield fv0 := by kernel_rfl
theorem maps_Values_map_int64_dedup_Row_int64_dedup_Row_1_calls (yield : Value) (fv0 : Option Addr) {w : World} {R : List Value → World → Prop} (h : (maps_Values_map_int64_dedup_Row_int64_dedup_Row_1 yield fv0).wp P (fun _ => True) w fun e vs w' => e = 0 ∧ R vs w') :
    Calls P F.maps_Values_map_int64_dedup_Row_int64_dedup_Row_1 #[yield, .pointer fv0] w fun e w' => ∃ vs, e = .returned (pack vs) ∧ R vs w' :=
  decomp_sound (isFn_of Go.Proofs.Tryz.func68 (by kernel_rfl) (by kernel_rfl) (by kernel_rfl)) okFs_ok mix [.any yield, .val (.pointer fv0)] (by rw [maps_Values_map_int64_dedup_Row_int64_dedup_Row_1_eq]; exact h)

def slices_pdqsortCmpFunc_dedup_Row (data : Sl) (a : Int) (b : Int) (limit : Int) (cmp : Value) : Prog :=
.loop 1 [.one (.int .i64), .one (.int .i64), .one (.int .i64), .one .bool, .one .bool] (a, (b, (limit, (true, (true, ()))))) (u5 fun (n0 : Int) (n1 : Int) (n2 : Int) b3 b4 =>
.bind 2 [.one (.int .i64), .one (.int .i64), .one (.int .i64), .one .bool, .one .bool] (
.lt (.int .i64) (IntKind.wrap .i64 (n1 - n0)) fun (n5 : Int) =>
.ite (decide (n5 ≤ 12)) (
.call F.slices_insertionSortCmpFunc_dedup_Row [data.v, .int .i64 n0, .int .i64 n1, cmp] (.tup []) (u0 <|
.done 0 [])) (
.ite (n2 == 0) (
.call F.slices_heapSortCmpFunc_dedup_Row [data.v, .int .i64 n0, .int .i64 n1, cmp] (.tup []) (u0 <|
.done 0 [])) (
.bind 3 [.one (.int .i64)] (
.ite (not b3) (
.call F.slices_breakPatternsCmpFunc_dedup_Row [data.v, .int .i64 n0, .int .i64 n1, cmp] (.tup []) (u0 <|
.lt (.int .i64) (IntKind.wrap .i64 (n2 - 1)) fun (n6 : Int) =>
.done 3 [.int .i64 n6])) (
.done 3 [.int .i64 n2])) (u1 fun (n7 : Int) =>
.call F.slices_choosePivotCmpFunc_dedup_Row [data.v, .int .i64 n0, .int .i64 n1, cmp] (.tup [.one (.int .i64), .one (.int .i64)]) (u2 fun (n8 : Int) (n9 : Int) =>
.lt (.int .i64) (n8) fun (n10 : Int) =>
.lt (.int .i64) (n9) fun (n11 : Int) =>
.bind 3 [.one (.int .i64), .one (.int .i64)] (
.ite (n11 == 2) (
.call F.slices_reverseRangeCmpFunc_dedup_Row [data.v, .int .i64 n0, .int .i64 n1, cmp] (.tup []) (u0 <|
.lt (.int .i64) (IntKind.wrap .i64 (IntKind.wrap .i64 (n1 - 1) - IntKind.wrap .i64 (n10 - n0))) fun (n12 : Int) =>
.done 3 [.int .i64 n12, .int .i64 1])) (
.done 3 [.int .i64 n10, .int .i64 n11])) (u2 fun (n13 : Int) (n14 : Int) =>
.bind 3 [] (
.ite (b3 && b4 && n14 == 1) (
.call F.slices_partialInsertionSortCmpFunc_dedup_Row [data.v, .int .i64 n0, .int .i64 n1, cmp] sB (u1 fun b15 =>
.ite (b15) (
.done 0 []) (
.done 3 []))) (
.done 3 [])) (u0 <|
.bind 3 [.one .bool] (
.tick <|
.ex [.adr] (c1 fun a16 => decide (n0 > 0) = true → 0 ≤ IntKind.wrap .i64 (n0 - 1) ∧ IntKind.wrap .i64 (n0 - 1) < ((data.len : Nat) : Int) ∧ data.a = some a16) (u1 fun a17 =>
.read (decide (n0 > 0) = true) (ld T.dedup_Row (Addr.add a17 (Int.toNat (IntKind.wrap .i64 (n0 - 1)) * 7))) (sG [.int .i64, .int .i64, .int .i64, .int .i64, .int .i64, .int .i64, .int .i64]) (u7 fun (n18 : Int) (n19 : Int) (n20 : Int) (n21 : Int) (n22 : Int) (n23 : Int) (n24 : Int) =>
.ex [.adr] (c1 fun a25 => decide (n0 > 0) = true → 0 ≤ n13 ∧ n13 < ((data.len : Nat) : Int) ∧ data.a = some a25) (u1 fun a26 =>
.read (decide (n0 > 0) = true) (ld T.dedup_Row (Addr.add a26 (Int.toNat n13 * 7))) (sG [.int .i64, .int .i64, .int .i64, .int .i64, .int .i64, .int .i64, .int .i64]) (u7 fun (n27 : Int) (n28 : Int) (n29 : Int) (n30 : Int) (n31 : Int) (n32 : Int) (n33 : Int) =>
.ite (decide (n0 > 0)) (
.callv (cmp) [.agg #[.int .i64 n18, .int .i64 n19, .int .i64 n20, .int .i64 n21, .int .i64 n22, .int .i64 n23, .int .i64 n24], .agg #[.int .i64 n27, .int .i64 n28, .int .i64 n29, .int .i64 n30, .int .i64 n31, .int .i64 n32, .int .i64 n33]] (sI .i64) (u1 fun (n34 : Int) =>
.untick <|
.done 3 [.bool (not (decide (n34 < 0)))])) (
.untick <|
.done 3 [.bool false])))))) (u1 fun b35 =>
.ite (b35) (
.call F.slices_partitionEqualCmpFunc_dedup_Row [data.v, .int .i64 n0, .int .i64 n1, .int .i64 n13, cmp] (sI .i64) (u1 fun (n36 : Int) =>
.lt (.int .i64) (n36) fun (n37 : Int) =>
.lt (.int .i64) (n37) fun (n38 : Int) =>
.done 2 [.int .i64 n38, .int .i64 n1, .int .i64 n7, .bool b3, .bool b4])) (
.call F.slices_partitionCmpFunc_dedup_Row [data.v, .int .i64 n0, .int .i64 n1, .int .i64 n13, cmp] (.tup [.one (.int .i64), .one .bool]) (u2 fun (n39 : Int) b40 =>
.lt (.int .i64) (n39) fun (n41 : Int) =>
.lt (.bool) (b40) fun b42 =>
.lt (.bool) (b42) fun b43 =>
.lt (.int .i64) (IntKind.wrap .i64 (n41 - n0)) fun (n44 : Int) =>
.lt (.int .i64) (IntKind.wrap .i64 (n1 - n41)) fun (n45 : Int) =>
.lt (.int .i64) (IntKind.wrap .i64 (Int.tdiv n5 8)) fun (n46 : Int) =>
.bind 3 [.one (.int .i64), .one (.int .i64), .one .bool] (
.ite (decide (n44 < n45)) (
.lt (.bool) (decide (n44 ≥ n46)) fun b47 =>
.call F.slices_pdqsortCmpFunc_dedup_Row [data.v, .int .i64 n0, .int .i64 n41, .int .i64 n7, cmp] (.tup []) (u0 <|
.lt (.int .i64) (IntKind.wrap .i64 (n41 + 1)) fun (n48 : Int) =>
.done 3 [.int .i64 n48, .int .i64 n1, .bool b47])) (
.lt (.bool) (decide (n45 ≥ n46)) fun b49 =>
.call F.slices_pdqsortCmpFunc_dedup_Row [data.v, .int .i64 (IntKind.wrap .i64 (n41 + 1)), .int .i64 n1, .int .i64 n7, cmp] (.tup []) (u0 <|
.lt (.int .i64) (n41) fun (n50 : Int) =>
.done 3 [.int .i64 n0, .int .i64 n50, .bool b49]))) (u3 fun (n51 : Int) (n52 : Int) b53 =>
.done 2 [.int .i64 n51, .int .i64 n52, .int .i64 n7, .bool b53, .bool b43]))))))))))) (u5 fun (n54 : Int) (n55 : Int) (n56 : Int) b57 b58 =>
.done 1 [.int .i64 n54, .int .i64 n55, .int .i64 n56, .bool b57, .bool b58]))
theorem slices_pdqsortCmpFunc_dedup_Row_eq (data : Sl) (a : Int) (b : Int) (limit : Int) (cmp : Value) : decomp P 148 ⟨okFs, []⟩ { cnd := [(571957152676085799, [(3, .one (.int .i64))]), (1208335523804270569717816, [(13, .one (.int .i64)), (14, .one (.int .i64))]), (9594035304461697130468212811, []), (1461501288881759191162698246220685009525288231037, [(1, .one (.int .i64)), (2, .one (.int .i64)), (10, .one .bool)])], blk := [(1, [(1, .one (.int .i64)), (2, .one (.int .i64)), (3, .one (.int .i64)), (10, .one .bool), (11, .one .bool)])], reg := [(17, [(97, .one .bool)])], lps := [(0, [(1, .one (.int .i64)), (2, .one (.int .i64)), (3, .one (.int .i64)), (10, .one .bool), (11, .one .bool)])] } [] (bodyOf Go.Proofs.Tryz.f69) [.val (.slice data.a data.len data.cap), .val (.int .i64 a), .val (.int .i64 b), .val (.int .i64 limit), .any cmp] = slices_pdqsortCmpFunc_dedup_Row data a b limit cmp := by kernel_rfl
theorem slices_pdqsortCmpFunc_dedup_Row_calls (data : Sl) (a : Int) (b : Int) (limit : Int) (cmp : Value) {w : World} {R : List Value → World → Prop} (h : (slices_pdqsortCmpFunc_dedup_Row data a b limit cmp).wp P (fun _ => True) w fun e vs w' => e = 0 ∧ R vs w') :
    Calls P F.slices_pdqsortCmpFunc_dedup_Row #[.slice data.a data.len data.cap, .int .i64 a, .int .i64 b, .int .i64 limit, cmp] w fun e w' => ∃ vs, e = .returned (pack vs) ∧ R vs w' :=
  decomp_sound (isFn_of Go.Proofs.Tryz.func69 (by kernel_rfl) (by kernel_rfl) (by kernel_rfl)) okFs_ok mix [.val (.slice data.a data.len data.cap), .val (.int .i64 a), .val (.int .i64 b), .val (.int .i64 limit), .any cmp] (by rw [slices_pdqsortCmpFunc_dedup_Row_eq]; exact h)

def math_bits_Len (x : Int) : Prog :=
.call F.math_bits_Len64 [.int .u64 x] (sI .i64) (u1 fun (n0 : Int) =>
.lt (.int .i64) (n0) fun (n1 : Int) =>
.done 0 [.int .i64 n1])
theorem math_bits_Len_eq (x : Int) : decomp P 8 ⟨okFs, []⟩ { cnd := [], blk := [], reg := [], lps := [] } [.tmp 2] (bodyOf Go.Proofs.Tryz.f70) [.val (.int .u64 x)] = math_bits_Len x := by kernel_rfl
theorem math_bits_Len_calls (x : Int) {w : World} {R : List Value → World → Prop} (h : (math_bits_Len x).wp P (fun _ => True) w fun e vs w' => e = 0 ∧ R vs w') :
    Calls P F.math_bits_Len #[.int .u64 x] w fun e w' => ∃ vs, e = .returned (pack vs) ∧ R vs w' :=
  decomp_sound (isFn_of Go.Proofs.Tryz.func70 (by kernel_rfl) (by kernel_rfl) (by kernel_rfl)) okFs_ok mix [.val (.int .u64 x)] (by rw [math_bits_Len_eq]; exact h)

def cmp_isNaN_int64 (x : Int) : Prog :=
.lt (.bool) (x != x) fun b0 =>
.done 0 [.bool b0]
theorem cmp_isNaN_int64_eq (x : Int) : decomp P 6 ⟨okFs, []⟩ { cnd := [], blk := [], reg := [], lps := [] } [.tmp 2] (bodyOf Go.Proofs.Tryz.f71) [.val (.int .i64 x)] = cmp_isNaN_int64 x := by kernel_rfl
theorem cmp_isNaN_int64_calls (x : Int) {w : World} {R : List Value → World → Prop} (h : (cmp_isNaN_int64 x).wp P (fun _ => True) w fun e vs w' => e = 0 ∧ R vs w') :
    Calls P F.cmp_isNaN_int64 #[.int .i64 x] w fun e w' => ∃ vs, e = .returned (pack vs) ∧ R vs w' :=
  decomp_sound (isFn_of Go.Proofs.Tryz.func71 (by kernel_rfl) (by kernel_rfl) (by kernel_rfl)) okFs_ok mix [.val (.int .i64 x)] (by rw [cmp_isNaN_int64_eq]; exact h)

def rec_Span (b_0 : Int) (b_1 : Int) (b_2 : Int) (b_3 : Int) (b_4 : Int) (b_5 : Int) (b_6 : Sl) : Prog :=
.act (Instr.box T.api_Batch (.agg #[.int .i64 b_0, .int .i64 b_1, .int .i64 b_2, .int .i64 b_3, .int .i64 b_4, .int .i64 b_5, b_6.v])) sA (u1 fun a0 =>
.read True (ld T.api_Batch a0) (sG [.int .i64, .int .i64, .int .i64, .int .i64, .int .i64, .int .i64, .slc]) (u7 fun (n1 : Int) (n2 : Int) (n3 : Int) (n4 : Int) (n5 : Int) (n6 : Int) l7 =>
.call F.rec_mark [.agg #[.int .i64 n1, .int .i64 n2, .int .i64 n3, .int .i64 n4, .int .i64 n5, .int .i64 n6, l7.v]] sB (u1 fun b8 =>
.ite (b8) (
.done 0 [.int .i64 1]) (
.read True (ld T.s_api_Record (Addr.add a0 6)) sL (u1 fun l9 =>
.lt (.int .i64) (((l9.len : Nat) : Int)) fun (n10 : Int) =>
.done 0 [.int .i64 n10])))))
theorem rec_Span_eq (b_0 : Int) (b_1 : Int) (b_2 : Int) (b_3 : Int) (b_4 : Int) (b_5 : Int) (b_6 : Sl) : decomp P 8 ⟨okFs, []⟩ { cnd := [], blk := [], reg := [], lps := [] } [.tmp 2] (bodyOf Go.Proofs.Tryz.f77) [.val (.agg #[.int .i64 b_0, .int .i64 b_1, .int .i64 b_2, .int .i64 b_3, .int .i64 b_4, .int .i64 b_5, .slice b_6.a b_6.len b_6.cap])] = rec_Span b_0 b_1 b_2 b_3 b_4 b_5 b_6 := by kernel_rfl
theorem rec_Span_calls (b_0 : Int) (b_1 : Int) (b_2 : Int) (b_3 : Int) (b_4 : Int) (b_5 : Int) (b_6 : Sl) {w : World} {R : List Value → World → Prop} (h : (rec_Span b_0 b_1 b_2 b_3 b_4 b_5 b_6).wp P (fun _ => True) w fun e vs w' => e = 0 ∧ R vs w') :
    Calls P F.rec_Span #[.agg #[.int .i64 b_0, .int .i64 b_1, .int .i64 b_2, .int .i64 b_3, .int .i64 b_4, .int .i64 b_5, .slice b_6.a b_6.len b_6.cap]] w fun e w' => ∃ vs, e = .returned (pack vs) ∧ R vs w' :=
  decomp_sound (isFn_of Go.Proofs.Tryz.func77 (by kernel_rfl) (by kernel_rfl) (by kernel_rfl)) okFs_ok mix [.val (.agg #[.int .i64 b_0, .int .i64 b_1, .int .i64 b_2, .int .i64 b_3, .int .i64 b_4, .int .i64 b_5, .slice b_6.a b_6.len b_6.cap])] (by rw [rec_Span_eq]; exact h)

def slices_pdqsortOrdered_int64 (data : Sl) (a : Int) (b : Int) (limit : Int) : Prog :=
.loop 1 [.one (.int .i64), .one (.int .i64), .one (.int .i64), .one .bool, .one .bool] (a, (b, (limit, (true, (true, ()))))) (u5 fun (n0 : Int) (n1 : Int) (n2 : Int) b3 b4 =>
.bind 2 [.one (.int .i64), .one (.int .i64), .one (.int .i64), .one .bool, .one .bool] (
.lt (.int .i64) (IntKind.wrap .i64 (n1 - n0)) fun (n5 : Int) =>
.ite (decide (n5 ≤ 12)) (
.call F.slices_insertionSortOrdered_int64 [data.v, .int .i64 n0, .int .i64 n1] (.tup []) (u0 <|
.done 0 [])) (
.ite (n2 == 0) (
.call F.slices_heapSortOrdered_int64 [data.v, .int .i64 n0, .int .i64 n1] (.tup []) (u0 <|
.done 0 [])) (
.bind 3 [.one (.int .i64)] (
.ite (not b3) (
.call F.slices_breakPatternsOrdered_int64 [data.v, .int .i64 n0, .int .i64 n1] (.tup []) (u0 <|
.lt (.int .i64) (IntKind.wrap .i64 (n2 - 1)) fun (n6 : Int) =>
.done 3 [.int .i64 n6])) (
.done 3 [.int .i64 n2])) (u1 fun (n7 : Int) =>
.call F.slices_choosePivotOrdered_int64 [data.v, .int .i64 n0, .int .i64 n1] (.tup [.one (.int .i64), .one (.int .i64)]) (u2 fun (n8 : Int) (n9 : Int) =>
.lt (.int .i64) (n8) fun (n10 : Int) =>
.lt (.int .i64) (n9) fun (n11 : Int) =>
.bind 3 [.one (.int .i64), .one (.int .i64)] (
.ite (n11 == 2) (
.call F.slices_reverseRangeOrdered_int64 [data.v, .int .i64 n0, .int .i64 n1] (.tup []) (u0 <|
.lt (.int .i64) (IntKind.wrap .i64 (IntKind.wrap .i64 (n1 - 1) - IntKind.wrap .i64 (n10 - n0))) fun (n12 : Int) =>
.done 3 [.int .i64 n12, .int .i64 1])) (
.done 3 [.int .i64 n10, .int .i64 n11])) (u2 fun (n13 : Int) (n14 : Int) =>
.bind 3 [] (
.ite (b3 && b4 && n14 == 1) (
.call F.slices_partialInsertionSortOrdered_int64 [data.v, .int .i64 n0, .int .i64 n1] sB (u1 fun b15 =>
.ite (b15) (
.done 0 []) (
.done 3 []))) (
.done 3 [])) (u0 <|
.bind 3 [.one .bool] (
.tick <|
.ex [.adr] (c1 fun a16 => decide (n0 > 0) = true → 0 ≤ IntKind.wrap .i64 (n0 - 1) ∧ IntKind.wrap .i64 (n0 - 1) < ((data.len : Nat) : Int) ∧ data.a = some a16) (u1 fun a17 =>
.read (decide (n0 > 0) = true) (ld T.int64 (Addr.add a17 (Int.toNat (IntKind.wrap .i64 (n0 - 1)) * 1))) (sI .i64) (u1 fun (n18 : Int) =>
.ex [.adr] (c1 fun a19 => decide (n0 > 0) = true → 0 ≤ n13 ∧ n13 < ((data.len : Nat) : Int) ∧ data.a = some a19) (u1 fun a20 =>
.read (decide (n0 > 0) = true) (ld T.int64 (Addr.add a20 (Int.toNat n13 * 1))) (sI .i64) (u1 fun (n21 : Int) =>
.ite (decide (n0 > 0)) (
.call F.cmp_Less_int64 [.int .i64 n18, .int .i64 n21] sB (u1 fun b22 =>
.untick <|
.done 3 [.bool (not b22)])) (
.untick <|
.done 3 [.bool false])))))) (u1 fun b23 =>
.ite (b23) (
.call F.slices_partitionEqualOrdered_int64 [data.v, .int .i64 n0, .int .i64 n1, .int .i64 n13] (sI .i64) (u1 fun (n24 : Int) =>
.lt (.int .i64) (n24) fun (n25 : Int) =>
.lt (.int .i64) (n25) fun (n26 : Int) =>
.done 2 [.int .i64 n26, .int .i64 n1, .int .i64 n7, .bool b3, .bool b4])) (
.call F.slices_partitionOrdered_int64 [data.v, .int .i64 n0, .int .i64 n1, .int .i64 n13] (.tup [.one (.int .i64), .one .bool]) (u2 fun (n27 : Int) b28 =>
.lt (.int .i64) (n27) fun (n29 : Int) =>
.lt (.bool) (b28) fun b30 =>
.lt (.bool) (b30) fun b31 =>
.lt (.int .i64) (IntKind.wrap .i64 (n29 - n0)) fun (n32 : Int) =>
.lt (.int .i64) (IntKind.wrap .i64 (n1 - n29)) fun (n33 : Int) =>
.lt (.int .i64) (IntKind.wrap .i64 (Int.tdiv n5 8)) fun (n34 : Int) =>
.bind 3 [.one (.int .i64), .one (.int .i64), .one .bool] (
.ite (decide (n32 < n33)) (
.lt (.bool) (decide (n32 ≥ n34)) fun b35 =>
.call F.slices_pdqsortOrdered_int64 [data.v, .int .i64 n0, .int .i64 n29, .int .i64 n7] (.tup []) (u0 <|
.lt (.int .i64) (IntKind.wrap .i64 (n29 + 1)) fun (n36 : Int) =>
.done 3 [.int .i64 n36, .int .i64 n1, .bool b35])) (
.lt (.bool) (decide (n33 ≥ n34)) fun b37 =>
.call F.slices_pdqsortOrdered_int64 [data.v, .int .i64 (IntKind.wrap .i64 (n29 + 1)), .int .i64 n1, .int .i64 n7] (.tup []) (u0 <|
.lt (.int .i64) (n29) fun (n38 : Int) =>
.done 3 [.int .i64 n0, .int .i64 n38, .bool b37]))) (u3 fun (n39 : Int) (n40 : Int) b41 =>
.done 2 [.int .i64 n39, .int .i64 n40, .int .i64 n7, .bool b41, .bool b31]))))))))))) (u5 fun (n42 : Int) (n43 : Int) (n44 : Int) b45 b46 =>
.done 1 [.int .i64 n42, .int .i64 n43, .int .i64 n44, .bool b45, .bool b46]))
theorem slices_pdqsortOrdered_int64_eq (data : Sl) (a : Int) (b : Int) (limit : Int) : decomp P 134 ⟨okFs, []⟩ { cnd := [(17732923532804131, [(3, .one (.int .i64))]), (9435509593702460817458, [(11, .one (.int .i64)), (12, .one (.int .i64))]), (36267774588438875241185348, []), (89202895723530762331527007246941588082942065, [(1, .one (.int .i64)), (2, .one (.int .i64)), (8, .one .bool)])], blk := [(1, [(1, .one (.int .i64)), (2, .one (.int .i64)), (3, .one (.int .i64)), (8, .one .bool), (9, .one .bool)])], reg := [(17, [(87, .one .bool)])], lps := [(0, [(1, .one (.int .i64)), (2, .one (.int .i64)), (3, .one (.int .i64)), (8, .one .bool), (9, .one .bool)])] } [] (bodyOf Go.Proofs.Tryz.f79) [.val (.slice data.a data.len data.cap), .val (.int .i64 a), .val (.int .i64 b), .val (.int .i64 limit)] = slices_pdqsortOrdered_int64 data a b limit := by kernel_rfl
theorem slices_pdqsortOrdered_int64_calls (data : Sl) (a : Int) (b : Int) (limit : Int) {w : World} {R : List Value → World → Prop} (h : (slices_pdqsortOrdered_int64 data a b limit).wp P (fun _ => True) w fun e vs w' => e = 0 ∧ R vs w') :
    Calls P F.slices_pdqsortOrdered_int64 #[.slice data.a data.len data.cap, .int .i64 a, .int .i64 b, .int .i64 limit] w fun e w' => ∃ vs, e = .returned (pack vs) ∧ R vs w' :=
  decomp_sound (isFn_of Go.Proofs.Tryz.func79 (by kernel_rfl) (by kernel_rfl) (by kernel_rfl)) okFs_ok mix [.val (.slice data.a data.len data.cap), .val (.int .i64 a), .val (.int .i64 b), .val (.int .i64 limit)] (by rw [slices_pdqsortOrdered_int64_eq]; exact h)

def dedup_Row_next (r_0 : Int) (r_1 : Int) (r_2 : Int) (r_3 : Int) (r_4 : Int) (r_5 : Int) (r_6 : Int) : Prog :=
.act (Instr.box T.dedup_Row (.agg #[.int .i64 r_0, .int .i64 r_1, .int .i64 r_2, .int .i64 r_3, .int .i64 r_4, .int .i64 r_5, .int .i64 r_6])) sA (u1 fun a0 =>
.read True (ld T.int (Addr.add a0 2)) (sI .i64) (u1 fun (n1 : Int) =>
.read True (ld T.int (Addr.add a0 3)) (sI .i64) (u1 fun (n2 : Int) =>
.lt (.int .i64) (IntKind.wrap .i64 (n1 + n2)) fun (n3 : Int) =>
.done 0 [.int .i64 n3])))
theorem dedup_Row_next_eq (r_0 : Int) (r_1 : Int) (r_2 : Int) (r_3 : Int) (r_4 : Int) (r_5 : Int) (r_6 : Int) : decomp P 8 ⟨okFs, []⟩ { cnd := [], blk := [], reg := [], lps := [] } [.tmp 2] (bodyOf Go.Proofs.Tryz.f86) [.val (.agg #[.int .i64 r_0, .int .i64 r_1, .int .i64 r_2, .int .i64 r_3, .int .i64 r_4, .int .i64 r_5, .int .i64 r_6])] = dedup_Row_next r_0 r_1 r_2 r_3 r_4 r_5 r_6 := by kernel_rfl
theorem dedup_Row_next_calls (r_0 : Int) (r_1 : Int) (r_2 : Int) (r_3 : Int) (r_4 : Int) (r_5 : Int) (r_6 : Int) {w : World} {R : List Value → World → Prop} (h : (dedup_Row_next r_0 r_1 r_2 r_3 r_4 r_5 r_6).wp P (fun _ => True) w fun e vs w' => e = 0 ∧ R vs w') :
    Calls P F.dedup_Row_next #[.agg #[.int .i64 r_0, .int .i64 r_1, .int .i64 r_2, .int .i64 r_3, .int .i64 r_4, .int .i64 r_5, .int .i64 r_6]] w fun e w' => ∃ vs, e = .returned (pack vs) ∧ R vs w' :=
  decomp_sound (isFn_of Go.Proofs.Tryz.func86 (by kernel_rfl) (by kernel_rfl) (by kernel_rfl)) okFs_ok mix [.val (.agg #[.int .i64 r_0, .int .i64 r_1, .int .i64 r_2, .int .i64 r_3, .int .i64 r_4, .int .i64 r_5, .int .i64 r_6])] (by rw [dedup_Row_next_eq]; exact h)

def rec_numbers (b_0 : Int) (b_1 : Int) (b_2 : Int) (b_3 : Int) (b_4 : Int) (b_5 : Int) (b_6 : Sl) : Prog :=
.act (Instr.box T.api_Batch (.agg #[.int .i64 b_0, .int .i64 b_1, .int .i64 b_2, .int .i64 b_3, .int .i64 b_4, .int .i64 b_5, b_6.v])) sA (u1 fun a0 =>
.bind 1 [.one .bool] (
.read True (ld T.int (Addr.add a0 4)) (sI .i64) (u1 fun (n1 : Int) =>
.read (decide (n1 ≥ 0) = true) (ld T.int (Addr.add a0 4)) (sI .i64) (u1 fun (n2 : Int) =>
.read ((decide (n1 ≥ 0) && decide (n2 ≤ 3)) = true) (ld T.int64 (Addr.add a0 0)) (sI .i64) (u1 fun (n3 : Int) =>
.ite (decide (n1 ≥ 0) && decide (n2 ≤ 3)) (
.call F.rec_within [.int .i64 n3, .int .i64 0, .int .i64 1099511627776] sB (u1 fun b4 =>
.read (b4 = true) (ld T.int64 (Addr.add a0 1)) (sI .i64) (u1 fun (n5 : Int) =>
.ite (b4) (
.call F.rec_within [.int .i64 n5, .int .i64 0, .int .i64 1048576] sB (u1 fun b6 =>
.read (b6 = true) (ld T.int (Addr.add a0 2)) (sI .i64) (u1 fun (n7 : Int) =>
.read ((b6 && decide (n7 ≥ 0)) = true) (ld T.int (Addr.add a0 2)) (sI .i64) (u1 fun (n8 : Int) =>
.read ((b6 && decide (n7 ≥ 0) && decide (n8 ≤ 32767)) = true) (ld T.int (Addr.add a0 3)) (sI .i64) (u1 fun (n9 : Int) =>
.read ((b6 && decide (n7 ≥ 0) && decide (n8 ≤ 32767) && decide (n9 ≥ 0)) = true) (ld T.int (Addr.add a0 3)) (sI .i64) (u1 fun (n10 : Int) =>
.read ((b6 && decide (n7 ≥ 0) && decide (n8 ≤ 32767) && decide (n9 ≥ 0) && decide (n10 ≤ 2147483647)) = true) (ld T.int64 (Addr.add a0 5)) (sI .i64) (u1 fun (n11 : Int) =>
.ite (b6 && decide (n7 ≥ 0) && decide (n8 ≤ 32767) && decide (n9 ≥ 0) && decide (n10 ≤ 2147483647)) (
.call F.rec_within [.int .i64 n11, .int .i64 0, .int .i64 1099511627776] sB (u1 fun b12 =>
.lt (.bool) (b12) fun b13 =>
.done 1 [.bool b13])) (
.done 1 [.bool false])))))))) (
.done 1 [.bool false])))) (
.done 1 [.bool false]))))) (u1 fun b14 =>
.done 0 [.bool b14]))
theorem rec_numbers_eq (b_0 : Int) (b_1 : Int) (b_2 : Int) (b_3 : Int) (b_4 : Int) (b_5 : Int) (b_6 : Sl) : decomp P 46 ⟨okFs, []⟩ { cnd := [], blk := [], reg := [(1, [(2, .one .bool)])], lps := [] } [.tmp 2] (bodyOf Go.Proofs.Tryz.f88) [.val (.agg #[.int .i64 b_0, .int .i64 b_1, .int .i64 b_2, .int .i64 b_3, .int .i64 b_4, .int .i64 b_5, .slice b_6.a b_6.len b_6.cap])] = rec_numbers b_0 b_1 b_2 b_3 b_4 b_5 b_6 := by kernel_rfl
theorem rec_numbers_calls (b_0 : Int) (b_1 : Int) (b_2 : Int) (b_3 : Int) (b_4 : Int) (b_5 : Int) (b_6 : Sl) {w : World} {R : List Value → World → Prop} (h : (rec_numbers b_0 b_1 b_2 b_3 b_4 b_5 b_6).wp P (fun _ => True) w fun e vs w' => e = 0 ∧ R vs w') :
    Calls P F.rec_numbers #[.agg #[.int .i64 b_0, .int .i64 b_1, .int .i64 b_2, .int .i64 b_3, .int .i64 b_4, .int .i64 b_5, .slice b_6.a b_6.len b_6.cap]] w fun e w' => ∃ vs, e = .returned (pack vs) ∧ R vs w' :=
  decomp_sound (isFn_of Go.Proofs.Tryz.func88 (by kernel_rfl) (by kernel_rfl) (by kernel_rfl)) okFs_ok mix [.val (.agg #[.int .i64 b_0, .int .i64 b_1, .int .i64 b_2, .int .i64 b_3, .int .i64 b_4, .int .i64 b_5, .slice b_6.a b_6.len b_6.cap])] (by rw [rec_numbers_eq]; exact h)

def rec_fits (b_0 : Int) (b_1 : Int) (b_2 : Int) (b_3 : Int) (b_4 : Int) (b_5 : Int) (b_6 : Sl) : Prog :=
.act (Instr.box T.api_Batch (.agg #[.int .i64 b_0, .int .i64 b_1, .int .i64 b_2, .int .i64 b_3, .int .i64 b_4, .int .i64 b_5, b_6.v])) sA (u1 fun a0 =>
.read True (ld T.int64 (Addr.add a0 1)) (sI .i64) (u1 fun (n1 : Int) =>
.read ((n1 == 0) = true) (ld T.int (Addr.add a0 4)) (sI .i64) (u1 fun (n2 : Int) =>
.read ((n1 == 0) = true ∧ (n2 != 0) = false) (ld T.int (Addr.add a0 2)) (sI .i64) (u1 fun (n3 : Int) =>
.read ((n1 == 0) = true ∧ (n2 != 0 || n3 != 0) = false) (ld T.int (Addr.add a0 3)) (sI .i64) (u1 fun (n4 : Int) =>
.ite (n1 == 0 && (n2 != 0 || n3 != 0 || n4 != 0)) (
.done 0 [.bool false]) (
.read True (ld T.api_Batch a0) (sG [.int .i64, .int .i64, .int .i64, .int .i64, .int .i64, .int .i64, .slc]) (u7 fun (n5 : Int) (n6 : Int) (n7 : Int) (n8 : Int) (n9 : Int) (n10 : Int) l11 =>
.call F.rec_mark [.agg #[.int .i64 n5, .int .i64 n6, .int .i64 n7, .int .i64 n8, .int .i64 n9, .int .i64 n10, l11.v]] sB (u1 fun b12 =>
.ite (b12) (
.read True (ld T.int (Addr.add a0 3)) (sI .i64) (u1 fun (n13 : Int) =>
.read ((n13 == 0) = true) (ld T.s_api_Record (Addr.add a0 6)) sL (u1 fun l14 =>
.lt (.bool) (n13 == 0 && ((l14.len : Nat) : Int) == 0) fun b15 =>
.done 0 [.bool b15]))) (
.read True (ld T.s_api_Record (Addr.add a0 6)) sL (u1 fun l16 =>
.lt (.bool) (decide (((l16.len : Nat) : Int) > 0)) fun b17 =>
.done 0 [.bool b17]))))))))))
theorem rec_fits_eq (b_0 : Int) (b_1 : Int) (b_2 : Int) (b_3 : Int) (b_4 : Int) (b_5 : Int) (b_6 : Sl) : decomp P 36 ⟨okFs, []⟩ { cnd := [], blk := [], reg := [], lps := [] } [.tmp 2] (bodyOf Go.Proofs.Tryz.f89) [.val (.agg #[.int .i64 b_0, .int .i64 b_1, .int .i64 b_2, .int .i64 b_3, .int .i64 b_4, .int .i64 b_5, .slice b_6.a b_6.len b_6.cap])] = rec_fits b_0 b_1 b_2 b_3 b_4 b_5 b_6 := by kernel_rfl
theorem rec_fits_calls (b_0 : Int) (b_1 : Int) (b_2 : Int) (b_3 : Int) (b_4 : Int) (b_5 : Int) (b_6 : Sl) {w : World} {R : List Value → World → Prop} (h : (rec_fits b_0 b_1 b_2 b_3 b_4 b_5 b_6).wp P (fun _ => True) w fun e vs w' => e = 0 ∧ R vs w') :
    Calls P F.rec_fits #[.agg #[.int .i64 b_0, .int .i64 b_1, .int .i64 b_2, .int .i64 b_3, .int .i64 b_4, .int .i64 b_5, .slice b_6.a b_6.len b_6.cap]] w fun e w' => ∃ vs, e = .returned (pack vs) ∧ R vs w' :=
  decomp_sound (isFn_of Go.Proofs.Tryz.func89 (by kernel_rfl) (by kernel_rfl) (by kernel_rfl)) okFs_ok mix [.val (.agg #[.int .i64 b_0, .int .i64 b_1, .int .i64 b_2, .int .i64 b_3, .int .i64 b_4, .int .i64 b_5, .slice b_6.a b_6.len b_6.cap])] (by rw [rec_fits_eq]; exact h)

def rec_record (r_0 : ByteArray) (r_1 : ByteArray) (r_2 : Bool) (r_3 : Int) : Prog :=
.act (Instr.box T.api_Record (.agg #[.string r_0, .string r_1, .bool r_2, .int .i64 r_3])) sA (u1 fun a0 =>
.read True (ld T.string (Addr.add a0 0)) sS (u1 fun s1 =>
.read (decide (((ByteArray.size s1 : Nat) : Int) > 1024) = false) (ld T.string (Addr.add a0 1)) sS (u1 fun s2 =>
.lt (.bool) (decide (((ByteArray.size s1 : Nat) : Int) > 1024) || decide (((ByteArray.size s2 : Nat) : Int) > 1024)) fun b3 =>
.ite (b3) (
.done 0 [.int .i64 7]) (
.read True (ld T.int64 (Addr.add a0 3)) (sI .i64) (u1 fun (n4 : Int) =>
.call F.rec_within [.int .i64 n4, .int .i64 0, .int .i64 1099511627776] sB (u1 fun b5 =>
.read (not b5 = false) (ld T.bool (Addr.add a0 2)) sB (u1 fun b6 =>
.read (not b5 = false ∧ b6 = true) (ld T.string (Addr.add a0 1)) sS (u1 fun s7 =>
.lt (.bool) (not b5 || b6 && not (ByteArray.toList s7 == ByteArray.toList (ByteArray.mk #[]))) fun b8 =>
.ite (b8) (
.done 0 [.int .i64 2]) (
.done 0 [.int .i64 0])))))))))
theorem rec_record_eq (r_0 : ByteArray) (r_1 : ByteArray) (r_2 : Bool) (r_3 : Int) : decomp P 28 ⟨okFs, []⟩ { cnd := [], blk := [], reg := [], lps := [] } [.tmp 2] (bodyOf Go.Proofs.Tryz.f90) [.val (.agg #[.string r_0, .string r_1, .bool r_2, .int .i64 r_3])] = rec_record r_0 r_1 r_2 r_3 := by kernel_rfl
theorem rec_record_calls (r_0 : ByteArray) (r_1 : ByteArray) (r_2 : Bool) (r_3 : Int) {w : World} {R : List Value → World → Prop} (h : (rec_record r_0 r_1 r_2 r_3).wp P (fun _ => True) w fun e vs w' => e = 0 ∧ R vs w') :
    Calls P F.rec_record #[.agg #[.string r_0, .string r_1, .bool r_2, .int .i64 r_3]] w fun e w' => ∃ vs, e = .returned (pack vs) ∧ R vs w' :=
  decomp_sound (isFn_of Go.Proofs.Tryz.func90 (by kernel_rfl) (by kernel_rfl) (by kernel_rfl)) okFs_ok mix [.val (.agg #[.string r_0, .string r_1, .bool r_2, .int .i64 r_3])] (by rw [rec_record_eq]; exact h)

def rec_mark (b_0 : Int) (b_1 : Int) (b_2 : Int) (b_3 : Int) (b_4 : Int) (b_5 : Int) (b_6 : Sl) : Prog :=
.act (Instr.box T.api_Batch (.agg #[.int .i64 b_0, .int .i64 b_1, .int .i64 b_2, .int .i64 b_3, .int .i64 b_4, .int .i64 b_5, b_6.v])) sA (u1 fun a0 =>
.read True (ld T.int (Addr.add a0 4)) (sI .i64) (u1 fun (n1 : Int) =>
.read ((n1 == 2) = false) (ld T.int (Addr.add a0 4)) (sI .i64) (u1 fun (n2 : Int) =>
.lt (.bool) (n1 == 2 || n2 == 3) fun b3 =>
.done 0 [.bool b3])))
theorem rec_mark_eq (b_0 : Int) (b_1 : Int) (b_2 : Int) (b_3 : Int) (b_4 : Int) (b_5 : Int) (b_6 : Sl) : decomp P 11 ⟨okFs, []⟩ { cnd := [], blk := [], reg := [], lps := [] } [.tmp 2] (bodyOf Go.Proofs.Tryz.f91) [.val (.agg #[.int .i64 b_0, .int .i64 b_1, .int .i64 b_2, .int .i64 b_3, .int .i64 b_4, .int .i64 b_5, .slice b_6.a b_6.len b_6.cap])] = rec_mark b_0 b_1 b_2 b_3 b_4 b_5 b_6 := by kernel_rfl
theorem rec_mark_calls (b_0 : Int) (b_1 : Int) (b_2 : Int) (b_3 : Int) (b_4 : Int) (b_5 : Int) (b_6 : Sl) {w : World} {R : List Value → World → Prop} (h : (rec_mark b_0 b_1 b_2 b_3 b_4 b_5 b_6).wp P (fun _ => True) w fun e vs w' => e = 0 ∧ R vs w') :
    Calls P F.rec_mark #[.agg #[.int .i64 b_0, .int .i64 b_1, .int .i64 b_2, .int .i64 b_3, .int .i64 b_4, .int .i64 b_5, .slice b_6.a b_6.len b_6.cap]] w fun e w' => ∃ vs, e = .returned (pack vs) ∧ R vs w' :=
  decomp_sound (isFn_of Go.Proofs.Tryz.func91 (by kernel_rfl) (by kernel_rfl) (by kernel_rfl)) okFs_ok mix [.val (.agg #[.int .i64 b_0, .int .i64 b_1, .int .i64 b_2, .int .i64 b_3, .int .i64 b_4, .int .i64 b_5, .slice b_6.a b_6.len b_6.cap])] (by rw [rec_mark_eq]; exact h)

def slices_insertionSortCmpFunc_dedup_Row (data : Sl) (a : Int) (b : Int) (cmp : Value) : Prog :=
.lt (.int .i64) (IntKind.wrap .i64 (a + 1)) fun (n0 : Int) =>
.bind 1 [] (
.loop 2 [.one (.int .i64)] (n0, ()) (u1 fun (n1 : Int) =>
.ite (decide (n1 < b)) (
.bind 3 [] (
.lt (.int .i64) (n1) fun (n2 : Int) =>
.bind 4 [] (
.loop 5 [.one (.int .i64)] (n2, ()) (u1 fun (n3 : Int) =>
.bind 6 [.one .bool] (
.tick <|
.ex [.adr] (c1 fun a4 => decide (n3 > a) = true → 0 ≤ n3 ∧ n3 < ((data.len : Nat) : Int) ∧ data.a = some a4) (u1 fun a5 =>
.read (decide (n3 > a) = true) (ld T.dedup_Row (Addr.add a5 (Int.toNat n3 * 7))) (sG [.int .i64, .int .i64, .int .i64, .int .i64, .int .i64, .int .i64, .int .i64]) (u7 fun (n6 : Int) (n7 : Int) (n8 : Int) (n9 : Int) (n10 : Int) (n11 : Int) (n12 : Int) =>
.ex [.adr] (c1 fun a13 => decide (n3 > a) = true → 0 ≤ IntKind.wrap .i64 (n3 - 1) ∧ IntKind.wrap .i64 (n3 - 1) < ((data.len : Nat) : Int) ∧ data.a = some a13) (u1 fun a14 =>
.read (decide (n3 > a) = true) (ld T.dedup_Row (Addr.add a14 (Int.toNat (IntKind.wrap .i64 (n3 - 1)) * 7))) (sG [.int .i64, .int .i64, .int .i64, .int .i64, .int .i64, .int .i64, .int .i64]) (u7 fun (n15 : Int) (n16 : Int) (n17 : Int) (n18 : Int) (n19 : Int) (n20 : Int) (n21 : Int) =>
.ite (decide (n3 > a)) (
.callv (cmp) [.agg #[.int .i64 n6, .int .i64 n7, .int .i64 n8, .int .i64 n9, .int .i64 n10, .int .i64 n11, .int .i64 n12], .agg #[.int .i64 n15, .int .i64 n16, .int .i64 n17, .int .i64 n18, .int .i64 n19, .int .i64 n20, .int .i64 n21]] (sI .i64) (u1 fun (n22 : Int) =>
.untick <|
.done 6 [.bool (decide (n22 < 0))])) (
.untick <|
.done 6 [.bool false])))))) (u1 fun b23 =>
.ite (b23) (
.bind 6 [] (
.tick <|
.ex [.adr] (c1 fun a24 => 0 ≤ IntKind.wrap .i64 (n3 - 1) ∧ IntKind.wrap .i64 (n3 - 1) < ((data.len : Nat) : Int) ∧ data.a = some a24) (u1 fun a25 =>
.read True (ld T.dedup_Row (Addr.add a25 (Int.toNat (IntKind.wrap .i64 (n3 - 1)) * 7))) (sG [.int .i64, .int .i64, .int .i64, .int .i64, .int .i64, .int .i64, .int .i64]) (u7 fun (n26 : Int) (n27 : Int) (n28 : Int) (n29 : Int) (n30 : Int) (n31 : Int) (n32 : Int) =>
.ex [.adr] (c1 fun a33 => 0 ≤ n3 ∧ n3 < ((data.len : Nat) : Int) ∧ data.a = some a33) (u1 fun a34 =>
.read True (ld T.dedup_Row (Addr.add a34 (Int.toNat n3 * 7))) (sG [.int .i64, .int .i64, .int .i64, .int .i64, .int .i64, .int .i64, .int .i64]) (u7 fun (n35 : Int) (n36 : Int) (n37 : Int) (n38 : Int) (n39 : Int) (n40 : Int) (n41 : Int) =>
.ex [.adr] (c1 fun a42 => 0 ≤ n3 ∧ n3 < ((data.len : Nat) : Int) ∧ data.a = some a42) (u1 fun a43 =>
.actU (st T.dedup_Row (Addr.add a43 (Int.toNat n3 * 7)) (.agg #[.int .i64 n26, .int .i64 n27, .int .i64 n28, .int .i64 n29, .int .i64 n30, .int .i64 n31, .int .i64 n32])) <|
.ex [.adr] (c1 fun a44 => 0 ≤ IntKind.wrap .i64 (n3 - 1) ∧ IntKind.wrap .i64 (n3 - 1) < ((data.len : Nat) : Int) ∧ data.a = some a44) (u1 fun a45 =>
.actU (st T.dedup_Row (Addr.add a45 (Int.toNat (IntKind.wrap .i64 (n3 - 1)) * 7)) (.agg #[.int .i64 n35, .int .i64 n36, .int .i64 n37, .int .i64 n38, .int .i64 n39, .int .i64 n40, .int .i64 n41])) <|
.untick <|
.done 6 []))))))) (u0 <|
.lt (.int .i64) (IntKind.wrap .i64 (n3 - 1)) fun (n46 : Int) =>
.done 5 [.int .i64 n46])) (
.done 4 [])))) (u0 <|
.done 3 [])) (u0 <|
.lt (.int .i64) (IntKind.wrap .i64 (n1 + 1)) fun (n47 : Int) =>
.done 2 [.int .i64 n47])) (
.done 1 []))) (u0 <|
.done 0 [])
theorem slices_insertionSortCmpFunc_dedup_Row_eq (data : Sl) (a : Int) (b : Int) (cmp : Value) : decomp P 53 ⟨okFs, []⟩ { cnd := [], blk := [(0, []), (1, []), (2, [])], reg := [(4, [(34, .one .bool)]), (6, [])], lps := [(0, [(8, .one (.int .i64))]), (2, [(9, .one (.int .i64))])] } [] (bodyOf Go.Proofs.Tryz.f92) [.val (.slice data.a data.len data.cap), .val (.int .i64 a), .val (.int .i64 b), .any cmp] = slices_insertionSortCmpFunc_dedup_Row data a b cmp := by kernel_rfl
theorem slices_insertionSortCmpFunc_dedup_Row_calls (data : Sl) (a : Int) (b : Int) (cmp : Value) {w : World} {R : List Value → World → Prop} (h : (slices_insertionSortCmpFunc_dedup_Row data a b cmp).wp P (fun _ => True) w fun e vs w' => e = 0 ∧ R vs w') :
    Calls P F.slices_insertionSortCmpFunc_dedup_Row #[.slice data.a data.len data.cap, .int .i64 a, .int .i64 b, cmp] w fun e w' => ∃ vs, e = .returned (pack vs) ∧ R vs w' :=
  decomp_sound (isFn_of Go.Proofs.Tryz.func92 (by kernel_rfl) (by kernel_rfl) (by kernel_rfl)) okFs_ok mix [.val (.slice data.a data.len data.cap), .val (.int .i64 a), .val (.int .i64 b), .any cmp] (by rw [slices_insertionSortCmpFunc_dedup_Row_eq]; exact h)

def slices_heapSortCmpFunc_dedup_Row (data : Sl) (a : Int) (b : Int) (cmp : Value) : Prog :=
.lt (.int .i64) (a) fun (n0 : Int) =>
.lt (.int .i64) (IntKind.wrap .i64 (b - a)) fun (n1 : Int) =>
.lt (.int .i64) (IntKind.wrap .i64 (Int.tdiv (IntKind.wrap .i64 (n1 - 1)) 2)) fun (n2 : Int) =>
.bind 1 [] (
.loop 2 [.one (.int .i64)] (n2, ()) (u1 fun (n3 : Int) =>
.ite (decide (n3 ≥ 0)) (
.call F.slices_siftDownCmpFunc_dedup_Row [data.v, .int .i64 n3, .int .i64 n1, .int .i64 n0, cmp] (.tup []) (u0 <|
.lt (.int .i64) (IntKind.wrap .i64 (n3 - 1)) fun (n4 : Int) =>
.done 2 [.int .i64 n4])) (
.done 1 []))) (u0 <|
.lt (.int .i64) (IntKind.wrap .i64 (n1 - 1)) fun (n5 : Int) =>
.bind 1 [] (
.loop 2 [.one (.int .i64)] (n5, ()) (u1 fun (n6 : Int) =>
.ite (decide (n6 ≥ 0)) (
.bind 3 [] (
.tick <|
.ex [.adr] (c1 fun a7 => 0 ≤ IntKind.wrap .i64 (n0 + n6) ∧ IntKind.wrap .i64 (n0 + n6) < ((data.len : Nat) : Int) ∧ data.a = some a7) (u1 fun a8 =>
.read True (ld T.dedup_Row (Addr.add a8 (Int.toNat (IntKind.wrap .i64 (n0 + n6)) * 7))) (sG [.int .i64, .int .i64, .int .i64, .int .i64, .int .i64, .int .i64, .int .i64]) (u7 fun (n9 : Int) (n10 : Int) (n11 : Int) (n12 : Int) (n13 : Int) (n14 : Int) (n15 : Int) =>
.ex [.adr] (c1 fun a16 => 0 ≤ n0 ∧ n0 < ((data.len : Nat) : Int) ∧ data.a = some a16) (u1 fun a17 =>
.read True (ld T.dedup_Row (Addr.add a17 (Int.toNat n0 * 7))) (sG [.int .i64, .int .i64, .int .i64, .int .i64, .int .i64, .int .i64, .int .i64]) (u7 fun (n18 : Int) (n19 : Int) (n20 : Int) (n21 : Int) (n22 : Int) (n23 : Int) (n24 : Int) =>
.ex [.adr] (c1 fun a25 => 0 ≤ n0 ∧ n0 < ((data.len : Nat) : Int) ∧ data.a = some a25) (u1 fun a26 =>
.actU (st T.dedup_Row (Addr.add a26 (Int.toNat n0 * 7)) (.agg #[.int .i64 n9, .int .i64 n10, .int .i64 n11, .int .i64 n12, .int .i64 n13, .int .i64 n14, .int .i64 n15])) <|
.ex [.adr] (c1 fun a27 => 0 ≤ IntKind.wrap .i64 (n0 + n6) ∧ IntKind.wrap .i64 (n0 + n6) < ((data.len : Nat) : Int) ∧ data.a = some a27) (u1 fun a28 =>
.actU (st T.dedup_Row (Addr.add a28 (Int.toNat (IntKind.wrap .i64 (n0 + n6)) * 7)) (.agg #[.int .i64 n18, .int .i64 n19, .int .i64 n20, .int .i64 n21, .int .i64 n22, .int .i64 n23, .int .i64 n24])) <|
.untick <|
.done 3 []))))))) (u0 <|
.call F.slices_siftDownCmpFunc_dedup_Row [data.v, .int .i64 0, .int .i64 n6, .int .i64 n0, cmp] (.tup []) (u0 <|
.lt (.int .i64) (IntKind.wrap .i64 (n6 - 1)) fun (n29 : Int) =>
.done 2 [.int .i64 n29]))) (
.done 1 []))) (u0 <|
.done 0 []))
theorem slices_heapSortCmpFunc_dedup_Row_eq (data : Sl) (a : Int) (b : Int) (cmp : Value) : decomp P 60 ⟨okFs, []⟩ { cnd := [], blk := [(0, []), (2, [])], reg := [(10, [])], lps := [(0, [(11, .one (.int .i64))]), (2, [(12, .one (.int .i64))])] } [] (bodyOf Go.Proofs.Tryz.f93) [.val (.slice data.a data.len data.cap), .val (.int .i64 a), .val (.int .i64 b), .any cmp] = slices_heapSortCmpFunc_dedup_Row data a b cmp := by kernel_rfl
theorem slices_heapSortCmpFunc_dedup_Row_calls (data : Sl) (a : Int) (b : Int) (cmp : Value) {w : World} {R : List Value → World → Prop} (h : (slices_heapSortCmpFunc_dedup_Row data a b cmp).wp P (fun _ => True) w fun e vs w' => e = 0 ∧ R vs w') :
    Calls P F.slices_heapSortCmpFunc_dedup_Row #[.slice data.a data.len data.cap, .int .i64 a, .int .i64 b, cmp] w fun e w' => ∃ vs, e = .returned (pack vs) ∧ R vs w' :=
  decomp_sound (isFn_of Go.Proofs.Tryz.func93 (by kernel_rfl) (by kernel_rfl) (by kernel_rfl)) okFs_ok mix [.val (.slice data.a data.len data.cap), .val (.int .i64 a), .val (.int .i64 b), .any cmp] (by rw [slices_heapSortCmpFunc_dedup_Row_eq]; exact h)

def slices_breakPatternsCmpFunc_dedup_Row (data : Sl) (a : Int) (b : Int) (cmp : Value) : Prog :=
.lt (.int .i64) (IntKind.wrap .i64 (b - a)) fun (n0 : Int) =>
.bind 1 [] (
.ite (decide (n0 ≥ 8)) (
.act (new T.slices_xorshift) sA (u1 fun a1 =>
.actU (st T.slices_xorshift a1 (.int .u64 (IntKind.wrap .u64 n0))) <|
.call F.slices_nextPowerOfTwo [.int .i64 n0] (sI .u64) (u1 fun (n2 : Int) =>
.lt (.int .u64) (n2) fun (n3 : Int) =>
.lt (.int .i64) (IntKind.wrap .i64 (IntKind.wrap .i64 (a + IntKind.wrap .i64 (IntKind.wrap .i64 (Int.tdiv n0 4) * 2)) - 1)) fun (n4 : Int) =>
.bind 2 [] (
.loop 3 [.one (.int .i64)] (n4, ()) (u1 fun (n5 : Int) =>
.ite (decide (n5 ≤ IntKind.wrap .i64 (IntKind.wrap .i64 (a + IntKind.wrap .i64 (IntKind.wrap .i64 (Int.tdiv n0 4) * 2)) + 1))) (
.call F.slices_xorshift_Next [.pointer (some a1)] (sI .u64) (u1 fun (n6 : Int) =>
.lt (.int .i64) (IntKind.wrap .i64 (IntKind.wrap .u64 (((BitVec.toNat (BitVec.ofInt 64 n6 &&& BitVec.ofInt 64 (IntKind.wrap .u64 (n3 - 1))) : Nat) : Int)))) fun (n7 : Int) =>
.bind 4 [.one (.int .i64)] (
.ite (decide (n7 ≥ n0)) (
.lt (.int .i64) (IntKind.wrap .i64 (n7 - n0)) fun (n8 : Int) =>
.done 4 [.int .i64 n8]) (
.done 4 [.int .i64 n7])) (u1 fun (n9 : Int) =>
.bind 4 [] (
.tick <|
.ex [.adr] (c1 fun a10 => 0 ≤ IntKind.wrap .i64 (a + n9) ∧ IntKind.wrap .i64 (a + n9) < ((data.len : Nat) : Int) ∧ data.a = some a10) (u1 fun a11 =>
.read True (ld T.dedup_Row (Addr.add a11 (Int.toNat (IntKind.wrap .i64 (a + n9)) * 7))) (sG [.int .i64, .int .i64, .int .i64, .int .i64, .int .i64, .int .i64, .int .i64]) (u7 fun (n12 : Int) (n13 : Int) (n14 : Int) (n15 : Int) (n16 : Int) (n17 : Int) (n18 : Int) =>
.ex [.adr] (c1 fun a19 => 0 ≤ n5 ∧ n5 < ((data.len : Nat) : Int) ∧ data.a = some a19) (u1 fun a20 =>
.read True (ld T.dedup_Row (Addr.add a20 (Int.toNat n5 * 7))) (sG [.int .i64, .int .i64, .int .i64, .int .i64, .int .i64, .int .i64, .int .i64]) (u7 fun (n21 : Int) (n22 : Int) (n23 : Int) (n24 : Int) (n25 : Int) (n26 : Int) (n27 : Int) =>
.ex [.adr] (c1 fun a28 => 0 ≤ n5 ∧ n5 < ((data.len : Nat) : Int) ∧ data.a = some a28) (u1 fun a29 =>
.actU (st T.dedup_Row (Addr.add a29 (Int.toNat n5 * 7)) (.agg #[.int .i64 n12, .int .i64 n13, .int .i64 n14, .int .i64 n15, .int .i64 n16, .int .i64 n17, .int .i64 n18])) <|
.ex [.adr] (c1 fun a30 => 0 ≤ IntKind.wrap .i64 (a + n9) ∧ IntKind.wrap .i64 (a + n9) < ((data.len : Nat) : Int) ∧ data.a = some a30) (u1 fun a31 =>
.actU (st T.dedup_Row (Addr.add a31 (Int.toNat (IntKind.wrap .i64 (a + n9)) * 7)) (.agg #[.int .i64 n21, .int .i64 n22, .int .i64 n23, .int .i64 n24, .int .i64 n25, .int .i64 n26, .int .i64 n27])) <|
.untick <|
.done 4 []))))))) (u0 <|
.lt (.int .i64) (IntKind.wrap .i64 (n5 + 1)) fun (n32 : Int) =>
.done 3 [.int .i64 n32])))) (
.done 2 []))) (u0 <|
.done 1 [])))) (
.done 1 [])) (u0 <|
.done 0 [])
theorem slices_breakPatternsCmpFunc_dedup_Row_eq (data : Sl) (a : Int) (b : Int) (cmp : Value) : decomp P 67 ⟨okFs, []⟩ { cnd := [(2017612633078759469, [(12, .one (.int .i64))]), (604462909807313545068561, [])], blk := [(0, [])], reg := [(10, [])], lps := [(0, [(11, .one (.int .i64))])] } [] (bodyOf Go.Proofs.Tryz.f94) [.val (.slice data.a data.len data.cap), .val (.int .i64 a), .val (.int .i64 b), .any cmp] = slices_breakPatternsCmpFunc_dedup_Row data a b cmp := by kernel_rfl
theorem slices_breakPatternsCmpFunc_dedup_Row_calls (data : Sl) (a : Int) (b : Int) (cmp : Value) {w : World} {R : List Value → World → Prop} (h : (slices_breakPatternsCmpFunc_dedup_Row data a b cmp).wp P (fun _ => True) w fun e vs w' => e = 0 ∧ R vs w') :
    Calls P F.slices_breakPatternsCmpFunc_dedup_Row #[.slice data.a data.len data.cap, .int .i64 a, .int .i64 b, cmp] w fun e w' => ∃ vs, e = .returned (pack vs) ∧ R vs w' :=
  decomp_sound (isFn_of Go.Proofs.Tryz.func94 (by kernel_rfl) (by kernel_rfl) (by kernel_rfl)) okFs_ok mix [.val (.slice data.a data.len data.cap), .val (.int .i64 a), .val (.int .i64 b), .any cmp] (by rw [slices_breakPatternsCmpFunc_dedup_Row_eq]; exact h)

def slices_choosePivotCmpFunc_dedup_Row (data : Sl) (a : Int) (b : Int) (cmp : Value) : Prog :=
.lt (.int .i64) (IntKind.wrap .i64 (b - a)) fun (n0 : Int) =>
.act (new T.int) sA (u1 fun a1 =>
.lt (.int .i64) (IntKind.wrap .i64 (a + IntKind.wrap .i64 (IntKind.wrap .i64 (Int.tdiv n0 4) * 1))) fun (n2 : Int) =>
.lt (.int .i64) (IntKind.wrap .i64 (a + IntKind.wrap .i64 (IntKind.wrap .i64 (Int.tdiv n0 4) * 2))) fun (n3 : Int) =>
.lt (.int .i64) (IntKind.wrap .i64 (a + IntKind.wrap .i64 (IntKind.wrap .i64 (Int.tdiv n0 4) * 3))) fun (n4 : Int) =>
.bind 1 [.one (.int .i64)] (
.ite (decide (n0 ≥ 8)) (
.bind 2 [.one (.int .i64), .one (.int .i64), .one (.int .i64)] (
.ite (decide (n0 ≥ 50)) (
.call F.slices_medianAdjacentCmpFunc_dedup_Row [data.v, .int .i64 n2, .pointer (some a1), cmp] (sI .i64) (u1 fun (n5 : Int) =>
.lt (.int .i64) (n5) fun (n6 : Int) =>
.call F.slices_medianAdjacentCmpFunc_dedup_Row [data.v, .int .i64 n3, .pointer (some a1), cmp] (sI .i64) (u1 fun (n7 : Int) =>
.lt (.int .i64) (n7) fun (n8 : Int) =>
.call F.slices_medianAdjacentCmpFunc_dedup_Row [data.v, .int .i64 n4, .pointer (some a1), cmp] (sI .i64) (u1 fun (n9 : Int) =>
.lt (.int .i64) (n9) fun (n10 : Int) =>
.done 2 [.int .i64 n6, .int .i64 n8, .int .i64 n10])))) (
.done 2 [.int .i64 n2, .int .i64 n3, .int .i64 n4])) (u3 fun (n11 : Int) (n12 : Int) (n13 : Int) =>
.call F.slices_medianCmpFunc_dedup_Row [data.v, .int .i64 n11, .int .i64 n12, .int .i64 n13, .pointer (some a1), cmp] (sI .i64) (u1 fun (n14 : Int) =>
.lt (.int .i64) (n14) fun (n15 : Int) =>
.done 1 [.int .i64 n15]))) (
.done 1 [.int .i64 n3])) (u1 fun (n16 : Int) =>
.read True (ld T.int a1) (sI .i64) (u1 fun (n17 : Int) =>
.lt (.bool) (n17 == 0) fun b18 =>
.ite (b18) (
.lt (.int .i64) (n16) fun (n19 : Int) =>
.done 0 [.int .i64 n19, .int .i64 1]) (
.lt (.bool) (n17 == 12) fun b20 =>
.ite (b20) (
.lt (.int .i64) (n16) fun (n21 : Int) =>
.done 0 [.int .i64 n21, .int .i64 2]) (
.lt (.int .i64) (n16) fun (n22 : Int) =>
.done 0 [.int .i64 n22, .int .i64 0])))))
theorem slices_choosePivotCmpFunc_dedup_Row_eq (data : Sl) (a : Int) (b : Int) (cmp : Value) : decomp P 63 ⟨okFs, []⟩ { cnd := [(2305280059377713188, [(12, .one (.int .i64)), (13, .one (.int .i64)), (14, .one (.int .i64))]), (147573811852305498146, [(13, .one (.int .i64))])], blk := [], reg := [], lps := [] } [.tmp 8, .tmp 9] (bodyOf Go.Proofs.Tryz.f95) [.val (.slice data.a data.len data.cap), .val (.int .i64 a), .val (.int .i64 b), .any cmp] = slices_choosePivotCmpFunc_dedup_Row data a b cmp := by kernel_rfl
theorem slices_choosePivotCmpFunc_dedup_Row_calls (data : Sl) (a : Int) (b : Int) (cmp : Value) {w : World} {R : List Value → World → Prop} (h : (slices_choosePivotCmpFunc_dedup_Row data a b cmp).wp P (fun _ => True) w fun e vs w' => e = 0 ∧ R vs w') :
    Calls P F.slices_choosePivotCmpFunc_dedup_Row #[.slice data.a data.len data.cap, .int .i64 a, .int .i64 b, cmp] w fun e w' => ∃ vs, e = .returned (pack vs) ∧ R vs w' :=
  decomp_sound (isFn_of Go.Proofs.Tryz.func95 (by kernel_rfl) (by kernel_rfl) (by kernel_rfl)) okFs_ok mix [.val (.slice data.a data.len data.cap), .val (.int .i64 a), .val (.int .i64 b), .any cmp] (by rw [slices_choosePivotCmpFunc_dedup_Row_eq]; exact h)

def slices_reverseRangeCmpFunc_dedup_Row (data : Sl) (a : Int) (b : Int) (cmp : Value) : Prog :=
.lt (.int .i64) (a) fun (n0 : Int) =>
.lt (.int .i64) (IntKind.wrap .i64 (b - 1)) fun (n1 : Int) =>
.bind 1 [] (
.loop 2 [.one (.int .i64), .one (.int .i64)] (n0, (n1, ())) (u2 fun (n2 : Int) (n3 : Int) =>
.ite (decide (n2 < n3)) (
.bind 3 [] (
.tick <|
.ex [.adr] (c1 fun a4 => 0 ≤ n3 ∧ n3 < ((data.len : Nat) : Int) ∧ data.a = some a4) (u1 fun a5 =>
.read True (ld T.dedup_Row (Addr.add a5 (Int.toNat n3 * 7))) (sG [.int .i64, .int .i64, .int .i64, .int .i64, .int .i64, .int .i64, .int .i64]) (u7 fun (n6 : Int) (n7 : Int) (n8 : Int) (n9 : Int) (n10 : Int) (n11 : Int) (n12 : Int) =>
.ex [.adr] (c1 fun a13 => 0 ≤ n2 ∧ n2 < ((data.len : Nat) : Int) ∧ data.a = some a13) (u1 fun a14 =>
.read True (ld T.dedup_Row (Addr.add a14 (Int.toNat n2 * 7))) (sG [.int .i64, .int .i64, .int .i64, .int .i64, .int .i64, .int .i64, .int .i64]) (u7 fun (n15 : Int) (n16 : Int) (n17 : Int) (n18 : Int) (n19 : Int) (n20 : Int) (n21 : Int) =>
.ex [.adr] (c1 fun a22 => 0 ≤ n2 ∧ n2 < ((data.len : Nat) : Int) ∧ data.a = some a22) (u1 fun a23 =>
.actU (st T.dedup_Row (Addr.add a23 (Int.toNat n2 * 7)) (.agg #[.int .i64 n6, .int .i64 n7, .int .i64 n8, .int .i64 n9, .int .i64 n10, .int .i64 n11, .int .i64 n12])) <|
.ex [.adr] (c1 fun a24 => 0 ≤ n3 ∧ n3 < ((data.len : Nat) : Int) ∧ data.a = some a24) (u1 fun a25 =>
.actU (st T.dedup_Row (Addr.add a25 (Int.toNat n3 * 7)) (.agg #[.int .i64 n15, .int .i64 n16, .int .i64 n17, .int .i64 n18, .int .i64 n19, .int .i64 n20, .int .i64 n21])) <|
.untick <|
.done 3 []))))))) (u0 <|
.lt (.int .i64) (IntKind.wrap .i64 (n2 + 1)) fun (n26 : Int) =>
.lt (.int .i64) (IntKind.wrap .i64 (n3 - 1)) fun (n27 : Int) =>
.done 2 [.int .i64 n26, .int .i64 n27])) (
.done 1 []))) (u0 <|
.done 0 [])
theorem slices_reverseRangeCmpFunc_dedup_Row_eq (data : Sl) (a : Int) (b : Int) (cmp : Value) : decomp P 34 ⟨okFs, []⟩ { cnd := [], blk := [(0, [])], reg := [(3, [])], lps := [(0, [(8, .one (.int .i64)), (9, .one (.int .i64))])] } [] (bodyOf Go.Proofs.Tryz.f96) [.val (.slice data.a data.len data.cap), .val (.int .i64 a), .val (.int .i64 b), .any cmp] = slices_reverseRangeCmpFunc_dedup_Row data a b cmp := by kernel_rfl
theorem slices_reverseRangeCmpFunc_dedup_Row_calls (data : Sl) (a : Int) (b : Int) (cmp : Value) {w : World} {R : List Value → World → Prop} (h : (slices_reverseRangeCmpFunc_dedup_Row data a b cmp).wp P (fun _ => True) w fun e vs w' => e = 0 ∧ R vs w') :
    Calls P F.slices_reverseRangeCmpFunc_dedup_Row #[.slice data.a data.len data.cap, .int .i64 a, .int .i64 b, cmp] w fun e w' => ∃ vs, e = .returned (pack vs) ∧ R vs w' :=
  decomp_sound (isFn_of Go.Proofs.Tryz.func96 (by kernel_rfl) (by kernel_rfl) (by kernel_rfl)) okFs_ok mix [.val (.slice data.a data.len data.cap), .val (.int .i64 a), .val (.int .i64 b), .any cmp] (by rw [slices_reverseRangeCmpFunc_dedup_Row_eq]; exact h)

def slices_partialInsertionSortCmpFunc_dedup_Row (data : Sl) (a : Int) (b : Int) (cmp : Value) : Prog :=
.lt (.int .i64) (IntKind.wrap .i64 (a + 1)) fun (n0 : Int) =>
.bind 1 [] (
.loop 2 [.one (.int .i64), .one (.int .i64)] (n0, (0, ())) (u2 fun (n1 : Int) (n2 : Int) =>
.ite (decide (n2 < 5)) (
.bind 3 [.one (.int .i64)] (
.bind 4 [.one (.int .i64)] (
.loop 5 [.one (.int .i64)] (n1, ()) (u1 fun (n3 : Int) =>
.bind 6 [.one .bool] (
.tick <|
.ex [.adr] (c1 fun a4 => decide (n3 < b) = true → 0 ≤ n3 ∧ n3 < ((data.len : Nat) : Int) ∧ data.a = some a4) (u1 fun a5 =>
.read (decide (n3 < b) = true) (ld T.dedup_Row (Addr.add a5 (Int.toNat n3 * 7))) (sG [.int .i64, .int .i64, .int .i64, .int .i64, .int .i64, .int .i64, .int .i64]) (u7 fun (n6 : Int) (n7 : Int) (n8 : Int) (n9 : Int) (n10 : Int) (n11 : Int) (n12 : Int) =>
.ex [.adr] (c1 fun a13 => decide (n3 < b) = true → 0 ≤ IntKind.wrap .i64 (n3 - 1) ∧ IntKind.wrap .i64 (n3 - 1) < ((data.len : Nat) : Int) ∧ data.a = some a13) (u1 fun a14 =>
.read (decide (n3 < b) = true) (ld T.dedup_Row (Addr.add a14 (Int.toNat (IntKind.wrap .i64 (n3 - 1)) * 7))) (sG [.int .i64, .int .i64, .int .i64, .int .i64, .int .i64, .int .i64, .int .i64]) (u7 fun (n15 : Int) (n16 : Int) (n17 : Int) (n18 : Int) (n19 : Int) (n20 : Int) (n21 : Int) =>
.ite (decide (n3 < b)) (
.callv (cmp) [.agg #[.int .i64 n6, .int .i64 n7, .int .i64 n8, .int .i64 n9, .int .i64 n10, .int .i64 n11, .int .i64 n12], .agg #[.int .i64 n15, .int .i64 n16, .int .i64 n17, .int .i64 n18, .int .i64 n19, .int .i64 n20, .int .i64 n21]] (sI .i64) (u1 fun (n22 : Int) =>
.untick <|
.done 6 [.bool (not (decide (n22 < 0)))])) (
.untick <|
.done 6 [.bool false])))))) (u1 fun b23 =>
.ite (b23) (
.lt (.int .i64) (IntKind.wrap .i64 (n3 + 1)) fun (n24 : Int) =>
.done 5 [.int .i64 n24]) (
.done 4 [.int .i64 n3])))) (u1 fun (n25 : Int) =>
.ite (n25 == b) (
.done 0 [.bool true]) (
.ite (decide (IntKind.wrap .i64 (b - a) < 50)) (
.done 0 [.bool false]) (
.bind 4 [] (
.tick <|
.ex [.adr] (c1 fun a26 => 0 ≤ IntKind.wrap .i64 (n25 - 1) ∧ IntKind.wrap .i64 (n25 - 1) < ((data.len : Nat) : Int) ∧ data.a = some a26) (u1 fun a27 =>
.read True (ld T.dedup_Row (Addr.add a27 (Int.toNat (IntKind.wrap .i64 (n25 - 1)) * 7))) (sG [.int .i64, .int .i64, .int .i64, .int .i64, .int .i64, .int .i64, .int .i64]) (u7 fun (n28 : Int) (n29 : Int) (n30 : Int) (n31 : Int) (n32 : Int) (n33 : Int) (n34 : Int) =>
.ex [.adr] (c1 fun a35 => 0 ≤ n25 ∧ n25 < ((data.len : Nat) : Int) ∧ data.a = some a35) (u1 fun a36 =>
.read True (ld T.dedup_Row (Addr.add a36 (Int.toNat n25 * 7))) (sG [.int .i64, .int .i64, .int .i64, .int .i64, .int .i64, .int .i64, .int .i64]) (u7 fun (n37 : Int) (n38 : Int) (n39 : Int) (n40 : Int) (n41 : Int) (n42 : Int) (n43 : Int) =>
.ex [.adr] (c1 fun a44 => 0 ≤ n25 ∧ n25 < ((data.len : Nat) : Int) ∧ data.a = some a44) (u1 fun a45 =>
.actU (st T.dedup_Row (Addr.add a45 (Int.toNat n25 * 7)) (.agg #[.int .i64 n28, .int .i64 n29, .int .i64 n30, .int .i64 n31, .int .i64 n32, .int .i64 n33, .int .i64 n34])) <|
.ex [.adr] (c1 fun a46 => 0 ≤ IntKind.wrap .i64 (n25 - 1) ∧ IntKind.wrap .i64 (n25 - 1) < ((data.len : Nat) : Int) ∧ data.a = some a46) (u1 fun a47 =>
.actU (st T.dedup_Row (Addr.add a47 (Int.toNat (IntKind.wrap .i64 (n25 - 1)) * 7)) (.agg #[.int .i64 n37, .int .i64 n38, .int .i64 n39, .int .i64 n40, .int .i64 n41, .int .i64 n42, .int .i64 n43])) <|
.untick <|
.done 4 []))))))) (u0 <|
.bind 4 [] (
.ite (decide (IntKind.wrap .i64 (n25 - a) ≥ 2)) (
.lt (.int .i64) (IntKind.wrap .i64 (n25 - 1)) fun (n48 : Int) =>
.bind 5 [] (
.loop 6 [.one (.int .i64)] (n48, ()) (u1 fun (n49 : Int) =>
.ite (decide (n49 ≥ 1)) (
.tick <|
.ex [.adr] (c1 fun a50 => 0 ≤ n49 ∧ n49 < ((data.len : Nat) : Int) ∧ data.a = some a50) (u1 fun a51 =>
.read True (ld T.dedup_Row (Addr.add a51 (Int.toNat n49 * 7))) (sG [.int .i64, .int .i64, .int .i64, .int .i64, .int .i64, .int .i64, .int .i64]) (u7 fun (n52 : Int) (n53 : Int) (n54 : Int) (n55 : Int) (n56 : Int) (n57 : Int) (n58 : Int) =>
.ex [.adr] (c1 fun a59 => 0 ≤ IntKind.wrap .i64 (n49 - 1) ∧ IntKind.wrap .i64 (n49 - 1) < ((data.len : Nat) : Int) ∧ data.a = some a59) (u1 fun a60 =>
.read True (ld T.dedup_Row (Addr.add a60 (Int.toNat (IntKind.wrap .i64 (n49 - 1)) * 7))) (sG [.int .i64, .int .i64, .int .i64, .int .i64, .int .i64, .int .i64, .int .i64]) (u7 fun (n61 : Int) (n62 : Int) (n63 : Int) (n64 : Int) (n65 : Int) (n66 : Int) (n67 : Int) =>
.callv (cmp) [.agg #[.int .i64 n52, .int .i64 n53, .int .i64 n54, .int .i64 n55, .int .i64 n56, .int .i64 n57, .int .i64 n58], .agg #[.int .i64 n61, .int .i64 n62, .int .i64 n63, .int .i64 n64, .int .i64 n65, .int .i64 n66, .int .i64 n67]] (sI .i64) (u1 fun (n68 : Int) =>
.untick <|
.ite (not (decide (n68 < 0))) (
.done 5 []) (
.bind 7 [] (
.tick <|
.ex [.adr] (c1 fun a69 => 0 ≤ IntKind.wrap .i64 (n49 - 1) ∧ IntKind.wrap .i64 (n49 - 1) < ((data.len : Nat) : Int) ∧ data.a = some a69) (u1 fun a70 =>
.read True (ld T.dedup_Row (Addr.add a70 (Int.toNat (IntKind.wrap .i64 (n49 - 1)) * 7))) (sG [.int .i64, .int .i64, .int .i64, .int .i64, .int .i64, .int .i64, .int .i64]) (u7 fun (n71 : Int) (n72 : Int) (n73 : Int) (n74 : Int) (n75 : Int) (n76 : Int) (n77 : Int) =>
.ex [.adr] (c1 fun a78 => 0 ≤ n49 ∧ n49 < ((data.len : Nat) : Int) ∧ data.a = some a78) (u1 fun a79 =>
.read True (ld T.dedup_Row (Addr.add a79 (Int.toNat n49 * 7))) (sG [.int .i64, .int .i64, .int .i64, .int .i64, .int .i64, .int .i64, .int .i64]) (u7 fun (n80 : Int) (n81 : Int) (n82 : Int) (n83 : Int) (n84 : Int) (n85 : Int) (n86 : Int) =>
.ex [.adr] (c1 fun a87 => 0 ≤ n49 ∧ n49 < ((data.len : Nat) : Int) ∧ data.a = some a87) (u1 fun a88 =>
.actU (st T.dedup_Row (Addr.add a88 (Int.toNat n49 * 7)) (.agg #[.int .i64 n71, .int .i64 n72, .int .i64 n73, .int .i64 n74, .int .i64 n75, .int .i64 n76, .int .i64 n77])) <|
.ex [.adr] (c1 fun a89 => 0 ≤ IntKind.wrap .i64 (n49 - 1) ∧ IntKind.wrap .i64 (n49 - 1) < ((data.len : Nat) : Int) ∧ data.a = some a89) (u1 fun a90 =>
.actU (st T.dedup_Row (Addr.add a90 (Int.toNat (IntKind.wrap .i64 (n49 - 1)) * 7)) (.agg #[.int .i64 n80, .int .i64 n81, .int .i64 n82, .int .i64 n83, .int .i64 n84, .int .i64 n85, .int .i64 n86])) <|
.untick <|
.done 7 []))))))) (u0 <|
.lt (.int .i64) (IntKind.wrap .i64 (n49 - 1)) fun (n91 : Int) =>
.done 6 [.int .i64 n91])))))))) (
.done 5 []))) (u0 <|
.done 4 [])) (
.done 4 [])) (u0 <|
.bind 4 [] (
.ite (decide (IntKind.wrap .i64 (b - n25) ≥ 2)) (
.lt (.int .i64) (IntKind.wrap .i64 (n25 + 1)) fun (n92 : Int) =>
.bind 5 [] (
.loop 6 [.one (.int .i64)] (n92, ()) (u1 fun (n93 : Int) =>
.ite (decide (n93 < b)) (
.tick <|
.ex [.adr] (c1 fun a94 => 0 ≤ n93 ∧ n93 < ((data.len : Nat) : Int) ∧ data.a = some a94) (u1 fun a95 =>
.read True (ld T.dedup_Row (Addr.add a95 (Int.toNat n93 * 7))) (sG [.int .i64, .int .i64, .int .i64, .int .i64, .int .i64, .int .i64, .int .i64]) (u7 fun (n96 : Int) (n97 : Int) (n98 : Int) (n99 : Int) (n100 : Int) (n101 : Int) (n102 : Int) =>
.ex [.adr] (c1 fun a103 => 0 ≤ IntKind.wrap .i64 (n93 - 1) ∧ IntKind.wrap .i64 (n93 - 1) < ((data.len : Nat) : Int) ∧ data.a = some a103) (u1 fun a104 =>
.read True (ld T.dedup_Row (Addr.add a104 (Int.toNat (IntKind.wrap .i64 (n93 - 1)) * 7))) (sG [.int .i64, .int .i64, .int .i64, .int .i64, .int .i64, .int .i64, .int .i64]) (u7 fun (n105 : Int) (n106 : Int) (n107 : Int) (n108 : Int) (n109 : Int) (n110 : Int) (n111 : Int) =>
.callv (cmp) [.agg #[.int .i64 n96, .int .i64 n97, .int .i64 n98, .int .i64 n99, .int .i64 n100, .int .i64 n101, .int .i64 n102], .agg #[.int .i64 n105, .int .i64 n106, .int .i64 n107, .int .i64 n108, .int .i64 n109, .int .i64 n110, .int .i64 n111]] (sI .i64) (u1 fun (n112 : Int) =>
.untick <|
.ite (not (decide (n112 < 0))) (
.done 5 []) (
.bind 7 [] (
.tick <|
.ex [.adr] (c1 fun a113 => 0 ≤ IntKind.wrap .i64 (n93 - 1) ∧ IntKind.wrap .i64 (n93 - 1) < ((data.len : Nat) : Int) ∧ data.a = some a113) (u1 fun a114 =>
.read True (ld T.dedup_Row (Addr.add a114 (Int.toNat (IntKind.wrap .i64 (n93 - 1)) * 7))) (sG [.int .i64, .int .i64, .int .i64, .int .i64, .int .i64, .int .i64, .int .i64]) (u7 fun (n115 : Int) (n116 : Int) (n117 : Int) (n118 : Int) (n119 : Int) (n120 : Int) (n121 : Int) =>
.ex [.adr] (c1 fun a122 => 0 ≤ n93 ∧ n93 < ((data.len : Nat) : Int) ∧ data.a = some a122) (u1 fun a123 =>
.read True (ld T.dedup_Row (Addr.add a123 (Int.toNat n93 * 7))) (sG [.int .i64, .int .i64, .int .i64, .int .i64, .int .i64, .int .i64, .int .i64]) (u7 fun (n124 : Int) (n125 : Int) (n126 : Int) (n127 : Int) (n128 : Int) (n129 : Int) (n130 : Int) =>
.ex [.adr] (c1 fun a131 => 0 ≤ n93 ∧ n93 < ((data.len : Nat) : Int) ∧ data.a = some a131) (u1 fun a132 =>
.actU (st T.dedup_Row (Addr.add a132 (Int.toNat n93 * 7)) (.agg #[.int .i64 n115, .int .i64 n116, .int .i64 n117, .int .i64 n118, .int .i64 n119, .int .i64 n120, .int .i64 n121])) <|
.ex [.adr] (c1 fun a133 => 0 ≤ IntKind.wrap .i64 (n93 - 1) ∧ IntKind.wrap .i64 (n93 - 1) < ((data.len : Nat) : Int) ∧ data.a = some a133) (u1 fun a134 =>
.actU (st T.dedup_Row (Addr.add a134 (Int.toNat (IntKind.wrap .i64 (n93 - 1)) * 7)) (.agg #[.int .i64 n124, .int .i64 n125, .int .i64 n126, .int .i64 n127, .int .i64 n128, .int .i64 n129, .int .i64 n130])) <|
.untick <|
.done 7 []))))))) (u0 <|
.lt (.int .i64) (IntKind.wrap .i64 (n93 + 1)) fun (n135 : Int) =>
.done 6 [.int .i64 n135])))))))) (
.done 5 []))) (u0 <|
.done 4 [])) (
.done 4 [])) (u0 <|
.done 3 [.int .i64 n25]))))))) (u1 fun (n136 : Int) =>
.lt (.int .i64) (IntKind.wrap .i64 (n2 + 1)) fun (n137 : Int) =>
.done 2 [.int .i64 n136, .int .i64 n137])) (
.done 1 []))) (u0 <|
.done 0 [.bool false])
theorem slices_partialInsertionSortCmpFunc_dedup_Row_eq (data : Sl) (a : Int) (b : Int) (cmp : Value) : decomp P 141 ⟨okFs, []⟩ { cnd := [(10384593716767423802157335373152321, []), (11417981541481525548993173271482985208543707240, [])], blk := [(0, []), (1, [(9, .one (.int .i64))]), (2, [(9, .one (.int .i64))]), (4, []), (6, [])], reg := [(5, [(36, .one .bool)]), (11, []), (17, []), (23, [])], lps := [(0, [(9, .one (.int .i64)), (10, .one (.int .i64))]), (2, [(9, .one (.int .i64))]), (4, [(11, .one (.int .i64))]), (6, [(12, .one (.int .i64))])] } [.tmp 8] (bodyOf Go.Proofs.Tryz.f97) [.val (.slice data.a data.len data.cap), .val (.int .i64 a), .val (.int .i64 b), .any cmp] = slices_partialInsertionSortCmpFunc_dedup_Row data a b cmp := by kernel_rfl
theorem slices_partialInsertionSortCmpFunc_dedup_Row_calls (data : Sl) (a : Int) (b : Int) (cmp : Value) {w : World} {R : List Value → World → Prop} (h : (slices_partialInsertionSortCmpFunc_dedup_Row data a b cmp).wp P (fun _ => True) w fun e vs w' => e = 0 ∧ R vs w') :
    Calls P F.slices_partialInsertionSortCmpFunc_dedup_Row #[.slice data.a data.len data.cap, .int .i64 a, .int .i64 b, cmp] w fun e w' => ∃ vs, e = .returned (pack vs) ∧ R vs w' :=
  decomp_sound (isFn_of Go.Proofs.Tryz.func97 (by kernel_rfl) (by kernel_rfl) (by kernel_rfl)) okFs_ok mix [.val (.slice data.a data.len data.cap), .val (.int .i64 a), .val (.int .i64 b), .any cmp] (by rw [slices_partialInsertionSortCmpFunc_dedup_Row_eq]; exact h)

def slices_partitionEqualCmpFunc_dedup_Row (data : Sl) (a : Int) (b : Int) (pivot : Int) (cmp : Value) : Prog :=
.bind 1 [] (
.tick <|
.ex [.adr] (c1 fun a0 => 0 ≤ pivot ∧ pivot < ((data.len : Nat) : Int) ∧ data.a = some a0) (u1 fun a1 =>
.read True (ld T.dedup_Row (Addr.add a1 (Int.toNat pivot * 7))) (sG [.int .i64, .int .i64, .int .i64, .int .i64, .int .i64, .int .i64, .int .i64]) (u7 fun (n2 : Int) (n3 : Int) (n4 : Int) (n5 : Int) (n6 : Int) (n7 : Int) (n8 : Int) =>
.ex [.adr] (c1 fun a9 => 0 ≤ a ∧ a < ((data.len : Nat) : Int) ∧ data.a = some a9) (u1 fun a10 =>
.read True (ld T.dedup_Row (Addr.add a10 (Int.toNat a * 7))) (sG [.int .i64, .int .i64, .int .i64, .int .i64, .int .i64, .int .i64, .int .i64]) (u7 fun (n11 : Int) (n12 : Int) (n13 : Int) (n14 : Int) (n15 : Int) (n16 : Int) (n17 : Int) =>
.ex [.adr] (c1 fun a18 => 0 ≤ a ∧ a < ((data.len : Nat) : Int) ∧ data.a = some a18) (u1 fun a19 =>
.actU (st T.dedup_Row (Addr.add a19 (Int.toNat a * 7)) (.agg #[.int .i64 n2, .int .i64 n3, .int .i64 n4, .int .i64 n5, .int .i64 n6, .int .i64 n7, .int .i64 n8])) <|
.ex [.adr] (c1 fun a20 => 0 ≤ pivot ∧ pivot < ((data.len : Nat) : Int) ∧ data.a = some a20) (u1 fun a21 =>
.actU (st T.dedup_Row (Addr.add a21 (Int.toNat pivot * 7)) (.agg #[.int .i64 n11, .int .i64 n12, .int .i64 n13, .int .i64 n14, .int .i64 n15, .int .i64 n16, .int .i64 n17])) <|
.untick <|
.done 1 []))))))) (u0 <|
.lt (.int .i64) (IntKind.wrap .i64 (a + 1)) fun (n22 : Int) =>
.lt (.int .i64) (IntKind.wrap .i64 (b - 1)) fun (n23 : Int) =>
.bind 1 [.one (.int .i64)] (
.loop 2 [.one (.int .i64), .one (.int .i64)] (n22, (n23, ())) (u2 fun (n24 : Int) (n25 : Int) =>
.bind 3 [.one (.int .i64), .one (.int .i64)] (
.bind 4 [.one (.int .i64)] (
.loop 5 [.one (.int .i64)] (n24, ()) (u1 fun (n26 : Int) =>
.bind 6 [.one .bool] (
.tick <|
.ex [.adr] (c1 fun a27 => decide (n26 ≤ n25) = true → 0 ≤ a ∧ a < ((data.len : Nat) : Int) ∧ data.a = some a27) (u1 fun a28 =>
.read (decide (n26 ≤ n25) = true) (ld T.dedup_Row (Addr.add a28 (Int.toNat a * 7))) (sG [.int .i64, .int .i64, .int .i64, .int .i64, .int .i64, .int .i64, .int .i64]) (u7 fun (n29 : Int) (n30 : Int) (n31 : Int) (n32 : Int) (n33 : Int) (n34 : Int) (n35 : Int) =>
.ex [.adr] (c1 fun a36 => decide (n26 ≤ n25) = true → 0 ≤ n26 ∧ n26 < ((data.len : Nat) : Int) ∧ data.a = some a36) (u1 fun a37 =>
.read (decide (n26 ≤ n25) = true) (ld T.dedup_Row (Addr.add a37 (Int.toNat n26 * 7))) (sG [.int .i64, .int .i64, .int .i64, .int .i64, .int .i64, .int .i64, .int .i64]) (u7 fun (n38 : Int) (n39 : Int) (n40 : Int) (n41 : Int) (n42 : Int) (n43 : Int) (n44 : Int) =>
.ite (decide (n26 ≤ n25)) (
.callv (cmp) [.agg #[.int .i64 n29, .int .i64 n30, .int .i64 n31, .int .i64 n32, .int .i64 n33, .int .i64 n34, .int .i64 n35], .agg #[.int .i64 n38, .int .i64 n39, .int .i64 n40, .int .i64 n41, .int .i64 n42, .int .i64 n43, .int .i64 n44]] (sI .i64) (u1 fun (n45 : Int) =>
.untick <|
.done 6 [.bool (not (decide (n45 < 0)))])) (
.untick <|
.done 6 [.bool false])))))) (u1 fun b46 =>
.ite (b46) (
.lt (.int .i64) (IntKind.wrap .i64 (n26 + 1)) fun (n47 : Int) =>
.done 5 [.int .i64 n47]) (
.done 4 [.int .i64 n26])))) (u1 fun (n48 : Int) =>
.bind 4 [.one (.int .i64)] (
.loop 5 [.one (.int .i64)] (n25, ()) (u1 fun (n49 : Int) =>
.bind 6 [.one .bool] (
.tick <|
.ex [.adr] (c1 fun a50 => decide (n48 ≤ n49) = true → 0 ≤ a ∧ a < ((data.len : Nat) : Int) ∧ data.a = some a50) (u1 fun a51 =>
.read (decide (n48 ≤ n49) = true) (ld T.dedup_Row (Addr.add a51 (Int.toNat a * 7))) (sG [.int .i64, .int .i64, .int .i64, .int .i64, .int .i64, .int .i64, .int .i64]) (u7 fun (n52 : Int) (n53 : Int) (n54 : Int) (n55 : Int) (n56 : Int) (n57 : Int) (n58 : Int) =>
.ex [.adr] (c1 fun a59 => decide (n48 ≤ n49) = true → 0 ≤ n49 ∧ n49 < ((data.len : Nat) : Int) ∧ data.a = some a59) (u1 fun a60 =>
.read (decide (n48 ≤ n49) = true) (ld T.dedup_Row (Addr.add a60 (Int.toNat n49 * 7))) (sG [.int .i64, .int .i64, .int .i64, .int .i64, .int .i64, .int .i64, .int .i64]) (u7 fun (n61 : Int) (n62 : Int) (n63 : Int) (n64 : Int) (n65 : Int) (n66 : Int) (n67 : Int) =>
.ite (decide (n48 ≤ n49)) (
.callv (cmp) [.agg #[.int .i64 n52, .int .i64 n53, .int .i64 n54, .int .i64 n55, .int .i64 n56, .int .i64 n57, .int .i64 n58], .agg #[.int .i64 n61, .int .i64 n62, .int .i64 n63, .int .i64 n64, .int .i64 n65, .int .i64 n66, .int .i64 n67]] (sI .i64) (u1 fun (n68 : Int) =>
.untick <|
.done 6 [.bool (decide (n68 < 0))])) (
.untick <|
.done 6 [.bool false])))))) (u1 fun b69 =>
.ite (b69) (
.lt (.int .i64) (IntKind.wrap .i64 (n49 - 1)) fun (n70 : Int) =>
.done 5 [.int .i64 n70]) (
.done 4 [.int .i64 n49])))) (u1 fun (n71 : Int) =>
.ite (decide (n48 > n71)) (
.done 1 [.int .i64 n48]) (
.bind 4 [] (
.tick <|
.ex [.adr] (c1 fun a72 => 0 ≤ n71 ∧ n71 < ((data.len : Nat) : Int) ∧ data.a = some a72) (u1 fun a73 =>
.read True (ld T.dedup_Row (Addr.add a73 (Int.toNat n71 * 7))) (sG [.int .i64, .int .i64, .int .i64, .int .i64, .int .i64, .int .i64, .int .i64]) (u7 fun (n74 : Int) (n75 : Int) (n76 : Int) (n77 : Int) (n78 : Int) (n79 : Int) (n80 : Int) =>
.ex [.adr] (c1 fun a81 => 0 ≤ n48 ∧ n48 < ((data.len : Nat) : Int) ∧ data.a = some a81) (u1 fun a82 =>
.read True (ld T.dedup_Row (Addr.add a82 (Int.toNat n48 * 7))) (sG [.int .i64, .int .i64, .int .i64, .int .i64, .int .i64, .int .i64, .int .i64]) (u7 fun (n83 : Int) (n84 : Int) (n85 : Int) (n86 : Int) (n87 : Int) (n88 : Int) (n89 : Int) =>
.ex [.adr] (c1 fun a90 => 0 ≤ n48 ∧ n48 < ((data.len : Nat) : Int) ∧ data.a = some a90) (u1 fun a91 =>
.actU (st T.dedup_Row (Addr.add a91 (Int.toNat n48 * 7)) (.agg #[.int .i64 n74, .int .i64 n75, .int .i64 n76, .int .i64 n77, .int .i64 n78, .int .i64 n79, .int .i64 n80])) <|
.ex [.adr] (c1 fun a92 => 0 ≤ n71 ∧ n71 < ((data.len : Nat) : Int) ∧ data.a = some a92) (u1 fun a93 =>
.actU (st T.dedup_Row (Addr.add a93 (Int.toNat n71 * 7)) (.agg #[.int .i64 n83, .int .i64 n84, .int .i64 n85, .int .i64 n86, .int .i64 n87, .int .i64 n88, .int .i64 n89])) <|
.untick <|
.done 4 []))))))) (u0 <|
.lt (.int .i64) (IntKind.wrap .i64 (n48 + 1)) fun (n94 : Int) =>
.lt (.int .i64) (IntKind.wrap .i64 (n71 - 1)) fun (n95 : Int) =>
.done 3 [.int .i64 n94, .int .i64 n95]))))) (u2 fun (n96 : Int) (n97 : Int) =>
.done 2 [.int .i64 n96, .int .i64 n97]))) (u1 fun (n98 : Int) =>
.lt (.int .i64) (n98) fun (n99 : Int) =>
.done 0 [.int .i64 n99]))
theorem slices_partitionEqualCmpFunc_dedup_Row_eq (data : Sl) (a : Int) (b : Int) (pivot : Int) (cmp : Value) : decomp P 90 ⟨okFs, []⟩ { cnd := [], blk := [(0, [(11, .one (.int .i64))]), (1, [(11, .one (.int .i64)), (12, .one (.int .i64))]), (2, [(11, .one (.int .i64))]), (4, [(12, .one (.int .i64))])], reg := [(1, []), (3, [(47, .one .bool)]), (5, [(65, .one .bool)]), (8, [])], lps := [(0, [(11, .one (.int .i64)), (12, .one (.int .i64))]), (2, [(11, .one (.int .i64))]), (4, [(12, .one (.int .i64))])] } [.tmp 10] (bodyOf Go.Proofs.Tryz.f98) [.val (.slice data.a data.len data.cap), .val (.int .i64 a), .val (.int .i64 b), .val (.int .i64 pivot), .any cmp] = slices_partitionEqualCmpFunc_dedup_Row data a b pivot cmp := by kernel_rfl
theorem slices_partitionEqualCmpFunc_dedup_Row_calls (data : Sl) (a : Int) (b : Int) (pivot : Int) (cmp : Value) {w : World} {R : List Value → World → Prop} (h : (slices_partitionEqualCmpFunc_dedup_Row data a b pivot cmp).wp P (fun _ => True) w fun e vs w' => e = 0 ∧ R vs w') :
    Calls P F.slices_partitionEqualCmpFunc_dedup_Row #[.slice data.a data.len data.cap, .int .i64 a, .int .i64 b, .int .i64 pivot, cmp] w fun e w' => ∃ vs, e = .returned (pack vs) ∧ R vs w' :=
  decomp_sound (isFn_of Go.Proofs.Tryz.func98 (by kernel_rfl) (by kernel_rfl) (by kernel_rfl)) okFs_ok mix [.val (.slice data.a data.len data.cap), .val (.int .i64 a), .val (.int .i64 b), .val (.int .i64 pivot), .any cmp] (by rw [slices_partitionEqualCmpFunc_dedup_Row_eq]; exact h)

def slices_partitionCmpFunc_dedup_Row (data : Sl) (a : Int) (b : Int) (pivot : Int) (cmp : Value) : Prog :=
.bind 1 [] (
.tick <|
.ex [.adr] (c1 fun a0 => 0 ≤ pivot ∧ pivot < ((data.len : Nat) : Int) ∧ data.a = some a0) (u1 fun a1 =>
.read True (ld T.dedup_Row (Addr.add a1 (Int.toNat pivot * 7))) (sG [.int .i64, .int .i64, .int .i64, .int .i64, .int .i64, .int .i64, .int .i64]) (u7 fun (n2 : Int) (n3 : Int) (n4 : Int) (n5 : Int) (n6 : Int) (n7 : Int) (n8 : Int) =>
.ex [.adr] (c1 fun a9 => 0 ≤ a ∧ a < ((data.len : Nat) : Int) ∧ data.a = some a9) (u1 fun a10 =>
.read True (ld T.dedup_Row (Addr.add a10 (Int.toNat a * 7))) (sG [.int .i64, .int .i64, .int .i64, .int .i64, .int .i64, .int .i64, .int .i64]) (u7 fun (n11 : Int) (n12 : Int) (n13 : Int) (n14 : Int) (n15 : Int) (n16 : Int) (n17 : Int) =>
.ex [.adr] (c1 fun a18 => 0 ≤ a ∧ a < ((data.len : Nat) : Int) ∧ data.a = some a18) (u1 fun a19 =>
.actU (st T.dedup_Row (Addr.add a19 (Int.toNat a * 7)) (.agg #[.int .i64 n2, .int .i64 n3, .int .i64 n4, .int .i64 n5, .int .i64 n6, .int .i64 n7, .int .i64 n8])) <|
.ex [.adr] (c1 fun a20 => 0 ≤ pivot ∧ pivot < ((data.len : Nat) : Int) ∧ data.a = some a20) (u1 fun a21 =>
.actU (st T.dedup_Row (Addr.add a21 (Int.toNat pivot * 7)) (.agg #[.int .i64 n11, .int .i64 n12, .int .i64 n13, .int .i64 n14, .int .i64 n15, .int .i64 n16, .int .i64 n17])) <|
.untick <|
.done 1 []))))))) (u0 <|
.lt (.int .i64) (IntKind.wrap .i64 (a + 1)) fun (n22 : Int) =>
.lt (.int .i64) (IntKind.wrap .i64 (b - 1)) fun (n23 : Int) =>
.bind 1 [.one (.int .i64)] (
.loop 2 [.one (.int .i64)] (n22, ()) (u1 fun (n24 : Int) =>
.bind 3 [.one .bool] (
.tick <|
.ex [.adr] (c1 fun a25 => decide (n24 ≤ n23) = true → 0 ≤ n24 ∧ n24 < ((data.len : Nat) : Int) ∧ data.a = some a25) (u1 fun a26 =>
.read (decide (n24 ≤ n23) = true) (ld T.dedup_Row (Addr.add a26 (Int.toNat n24 * 7))) (sG [.int .i64, .int .i64, .int .i64, .int .i64, .int .i64, .int .i64, .int .i64]) (u7 fun (n27 : Int) (n28 : Int) (n29 : Int) (n30 : Int) (n31 : Int) (n32 : Int) (n33 : Int) =>
.ex [.adr] (c1 fun a34 => decide (n24 ≤ n23) = true → 0 ≤ a ∧ a < ((data.len : Nat) : Int) ∧ data.a = some a34) (u1 fun a35 =>
.read (decide (n24 ≤ n23) = true) (ld T.dedup_Row (Addr.add a35 (Int.toNat a * 7))) (sG [.int .i64, .int .i64, .int .i64, .int .i64, .int .i64, .int .i64, .int .i64]) (u7 fun (n36 : Int) (n37 : Int) (n38 : Int) (n39 : Int) (n40 : Int) (n41 : Int) (n42 : Int) =>
.ite (decide (n24 ≤ n23)) (
.callv (cmp) [.agg #[.int .i64 n27, .int .i64 n28, .int .i64 n29, .int .i64 n30, .int .i64 n31, .int .i64 n32, .int .i64 n33], .agg #[.int .i64 n36, .int .i64 n37, .int .i64 n38, .int .i64 n39, .int .i64 n40, .int .i64 n41, .int .i64 n42]] (sI .i64) (u1 fun (n43 : Int) =>
.untick <|
.done 3 [.bool (decide (n43 < 0))])) (
.untick <|
.done 3 [.bool false])))))) (u1 fun b44 =>
.ite (b44) (
.lt (.int .i64) (IntKind.wrap .i64 (n24 + 1)) fun (n45 : Int) =>
.done 2 [.int .i64 n45]) (
.done 1 [.int .i64 n24])))) (u1 fun (n46 : Int) =>
.bind 1 [.one (.int .i64)] (
.loop 2 [.one (.int .i64)] (n23, ()) (u1 fun (n47 : Int) =>
.bind 3 [.one .bool] (
.tick <|
.ex [.adr] (c1 fun a48 => decide (n46 ≤ n47) = true → 0 ≤ n47 ∧ n47 < ((data.len : Nat) : Int) ∧ data.a = some a48) (u1 fun a49 =>
.read (decide (n46 ≤ n47) = true) (ld T.dedup_Row (Addr.add a49 (Int.toNat n47 * 7))) (sG [.int .i64, .int .i64, .int .i64, .int .i64, .int .i64, .int .i64, .int .i64]) (u7 fun (n50 : Int) (n51 : Int) (n52 : Int) (n53 : Int) (n54 : Int) (n55 : Int) (n56 : Int) =>
.ex [.adr] (c1 fun a57 => decide (n46 ≤ n47) = true → 0 ≤ a ∧ a < ((data.len : Nat) : Int) ∧ data.a = some a57) (u1 fun a58 =>
.read (decide (n46 ≤ n47) = true) (ld T.dedup_Row (Addr.add a58 (Int.toNat a * 7))) (sG [.int .i64, .int .i64, .int .i64, .int .i64, .int .i64, .int .i64, .int .i64]) (u7 fun (n59 : Int) (n60 : Int) (n61 : Int) (n62 : Int) (n63 : Int) (n64 : Int) (n65 : Int) =>
.ite (decide (n46 ≤ n47)) (
.callv (cmp) [.agg #[.int .i64 n50, .int .i64 n51, .int .i64 n52, .int .i64 n53, .int .i64 n54, .int .i64 n55, .int .i64 n56], .agg #[.int .i64 n59, .int .i64 n60, .int .i64 n61, .int .i64 n62, .int .i64 n63, .int .i64 n64, .int .i64 n65]] (sI .i64) (u1 fun (n66 : Int) =>
.untick <|
.done 3 [.bool (not (decide (n66 < 0)))])) (
.untick <|
.done 3 [.bool false])))))) (u1 fun b67 =>
.ite (b67) (
.lt (.int .i64) (IntKind.wrap .i64 (n47 - 1)) fun (n68 : Int) =>
.done 2 [.int .i64 n68]) (
.done 1 [.int .i64 n47])))) (u1 fun (n69 : Int) =>
.ite (decide (n46 > n69)) (
.bind 1 [] (
.tick <|
.ex [.adr] (c1 fun a70 => 0 ≤ a ∧ a < ((data.len : Nat) : Int) ∧ data.a = some a70) (u1 fun a71 =>
.read True (ld T.dedup_Row (Addr.add a71 (Int.toNat a * 7))) (sG [.int .i64, .int .i64, .int .i64, .int .i64, .int .i64, .int .i64, .int .i64]) (u7 fun (n72 : Int) (n73 : Int) (n74 : Int) (n75 : Int) (n76 : Int) (n77 : Int) (n78 : Int) =>
.ex [.adr] (c1 fun a79 => 0 ≤ n69 ∧ n69 < ((data.len : Nat) : Int) ∧ data.a = some a79) (u1 fun a80 =>
.read True (ld T.dedup_Row (Addr.add a80 (Int.toNat n69 * 7))) (sG [.int .i64, .int .i64, .int .i64, .int .i64, .int .i64, .int .i64, .int .i64]) (u7 fun (n81 : Int) (n82 : Int) (n83 : Int) (n84 : Int) (n85 : Int) (n86 : Int) (n87 : Int) =>
.ex [.adr] (c1 fun a88 => 0 ≤ n69 ∧ n69 < ((data.len : Nat) : Int) ∧ data.a = some a88) (u1 fun a89 =>
.actU (st T.dedup_Row (Addr.add a89 (Int.toNat n69 * 7)) (.agg #[.int .i64 n72, .int .i64 n73, .int .i64 n74, .int .i64 n75, .int .i64 n76, .int .i64 n77, .int .i64 n78])) <|
.ex [.adr] (c1 fun a90 => 0 ≤ a ∧ a < ((data.len : Nat) : Int) ∧ data.a = some a90) (u1 fun a91 =>
.actU (st T.dedup_Row (Addr.add a91 (Int.toNat a * 7)) (.agg #[.int .i64 n81, .int .i64 n82, .int .i64 n83, .int .i64 n84, .int .i64 n85, .int .i64 n86, .int .i64 n87])) <|
.untick <|
.done 1 []))))))) (u0 <|
.lt (.int .i64) (n69) fun (n92 : Int) =>
.done 0 [.int .i64 n92, .bool true])) (
.bind 1 [] (
.tick <|
.ex [.adr] (c1 fun a93 => 0 ≤ n69 ∧ n69 < ((data.len : Nat) : Int) ∧ data.a = some a93) (u1 fun a94 =>
.read True (ld T.dedup_Row (Addr.add a94 (Int.toNat n69 * 7))) (sG [.int .i64, .int .i64, .int .i64, .int .i64, .int .i64, .int .i64, .int .i64]) (u7 fun (n95 : Int) (n96 : Int) (n97 : Int) (n98 : Int) (n99 : Int) (n100 : Int) (n101 : Int) =>
.ex [.adr] (c1 fun a102 => 0 ≤ n46 ∧ n46 < ((data.len : Nat) : Int) ∧ data.a = some a102) (u1 fun a103 =>
.read True (ld T.dedup_Row (Addr.add a103 (Int.toNat n46 * 7))) (sG [.int .i64, .int .i64, .int .i64, .int .i64, .int .i64, .int .i64, .int .i64]) (u7 fun (n104 : Int) (n105 : Int) (n106 : Int) (n107 : Int) (n108 : Int) (n109 : Int) (n110 : Int) =>
.ex [.adr] (c1 fun a111 => 0 ≤ n46 ∧ n46 < ((data.len : Nat) : Int) ∧ data.a = some a111) (u1 fun a112 =>
.actU (st T.dedup_Row (Addr.add a112 (Int.toNat n46 * 7)) (.agg #[.int .i64 n95, .int .i64 n96, .int .i64 n97, .int .i64 n98, .int .i64 n99, .int .i64 n100, .int .i64 n101])) <|
.ex [.adr] (c1 fun a113 => 0 ≤ n69 ∧ n69 < ((data.len : Nat) : Int) ∧ data.a = some a113) (u1 fun a114 =>
.actU (st T.dedup_Row (Addr.add a114 (Int.toNat n69 * 7)) (.agg #[.int .i64 n104, .int .i64 n105, .int .i64 n106, .int .i64 n107, .int .i64 n108, .int .i64 n109, .int .i64 n110])) <|
.untick <|
.done 1 []))))))) (u0 <|
.lt (.int .i64) (IntKind.wrap .i64 (n46 + 1)) fun (n115 : Int) =>
.lt (.int .i64) (IntKind.wrap .i64 (n69 - 1)) fun (n116 : Int) =>
.bind 1 [.one (.int .i64)] (
.loop 2 [.one (.int .i64), .one (.int .i64)] (n115, (n116, ())) (u2 fun (n117 : Int) (n118 : Int) =>
.bind 3 [.one (.int .i64), .one (.int .i64)] (
.bind 4 [.one (.int .i64)] (
.loop 5 [.one (.int .i64)] (n117, ()) (u1 fun (n119 : Int) =>
.bind 6 [.one .bool] (
.tick <|
.ex [.adr] (c1 fun a120 => decide (n119 ≤ n118) = true → 0 ≤ n119 ∧ n119 < ((data.len : Nat) : Int) ∧ data.a = some a120) (u1 fun a121 =>
.read (decide (n119 ≤ n118) = true) (ld T.dedup_Row (Addr.add a121 (Int.toNat n119 * 7))) (sG [.int .i64, .int .i64, .int .i64, .int .i64, .int .i64, .int .i64, .int .i64]) (u7 fun (n122 : Int) (n123 : Int) (n124 : Int) (n125 : Int) (n126 : Int) (n127 : Int) (n128 : Int) =>
.ex [.adr] (c1 fun a129 => decide (n119 ≤ n118) = true → 0 ≤ a ∧ a < ((data.len : Nat) : Int) ∧ data.a = some a129) (u1 fun a130 =>
.read (decide (n119 ≤ n118) = true) (ld T.dedup_Row (Addr.add a130 (Int.toNat a * 7))) (sG [.int .i64, .int .i64, .int .i64, .int .i64, .int .i64, .int .i64, .int .i64]) (u7 fun (n131 : Int) (n132 : Int) (n133 : Int) (n134 : Int) (n135 : Int) (n136 : Int) (n137 : Int) =>
.ite (decide (n119 ≤ n118)) (
.callv (cmp) [.agg #[.int .i64 n122, .int .i64 n123, .int .i64 n124, .int .i64 n125, .int .i64 n126, .int .i64 n127, .int .i64 n128], .agg #[.int .i64 n131, .int .i64 n132, .int .i64 n133, .int .i64 n134, .int .i64 n135, .int .i64 n136, .int .i64 n137]] (sI .i64) (u1 fun (n138 : Int) =>
.untick <|
.done 6 [.bool (decide (n138 < 0))])) (
.untick <|
.done 6 [.bool false])))))) (u1 fun b139 =>
.ite (b139) (
.lt (.int .i64) (IntKind.wrap .i64 (n119 + 1)) fun (n140 : Int) =>
.done 5 [.int .i64 n140]) (
.done 4 [.int .i64 n119])))) (u1 fun (n141 : Int) =>
.bind 4 [.one (.int .i64)] (
.loop 5 [.one (.int .i64)] (n118, ()) (u1 fun (n142 : Int) =>
.bind 6 [.one .bool] (
.tick <|
.ex [.adr] (c1 fun a143 => decide (n141 ≤ n142) = true → 0 ≤ n142 ∧ n142 < ((data.len : Nat) : Int) ∧ data.a = some a143) (u1 fun a144 =>
.read (decide (n141 ≤ n142) = true) (ld T.dedup_Row (Addr.add a144 (Int.toNat n142 * 7))) (sG [.int .i64, .int .i64, .int .i64, .int .i64, .int .i64, .int .i64, .int .i64]) (u7 fun (n145 : Int) (n146 : Int) (n147 : Int) (n148 : Int) (n149 : Int) (n150 : Int) (n151 : Int) =>
.ex [.adr] (c1 fun a152 => decide (n141 ≤ n142) = true → 0 ≤ a ∧ a < ((data.len : Nat) : Int) ∧ data.a = some a152) (u1 fun a153 =>
.read (decide (n141 ≤ n142) = true) (ld T.dedup_Row (Addr.add a153 (Int.toNat a * 7))) (sG [.int .i64, .int .i64, .int .i64, .int .i64, .int .i64, .int .i64, .int .i64]) (u7 fun (n154 : Int) (n155 : Int) (n156 : Int) (n157 : Int) (n158 : Int) (n159 : Int) (n160 : Int) =>
.ite (decide (n141 ≤ n142)) (
.callv (cmp) [.agg #[.int .i64 n145, .int .i64 n146, .int .i64 n147, .int .i64 n148, .int .i64 n149, .int .i64 n150, .int .i64 n151], .agg #[.int .i64 n154, .int .i64 n155, .int .i64 n156, .int .i64 n157, .int .i64 n158, .int .i64 n159, .int .i64 n160]] (sI .i64) (u1 fun (n161 : Int) =>
.untick <|
.done 6 [.bool (not (decide (n161 < 0)))])) (
.untick <|
.done 6 [.bool false])))))) (u1 fun b162 =>
.ite (b162) (
.lt (.int .i64) (IntKind.wrap .i64 (n142 - 1)) fun (n163 : Int) =>
.done 5 [.int .i64 n163]) (
.done 4 [.int .i64 n142])))) (u1 fun (n164 : Int) =>
.ite (decide (n141 > n164)) (
.done 1 [.int .i64 n164]) (
.bind 4 [] (
.tick <|
.ex [.adr] (c1 fun a165 => 0 ≤ n164 ∧ n164 < ((data.len : Nat) : Int) ∧ data.a = some a165) (u1 fun a166 =>
.read True (ld T.dedup_Row (Addr.add a166 (Int.toNat n164 * 7))) (sG [.int .i64, .int .i64, .int .i64, .int .i64, .int .i64, .int .i64, .int .i64]) (u7 fun (n167 : Int) (n168 : Int) (n169 : Int) (n170 : Int) (n171 : Int) (n172 : Int) (n173 : Int) =>
.ex [.adr] (c1 fun a174 => 0 ≤ n141 ∧ n141 < ((data.len : Nat) : Int) ∧ data.a = some a174) (u1 fun a175 =>
.read True (ld T.dedup_Row (Addr.add a175 (Int.toNat n141 * 7))) (sG [.int .i64, .int .i64, .int .i64, .int .i64, .int .i64, .int .i64, .int .i64]) (u7 fun (n176 : Int) (n177 : Int) (n178 : Int) (n179 : Int) (n180 : Int) (n181 : Int) (n182 : Int) =>
.ex [.adr] (c1 fun a183 => 0 ≤ n141 ∧ n141 < ((data.len : Nat) : Int) ∧ data.a = some a183) (u1 fun a184 =>
.actU (st T.dedup_Row (Addr.add a184 (Int.toNat n141 * 7)) (.agg #[.int .i64 n167, .int .i64 n168, .int .i64 n169, .int .i64 n170, .int .i64 n171, .int .i64 n172, .int .i64 n173])) <|
.ex [.adr] (c1 fun a185 => 0 ≤ n164 ∧ n164 < ((data.len : Nat) : Int) ∧ data.a = some a185) (u1 fun a186 =>
.actU (st T.dedup_Row (Addr.add a186 (Int.toNat n164 * 7)) (.agg #[.int .i64 n176, .int .i64 n177, .int .i64 n178, .int .i64 n179, .int .i64 n180, .int .i64 n181, .int .i64 n182])) <|
.untick <|
.done 4 []))))))) (u0 <|
.lt (.int .i64) (IntKind.wrap .i64 (n141 + 1)) fun (n187 : Int) =>
.lt (.int .i64) (IntKind.wrap .i64 (n164 - 1)) fun (n188 : Int) =>
.done 3 [.int .i64 n187, .int .i64 n188]))))) (u2 fun (n189 : Int) (n190 : Int) =>
.done 2 [.int .i64 n189, .int .i64 n190]))) (u1 fun (n191 : Int) =>
.bind 1 [] (
.tick <|
.ex [.adr] (c1 fun a192 => 0 ≤ a ∧ a < ((data.len : Nat) : Int) ∧ data.a = some a192) (u1 fun a193 =>
.read True (ld T.dedup_Row (Addr.add a193 (Int.toNat a * 7))) (sG [.int .i64, .int .i64, .int .i64, .int .i64, .int .i64, .int .i64, .int .i64]) (u7 fun (n194 : Int) (n195 : Int) (n196 : Int) (n197 : Int) (n198 : Int) (n199 : Int) (n200 : Int) =>
.ex [.adr] (c1 fun a201 => 0 ≤ n191 ∧ n191 < ((data.len : Nat) : Int) ∧ data.a = some a201) (u1 fun a202 =>
.read True (ld T.dedup_Row (Addr.add a202 (Int.toNat n191 * 7))) (sG [.int .i64, .int .i64, .int .i64, .int .i64, .int .i64, .int .i64, .int .i64]) (u7 fun (n203 : Int) (n204 : Int) (n205 : Int) (n206 : Int) (n207 : Int) (n208 : Int) (n209 : Int) =>
.ex [.adr] (c1 fun a210 => 0 ≤ n191 ∧ n191 < ((data.len : Nat) : Int) ∧ data.a = some a210) (u1 fun a211 =>
.actU (st T.dedup_Row (Addr.add a211 (Int.toNat n191 * 7)) (.agg #[.int .i64 n194, .int .i64 n195, .int .i64 n196, .int .i64 n197, .int .i64 n198, .int .i64 n199, .int .i64 n200])) <|
.ex [.adr] (c1 fun a212 => 0 ≤ a ∧ a < ((data.len : Nat) : Int) ∧ data.a = some a212) (u1 fun a213 =>
.actU (st T.dedup_Row (Addr.add a213 (Int.toNat a * 7)) (.agg #[.int .i64 n203, .int .i64 n204, .int .i64 n205, .int .i64 n206, .int .i64 n207, .int .i64 n208, .int .i64 n209])) <|
.untick <|
.done 1 []))))))) (u0 <|
.lt (.int .i64) (n191) fun (n214 : Int) =>
.done 0 [.int .i64 n214, .bool false])))))))
theorem slices_partitionCmpFunc_dedup_Row_eq (data : Sl) (a : Int) (b : Int) (pivot : Int) (cmp : Value) : decomp P 178 ⟨okFs, []⟩ { cnd := [], blk := [(0, [(12, .one (.int .i64))]), (2, [(13, .one (.int .i64))]), (4, [(13, .one (.int .i64))]), (5, [(12, .one (.int .i64)), (13, .one (.int .i64))]), (6, [(12, .one (.int .i64))]), (8, [(13, .one (.int .i64))])], reg := [(1, []), (3, [(47, .one .bool)]), (5, [(66, .one .bool)]), (8, []), (10, []), (13, [(120, .one .bool)]), (15, [(139, .one .bool)]), (18, []), (21, [])], lps := [(0, [(12, .one (.int .i64))]), (2, [(13, .one (.int .i64))]), (4, [(12, .one (.int .i64)), (13, .one (.int .i64))]), (6, [(12, .one (.int .i64))]), (8, [(13, .one (.int .i64))])] } [.tmp 10, .tmp 11] (bodyOf Go.Proofs.Tryz.f99) [.val (.slice data.a data.len data.cap), .val (.int .i64 a), .val (.int .i64 b), .val (.int .i64 pivot), .any cmp] = slices_partitionCmpFunc_dedup_Row data a b pivot cmp := by kernel_rfl
theorem slices_partitionCmpFunc_dedup_Row_calls (data : Sl) (a : Int) (b : Int) (pivot : Int) (cmp : Value) {w : World} {R : List Value → World → Prop} (h : (slices_partitionCmpFunc_dedup_Row data a b pivot cmp).wp P (fun _ => True) w fun e vs w' => e = 0 ∧ R vs w') :
    Calls P F.slices_partitionCmpFunc_dedup_Row #[.slice data.a data.len data.cap, .int .i64 a, .int .i64 b, .int .i64 pivot, cmp] w fun e w' => ∃ vs, e = .returned (pack vs) ∧ R vs w' :=
  decomp_sound (isFn_of Go.Proofs.Tryz.func99 (by kernel_rfl) (by kernel_rfl) (by kernel_rfl)) okFs_ok mix [.val (.slice data.a data.len data.cap), .val (.int .i64 a), .val (.int .i64 b), .val (.int .i64 pivot), .any cmp] (by rw [slices_partitionCmpFunc_dedup_Row_eq]; exact h)

def math_bits_Len32 (x : Int) : Prog :=
.bind 1 [.one (.int .u32), .one (.int .i64)] (
.ite (decide (x ≥ 65536)) (
.lt (.int .u32) (Int.fdiv x 65536) fun (n0 : Int) =>
.done 1 [.int .u32 n0, .int .i64 16]) (
.done 1 [.int .u32 x, .int .i64 0])) (u2 fun (n1 : Int) (n2 : Int) =>
.bind 1 [.one (.int .u32), .one (.int .i64)] (
.ite (decide (n1 ≥ 256)) (
.lt (.int .u32) (Int.fdiv n1 256) fun (n3 : Int) =>
.lt (.int .i64) (IntKind.wrap .i64 (n2 + 8)) fun (n4 : Int) =>
.done 1 [.int .u32 n3, .int .i64 n4]) (
.done 1 [.int .u32 n1, .int .i64 n2])) (u2 fun (n5 : Int) (n6 : Int) =>
.must (0 ≤ IntKind.wrap .u8 n5 ∧ IntKind.wrap .u8 n5 < 256) <|
.lt (.int .i64) (IntKind.wrap .i64 (n6 + IntKind.wrap .i64 (bt (ByteArray.mk #[0, 1, 2, 2, 3, 3, 3, 3, 4, 4, 4, 4, 4, 4, 4, 4, 5, 5, 5, 5, 5, 5, 5, 5, 5, 5, 5, 5, 5, 5, 5, 5, 6, 6, 6, 6, 6, 6, 6, 6, 6, 6, 6, 6, 6, 6, 6, 6, 6, 6, 6, 6, 6, 6, 6, 6, 6, 6, 6, 6, 6, 6, 6, 6, 7, 7, 7, 7, 7, 7, 7, 7, 7, 7, 7, 7, 7, 7, 7, 7, 7, 7, 7, 7, 7, 7, 7, 7, 7, 7, 7, 7, 7, 7, 7, 7, 7, 7, 7, 7, 7, 7, 7, 7, 7, 7, 7, 7, 7, 7, 7, 7, 7, 7, 7, 7, 7, 7, 7, 7, 7, 7, 7, 7, 7, 7, 7, 7, 8, 8, 8, 8, 8, 8, 8, 8, 8, 8, 8, 8, 8, 8, 8, 8, 8, 8, 8, 8, 8, 8, 8, 8, 8, 8, 8, 8, 8, 8, 8, 8, 8, 8, 8, 8, 8, 8, 8, 8, 8, 8, 8, 8, 8, 8, 8, 8, 8, 8, 8, 8, 8, 8, 8, 8, 8, 8, 8, 8, 8, 8, 8, 8, 8, 8, 8, 8, 8, 8, 8, 8, 8, 8, 8, 8, 8, 8, 8, 8, 8, 8, 8, 8, 8, 8, 8, 8, 8, 8, 8, 8, 8, 8, 8, 8, 8, 8, 8, 8, 8, 8, 8, 8, 8, 8, 8, 8, 8, 8, 8, 8, 8, 8, 8, 8, 8, 8, 8, 8, 8, 8, 8, 8, 8, 8, 8, 8]) (IntKind.wrap .u8 n5)))) fun (n7 : Int) =>
.done 0 [.int .i64 n7]))
theorem math_bits_Len32_eq (x : Int) : decomp P 19 ⟨okFs, []⟩ { cnd := [(413700, [(0, .one (.int .u32)), (2, .one (.int .i64))]), (31477768, [(0, .one (.int .u32)), (2, .one (.int .i64))])], blk := [], reg := [], lps := [] } [.tmp 2] (bodyOf Go.Proofs.Tryz.f100) [.val (.int .u32 x)] = math_bits_Len32 x := by kernel_rfl
theorem math_bits_Len32_calls (x : Int) {w : World} {R : List Value → World → Prop} (h : (math_bits_Len32 x).wp P (fun _ => True) w fun e vs w' => e = 0 ∧ R vs w') :
    Calls P F.math_bits_Len32 #[.int .u32 x] w fun e w' => ∃ vs, e = .returned (pack vs) ∧ R vs w' :=
  decomp_sound (isFn_of Go.Proofs.Tryz.func100 (by kernel_rfl) (by kernel_rfl) (by kernel_rfl)) okFs_ok mix [.val (.int .u32 x)] (by rw [math_bits_Len32_eq]; exact h)

def math_bits_Len64 (x : Int) : Prog :=
.bind 1 [.one (.int .u64), .one (.int .i64)] (
.ite (decide (x ≥ 4294967296)) (
.lt (.int .u64) (Int.fdiv x 4294967296) fun (n0 : Int) =>
.done 1 [.int .u64 n0, .int .i64 32]) (
.done 1 [.int .u64 x, .int .i64 0])) (u2 fun (n1 : Int) (n2 : Int) =>
.bind 1 [.one (.int .u64), .one (.int .i64)] (
.ite (decide (n1 ≥ 65536)) (
.lt (.int .u64) (Int.fdiv n1 65536) fun (n3 : Int) =>
.lt (.int .i64) (IntKind.wrap .i64 (n2 + 16)) fun (n4 : Int) =>
.done 1 [.int .u64 n3, .int .i64 n4]) (
.done 1 [.int .u64 n1, .int .i64 n2])) (u2 fun (n5 : Int) (n6 : Int) =>
.bind 1 [.one (.int .u64), .one (.int .i64)] (
.ite (decide (n5 ≥ 256)) (
.lt (.int .u64) (Int.fdiv n5 256) fun (n7 : Int) =>
.lt (.int .i64) (IntKind.wrap .i64 (n6 + 8)) fun (n8 : Int) =>
.done 1 [.int .u64 n7, .int .i64 n8]) (
.done 1 [.int .u64 n5, .int .i64 n6])) (u2 fun (n9 : Int) (n10 : Int) =>
.must (0 ≤ IntKind.wrap .u8 n9 ∧ IntKind.wrap .u8 n9 < 256) <|
.lt (.int .i64) (IntKind.wrap .i64 (n10 + IntKind.wrap .i64 (bt (ByteArray.mk #[0, 1, 2, 2, 3, 3, 3, 3, 4, 4, 4, 4, 4, 4, 4, 4, 5, 5, 5, 5, 5, 5, 5, 5, 5, 5, 5, 5, 5, 5, 5, 5, 6, 6, 6, 6, 6, 6, 6, 6, 6, 6, 6, 6, 6, 6, 6, 6, 6, 6, 6, 6, 6, 6, 6, 6, 6, 6, 6, 6, 6, 6, 6, 6, 7, 7, 7, 7, 7, 7, 7, 7, 7, 7, 7, 7, 7, 7, 7, 7, 7, 7, 7, 7, 7, 7, 7, 7, 7, 7, 7, 7, 7, 7, 7, 7, 7, 7, 7, 7, 7, 7, 7, 7, 7, 7, 7, 7, 7, 7, 7, 7, 7, 7, 7, 7, 7, 7, 7, 7, 7, 7, 7, 7, 7, 7, 7, 7, 8, 8, 8, 8, 8, 8, 8, 8, 8, 8, 8, 8, 8, 8, 8, 8, 8, 8, 8, 8, 8, 8, 8, 8, 8, 8, 8, 8, 8, 8, 8, 8, 8, 8, 8, 8, 8, 8, 8, 8, 8, 8, 8, 8, 8, 8, 8, 8, 8, 8, 8, 8, 8, 8, 8, 8, 8, 8, 8, 8, 8, 8, 8, 8, 8, 8, 8, 8, 8, 8, 8, 8, 8, 8, 8, 8, 8, 8, 8, 8, 8, 8, 8, 8, 8, 8, 8, 8, 8, 8, 8, 8, 8, 8, 8, 8, 8, 8, 8, 8, 8, 8, 8, 8, 8, 8, 8, 8, 8, 8, 8, 8, 8, 8, 8, 8, 8, 8, 8, 8, 8, 8, 8, 8, 8, 8, 8, 8]) (IntKind.wrap .u8 n9)))) fun (n11 : Int) =>
.done 0 [.int .i64 n11])))
theorem math_bits_Len64_eq (x : Int) : decomp P 25 ⟨okFs, []⟩ { cnd := [(413700, [(0, .one (.int .u64)), (2, .one (.int .i64))]), (31477768, [(0, .one (.int .u64)), (2, .one (.int .i64))]), (2013286414, [(0, .one (.int .u64)), (2, .one (.int .i64))])], blk := [], reg := [], lps := [] } [.tmp 2] (bodyOf Go.Proofs.Tryz.f101) [.val (.int .u64 x)] = math_bits_Len64 x := by kernel_rfl
theorem math_bits_Len64_calls (x : Int) {w : World} {R : List Value → World → Prop} (h : (math_bits_Len64 x).wp P (fun _ => True) w fun e vs w' => e = 0 ∧ R vs w') :
    Calls P F.math_bits_Len64 #[.int .u64 x] w fun e w' => ∃ vs, e = .returned (pack vs) ∧ R vs w' :=
  decomp_sound (isFn_of Go.Proofs.Tryz.func101 (by kernel_rfl) (by kernel_rfl) (by kernel_rfl)) okFs_ok mix [.val (.int .u64 x)] (by rw [math_bits_Len64_eq]; exact h)

def slices_insertionSortOrdered_int64 (data : Sl) (a : Int) (b : Int) : Prog :=
.lt (.int .i64) (IntKind.wrap .i64 (a + 1)) fun (n0 : Int) =>
.bind 1 [] (
.loop 2 [.one (.int .i64)] (n0, ()) (u1 fun (n1 : Int) =>
.ite (decide (n1 < b)) (
.bind 3 [] (
.lt (.int .i64) (n1) fun (n2 : Int) =>
.bind 4 [] (
.loop 5 [.one (.int .i64)] (n2, ()) (u1 fun (n3 : Int) =>
.bind 6 [.one .bool] (
.tick <|
.ex [.adr] (c1 fun a4 => decide (n3 > a) = true → 0 ≤ n3 ∧ n3 < ((data.len : Nat) : Int) ∧ data.a = some a4) (u1 fun a5 =>
.read (decide (n3 > a) = true) (ld T.int64 (Addr.add a5 (Int.toNat n3 * 1))) (sI .i64) (u1 fun (n6 : Int) =>
.ex [.adr] (c1 fun a7 => decide (n3 > a) = true → 0 ≤ IntKind.wrap .i64 (n3 - 1) ∧ IntKind.wrap .i64 (n3 - 1) < ((data.len : Nat) : Int) ∧ data.a = some a7) (u1 fun a8 =>
.read (decide (n3 > a) = true) (ld T.int64 (Addr.add a8 (Int.toNat (IntKind.wrap .i64 (n3 - 1)) * 1))) (sI .i64) (u1 fun (n9 : Int) =>
.ite (decide (n3 > a)) (
.call F.cmp_Less_int64 [.int .i64 n6, .int .i64 n9] sB (u1 fun b10 =>
.untick <|
.done 6 [.bool b10])) (
.untick <|
.done 6 [.bool false])))))) (u1 fun b11 =>
.ite (b11) (
.bind 6 [] (
.tick <|
.ex [.adr] (c1 fun a12 => 0 ≤ IntKind.wrap .i64 (n3 - 1) ∧ IntKind.wrap .i64 (n3 - 1) < ((data.len : Nat) : Int) ∧ data.a = some a12) (u1 fun a13 =>
.read True (ld T.int64 (Addr.add a13 (Int.toNat (IntKind.wrap .i64 (n3 - 1)) * 1))) (sI .i64) (u1 fun (n14 : Int) =>
.ex [.adr] (c1 fun a15 => 0 ≤ n3 ∧ n3 < ((data.len : Nat) : Int) ∧ data.a = some a15) (u1 fun a16 =>
.read True (ld T.int64 (Addr.add a16 (Int.toNat n3 * 1))) (sI .i64) (u1 fun (n17 : Int) =>
.ex [.adr] (c1 fun a18 => 0 ≤ n3 ∧ n3 < ((data.len : Nat) : Int) ∧ data.a = some a18) (u1 fun a19 =>
.actU (st T.int64 (Addr.add a19 (Int.toNat n3 * 1)) (.int .i64 n14)) <|
.ex [.adr] (c1 fun a20 => 0 ≤ IntKind.wrap .i64 (n3 - 1) ∧ IntKind.wrap .i64 (n3 - 1) < ((data.len : Nat) : Int) ∧ data.a = some a20) (u1 fun a21 =>
.actU (st T.int64 (Addr.add a21 (Int.toNat (IntKind.wrap .i64 (n3 - 1)) * 1)) (.int .i64 n17)) <|
.untick <|
.done 6 []))))))) (u0 <|
.lt (.int .i64) (IntKind.wrap .i64 (n3 - 1)) fun (n22 : Int) =>
.done 5 [.int .i64 n22])) (
.done 4 [])))) (u0 <|
.done 3 [])) (u0 <|
.lt (.int .i64) (IntKind.wrap .i64 (n1 + 1)) fun (n23 : Int) =>
.done 2 [.int .i64 n23])) (
.done 1 []))) (u0 <|
.done 0 [])
theorem slices_insertionSortOrdered_int64_eq (data : Sl) (a : Int) (b : Int) : decomp P 49 ⟨okFs, []⟩ { cnd := [], blk := [(0, []), (1, []), (2, [])], reg := [(4, [(30, .one .bool)]), (6, [])], lps := [(0, [(6, .one (.int .i64))]), (2, [(7, .one (.int .i64))])] } [] (bodyOf Go.Proofs.Tryz.f104) [.val (.slice data.a data.len data.cap), .val (.int .i64 a), .val (.int .i64 b)] = slices_insertionSortOrdered_int64 data a b := by kernel_rfl
theorem slices_insertionSortOrdered_int64_calls (data : Sl) (a : Int) (b : Int) {w : World} {R : List Value → World → Prop} (h : (slices_insertionSortOrdered_int64 data a b).wp P (fun _ => True) w fun e vs w' => e = 0 ∧ R vs w') :
    Calls P F.slices_insertionSortOrdered_int64 #[.slice data.a data.len data.cap, .int .i64 a, .int .i64 b] w fun e w' => ∃ vs, e = .returned (pack vs) ∧ R vs w' :=
  decomp_sound (isFn_of Go.Proofs.Tryz.func104 (by kernel_rfl) (by kernel_rfl) (by kernel_rfl)) okFs_ok mix [.val (.slice data.a data.len data.cap), .val (.int .i64 a), .val (.int .i64 b)] (by rw [slices_insertionSortOrdered_int64_eq]; exact h)

def slices_heapSortOrdered_int64 (data : Sl) (a : Int) (b : Int) : Prog :=
.lt (.int .i64) (a) fun (n0 : Int) =>
.lt (.int .i64) (IntKind.wrap .i64 (b - a)) fun (n1 : Int) =>
.lt (.int .i64) (IntKind.wrap .i64 (Int.tdiv (IntKind.wrap .i64 (n1 - 1)) 2)) fun (n2 : Int) =>
.bind 1 [] (
.loop 2 [.one (.int .i64)] (n2, ()) (u1 fun (n3 : Int) =>
.ite (decide (n3 ≥ 0)) (
.call F.slices_siftDownOrdered_int64 [data.v, .int .i64 n3, .int .i64 n1, .int .i64 n0] (.tup []) (u0 <|
.lt (.int .i64) (IntKind.wrap .i64 (n3 - 1)) fun (n4 : Int) =>
.done 2 [.int .i64 n4])) (
.done 1 []))) (u0 <|
.lt (.int .i64) (IntKind.wrap .i64 (n1 - 1)) fun (n5 : Int) =>
.bind 1 [] (
.loop 2 [.one (.int .i64)] (n5, ()) (u1 fun (n6 : Int) =>
.ite (decide (n6 ≥ 0)) (
.bind 3 [] (
.tick <|
.ex [.adr] (c1 fun a7 => 0 ≤ IntKind.wrap .i64 (n0 + n6) ∧ IntKind.wrap .i64 (n0 + n6) < ((data.len : Nat) : Int) ∧ data.a = some a7) (u1 fun a8 =>
.read True (ld T.int64 (Addr.add a8 (Int.toNat (IntKind.wrap .i64 (n0 + n6)) * 1))) (sI .i64) (u1 fun (n9 : Int) =>
.ex [.adr] (c1 fun a10 => 0 ≤ n0 ∧ n0 < ((data.len : Nat) : Int) ∧ data.a = some a10) (u1 fun a11 =>
.read True (ld T.int64 (Addr.add a11 (Int.toNat n0 * 1))) (sI .i64) (u1 fun (n12 : Int) =>
.ex [.adr] (c1 fun a13 => 0 ≤ n0 ∧ n0 < ((data.len : Nat) : Int) ∧ data.a = some a13) (u1 fun a14 =>
.actU (st T.int64 (Addr.add a14 (Int.toNat n0 * 1)) (.int .i64 n9)) <|
.ex [.adr] (c1 fun a15 => 0 ≤ IntKind.wrap .i64 (n0 + n6) ∧ IntKind.wrap .i64 (n0 + n6) < ((data.len : Nat) : Int) ∧ data.a = some a15) (u1 fun a16 =>
.actU (st T.int64 (Addr.add a16 (Int.toNat (IntKind.wrap .i64 (n0 + n6)) * 1)) (.int .i64 n12)) <|
.untick <|
.done 3 []))))))) (u0 <|
.call F.slices_siftDownOrdered_int64 [data.v, .int .i64 0, .int .i64 n6, .int .i64 n0] (.tup []) (u0 <|
.lt (.int .i64) (IntKind.wrap .i64 (n6 - 1)) fun (n17 : Int) =>
.done 2 [.int .i64 n17]))) (
.done 1 []))) (u0 <|
.done 0 []))
theorem slices_heapSortOrdered_int64_eq (data : Sl) (a : Int) (b : Int) : decomp P 56 ⟨okFs, []⟩ { cnd := [], blk := [(0, []), (2, [])], reg := [(10, [])], lps := [(0, [(9, .one (.int .i64))]), (2, [(10, .one (.int .i64))])] } [] (bodyOf Go.Proofs.Tryz.f105) [.val (.slice data.a data.len data.cap), .val (.int .i64 a), .val (.int .i64 b)] = slices_heapSortOrdered_int64 data a b := by kernel_rfl
theorem slices_heapSortOrdered_int64_calls (data : Sl) (a : Int) (b : Int) {w : World} {R : List Value → World → Prop} (h : (slices_heapSortOrdered_int64 data a b).wp P (fun _ => True) w fun e vs w' => e = 0 ∧ R vs w') :
    Calls P F.slices_heapSortOrdered_int64 #[.slice data.a data.len data.cap, .int .i64 a, .int .i64 b] w fun e w' => ∃ vs, e = .returned (pack vs) ∧ R vs w' :=
  decomp_sound (isFn_of Go.Proofs.Tryz.func105 (by kernel_rfl) (by kernel_rfl) (by kernel_rfl)) okFs_ok mix [.val (.slice data.a data.len data.cap), .val (.int .i64 a), .val (.int .i64 b)] (by rw [slices_heapSortOrdered_int64_eq]; exact h)

def slices_breakPatternsOrdered_int64 (data : Sl) (a : Int) (b : Int) : Prog :=
.lt (.int .i64) (IntKind.wrap .i64 (b - a)) fun (n0 : Int) =>
.bind 1 [] (
.ite (decide (n0 ≥ 8)) (
.act (new T.slices_xorshift) sA (u1 fun a1 =>
.actU (st T.slices_xorshift a1 (.int .u64 (IntKind.wrap .u64 n0))) <|
.call F.slices_nextPowerOfTwo [.int .i64 n0] (sI .u64) (u1 fun (n2 : Int) =>
.lt (.int .u64) (n2) fun (n3 : Int) =>
.lt (.int .i64) (IntKind.wrap .i64 (IntKind.wrap .i64 (a + IntKind.wrap .i64 (IntKind.wrap .i64 (Int.tdiv n0 4) * 2)) - 1)) fun (n4 : Int) =>
.bind 2 [] (
.loop 3 [.one (.int .i64)] (n4, ()) (u1 fun (n5 : Int) =>
.ite (decide (n5 ≤ IntKind.wrap .i64 (IntKind.wrap .i64 (a + IntKind.wrap .i64 (IntKind.wrap .i64 (Int.tdiv n0 4) * 2)) + 1))) (
.call F.slices_xorshift_Next [.pointer (some a1)] (sI .u64) (u1 fun (n6 : Int) =>
.lt (.int .i64) (IntKind.wrap .i64 (IntKind.wrap .u64 (((BitVec.toNat (BitVec.ofInt 64 n6 &&& BitVec.ofInt 64 (IntKind.wrap .u64 (n3 - 1))) : Nat) : Int)))) fun (n7 : Int) =>
.bind 4 [.one (.int .i64)] (
.ite (decide (n7 ≥ n0)) (
.lt (.int .i64) (IntKind.wrap .i64 (n7 - n0)) fun (n8 : Int) =>
.done 4 [.int .i64 n8]) (
.done 4 [.int .i64 n7])) (u1 fun (n9 : Int) =>
.bind 4 [] (
.tick <|
.ex [.adr] (c1 fun a10 => 0 ≤ IntKind.wrap .i64 (a + n9) ∧ IntKind.wrap .i64 (a + n9) < ((data.len : Nat) : Int) ∧ data.a = some a10) (u1 fun a11 =>
.read True (ld T.int64 (Addr.add a11 (Int.toNat (IntKind.wrap .i64 (a + n9)) * 1))) (sI .i64) (u1 fun (n12 : Int) =>
.ex [.adr] (c1 fun a13 => 0 ≤ n5 ∧ n5 < ((data.len : Nat) : Int) ∧ data.a = some a13) (u1 fun a14 =>
.read True (ld T.int64 (Addr.add a14 (Int.toNat n5 * 1))) (sI .i64) (u1 fun (n15 : Int) =>
.ex [.adr] (c1 fun a16 => 0 ≤ n5 ∧ n5 < ((data.len : Nat) : Int) ∧ data.a = some a16) (u1 fun a17 =>
.actU (st T.int64 (Addr.add a17 (Int.toNat n5 * 1)) (.int .i64 n12)) <|
.ex [.adr] (c1 fun a18 => 0 ≤ IntKind.wrap .i64 (a + n9) ∧ IntKind.wrap .i64 (a + n9) < ((data.len : Nat) : Int) ∧ data.a = some a18) (u1 fun a19 =>
.actU (st T.int64 (Addr.add a19 (Int.toNat (IntKind.wrap .i64 (a + n9)) * 1)) (.int .i64 n15)) <|
.untick <|
.done 4 []))))))) (u0 <|
.lt (.int .i64) (IntKind.wrap .i64 (n5 + 1)) fun (n20 : Int) =>
.done 3 [.int .i64 n20])))) (
.done 2 []))) (u0 <|
.done 1 [])))) (
.done 1 [])) (u0 <|
.done 0 [])
theorem slices_breakPatternsOrdered_int64_eq (data : Sl) (a : Int) (b : Int) : decomp P 65 ⟨okFs, []⟩ { cnd := [(504403158269689899, [(10, .one (.int .i64))]), (151115727451828386267151, [])], blk := [(0, [])], reg := [(10, [])], lps := [(0, [(9, .one (.int .i64))])] } [] (bodyOf Go.Proofs.Tryz.f106) [.val (.slice data.a data.len data.cap), .val (.int .i64 a), .val (.int .i64 b)] = slices_breakPatternsOrdered_int64 data a b := by kernel_rfl
theorem slices_breakPatternsOrdered_int64_calls (data : Sl) (a : Int) (b : Int) {w : World} {R : List Value → World → Prop} (h : (slices_breakPatternsOrdered_int64 data a b).wp P (fun _ => True) w fun e vs w' => e = 0 ∧ R vs w') :
    Calls P F.slices_breakPatternsOrdered_int64 #[.slice data.a data.len data.cap, .int .i64 a, .int .i64 b] w fun e w' => ∃ vs, e = .returned (pack vs) ∧ R vs w' :=
  decomp_sound (isFn_of Go.Proofs.Tryz.func106 (by kernel_rfl) (by kernel_rfl) (by kernel_rfl)) okFs_ok mix [.val (.slice data.a data.len data.cap), .val (.int .i64 a), .val (.int .i64 b)] (by rw [slices_breakPatternsOrdered_int64_eq]; exact h)

def slices_choosePivotOrdered_int64 (data : Sl) (a : Int) (b : Int) : Prog :=
.lt (.int .i64) (IntKind.wrap .i64 (b - a)) fun (n0 : Int) =>
.act (new T.int) sA (u1 fun a1 =>
.lt (.int .i64) (IntKind.wrap .i64 (a + IntKind.wrap .i64 (IntKind.wrap .i64 (Int.tdiv n0 4) * 1))) fun (n2 : Int) =>
.lt (.int .i64) (IntKind.wrap .i64 (a + IntKind.wrap .i64 (IntKind.wrap .i64 (Int.tdiv n0 4) * 2))) fun (n3 : Int) =>
.lt (.int .i64) (IntKind.wrap .i64 (a + IntKind.wrap .i64 (IntKind.wrap .i64 (Int.tdiv n0 4) * 3))) fun (n4 : Int) =>
.bind 1 [.one (.int .i64)] (
.ite (decide (n0 ≥ 8)) (
.bind 2 [.one (.int .i64), .one (.int .i64), .one (.int .i64)] (
.ite (decide (n0 ≥ 50)) (
.call F.slices_medianAdjacentOrdered_int64 [data.v, .int .i64 n2, .pointer (some a1)] (sI .i64) (u1 fun (n5 : Int) =>
.lt (.int .i64) (n5) fun (n6 : Int) =>
.call F.slices_medianAdjacentOrdered_int64 [data.v, .int .i64 n3, .pointer (some a1)] (sI .i64) (u1 fun (n7 : Int) =>
.lt (.int .i64) (n7) fun (n8 : Int) =>
.call F.slices_medianAdjacentOrdered_int64 [data.v, .int .i64 n4, .pointer (some a1)] (sI .i64) (u1 fun (n9 : Int) =>
.lt (.int .i64) (n9) fun (n10 : Int) =>
.done 2 [.int .i64 n6, .int .i64 n8, .int .i64 n10])))) (
.done 2 [.int .i64 n2, .int .i64 n3, .int .i64 n4])) (u3 fun (n11 : Int) (n12 : Int) (n13 : Int) =>
.call F.slices_medianOrdered_int64 [data.v, .int .i64 n11, .int .i64 n12, .int .i64 n13, .pointer (some a1)] (sI .i64) (u1 fun (n14 : Int) =>
.lt (.int .i64) (n14) fun (n15 : Int) =>
.done 1 [.int .i64 n15]))) (
.done 1 [.int .i64 n3])) (u1 fun (n16 : Int) =>
.read True (ld T.int a1) (sI .i64) (u1 fun (n17 : Int) =>
.lt (.bool) (n17 == 0) fun b18 =>
.ite (b18) (
.lt (.int .i64) (n16) fun (n19 : Int) =>
.done 0 [.int .i64 n19, .int .i64 1]) (
.lt (.bool) (n17 == 12) fun b20 =>
.ite (b20) (
.lt (.int .i64) (n16) fun (n21 : Int) =>
.done 0 [.int .i64 n21, .int .i64 2]) (
.lt (.int .i64) (n16) fun (n22 : Int) =>
.done 0 [.int .i64 n22, .int .i64 0])))))
theorem slices_choosePivotOrdered_int64_eq (data : Sl) (a : Int) (b : Int) : decomp P 57 ⟨okFs, []⟩ { cnd := [(71916856578932770, [(10, .one (.int .i64)), (11, .one (.int .i64)), (12, .one (.int .i64))]), (2305807824870965280, [(11, .one (.int .i64))])], blk := [], reg := [], lps := [] } [.tmp 6, .tmp 7] (bodyOf Go.Proofs.Tryz.f107) [.val (.slice data.a data.len data.cap), .val (.int .i64 a), .val (.int .i64 b)] = slices_choosePivotOrdered_int64 data a b := by kernel_rfl
theorem slices_choosePivotOrdered_int64_calls (data : Sl) (a : Int) (b : Int) {w : World} {R : List Value → World → Prop} (h : (slices_choosePivotOrdered_int64 data a b).wp P (fun _ => True) w fun e vs w' => e = 0 ∧ R vs w') :
    Calls P F.slices_choosePivotOrdered_int64 #[.slice data.a data.len data.cap, .int .i64 a, .int .i64 b] w fun e w' => ∃ vs, e = .returned (pack vs) ∧ R vs w' :=
  decomp_sound (isFn_of Go.Proofs.Tryz.func107 (by kernel_rfl) (by kernel_rfl) (by kernel_rfl)) okFs_ok mix [.val (.slice data.a data.len data.cap), .val (.int .i64 a), .val (.int .i64 b)] (by rw [slices_choosePivotOrdered_int64_eq]; exact h)

def slices_reverseRangeOrdered_int64 (data : Sl) (a : Int) (b : Int) : Prog :=
.lt (.int .i64) (a) fun (n0 : Int) =>
.lt (.int .i64) (IntKind.wrap .i64 (b - 1)) fun (n1 : Int) =>
.bind 1 [] (
.loop 2 [.one (.int .i64), .one (.int .i64)] (n0, (n1, ())) (u2 fun (n2 : Int) (n3 : Int) =>
.ite (decide (n2 < n3)) (
.bind 3 [] (
.tick <|
.ex [.adr] (c1 fun a4 => 0 ≤ n3 ∧ n3 < ((data.len : Nat) : Int) ∧ data.a = some a4) (u1 fun a5 =>
.read True (ld T.int64 (Addr.add a5 (Int.toNat n3 * 1))) (sI .i64) (u1 fun (n6 : Int) =>
.ex [.adr] (c1 fun a7 => 0 ≤ n2 ∧ n2 < ((data.len : Nat) : Int) ∧ data.a = some a7) (u1 fun a8 =>
.read True (ld T.int64 (Addr.add a8 (Int.toNat n2 * 1))) (sI .i64) (u1 fun (n9 : Int) =>
.ex [.adr] (c1 fun a10 => 0 ≤ n2 ∧ n2 < ((data.len : Nat) : Int) ∧ data.a = some a10) (u1 fun a11 =>
.actU (st T.int64 (Addr.add a11 (Int.toNat n2 * 1)) (.int .i64 n6)) <|
.ex [.adr] (c1 fun a12 => 0 ≤ n3 ∧ n3 < ((data.len : Nat) : Int) ∧ data.a = some a12) (u1 fun a13 =>
.actU (st T.int64 (Addr.add a13 (Int.toNat n3 * 1)) (.int .i64 n9)) <|
.untick <|
.done 3 []))))))) (u0 <|
.lt (.int .i64) (IntKind.wrap .i64 (n2 + 1)) fun (n14 : Int) =>
.lt (.int .i64) (IntKind.wrap .i64 (n3 - 1)) fun (n15 : Int) =>
.done 2 [.int .i64 n14, .int .i64 n15])) (
.done 1 []))) (u0 <|
.done 0 [])
theorem slices_reverseRangeOrdered_int64_eq (data : Sl) (a : Int) (b : Int) : decomp P 32 ⟨okFs, []⟩ { cnd := [], blk := [(0, [])], reg := [(3, [])], lps := [(0, [(6, .one (.int .i64)), (7, .one (.int .i64))])] } [] (bodyOf Go.Proofs.Tryz.f108) [.val (.slice data.a data.len data.cap), .val (.int .i64 a), .val (.int .i64 b)] = slices_reverseRangeOrdered_int64 data a b := by kernel_rfl
theorem slices_reverseRangeOrdered_int64_calls (data : Sl) (a : Int) (b : Int) {w : World} {R : List Value → World → Prop} (h : (slices_reverseRangeOrdered_int64 data a b).wp P (fun _ => True) w fun e vs w' => e = 0 ∧ R vs w') :
    Calls P F.slices_reverseRangeOrdered_int64 #[.slice data.a data.len data.cap, .int .i64 a, .int .i64 b] w fun e w' => ∃ vs, e = .returned (pack vs) ∧ R vs w' :=
  decomp_sound (isFn_of Go.Proofs.Tryz.func108 (by kernel_rfl) (by kernel_rfl) (by kernel_rfl)) okFs_ok mix [.val (.slice data.a data.len data.cap), .val (.int .i64 a), .val (.int .i64 b)] (by rw [slices_reverseRangeOrdered_int64_eq]; exact h)

def slices_partialInsertionSortOrdered_int64 (data : Sl) (a : Int) (b : Int) : Prog :=
.lt (.int .i64) (IntKind.wrap .i64 (a + 1)) fun (n0 : Int) =>
.bind 1 [] (
.loop 2 [.one (.int .i64), .one (.int .i64)] (n0, (0, ())) (u2 fun (n1 : Int) (n2 : Int) =>
.ite (decide (n2 < 5)) (
.bind 3 [.one (.int .i64)] (
.bind 4 [.one (.int .i64)] (
.loop 5 [.one (.int .i64)] (n1, ()) (u1 fun (n3 : Int) =>
.bind 6 [.one .bool] (
.tick <|
.ex [.adr] (c1 fun a4 => decide (n3 < b) = true → 0 ≤ n3 ∧ n3 < ((data.len : Nat) : Int) ∧ data.a = some a4) (u1 fun a5 =>
.read (decide (n3 < b) = true) (ld T.int64 (Addr.add a5 (Int.toNat n3 * 1))) (sI .i64) (u1 fun (n6 : Int) =>
.ex [.adr] (c1 fun a7 => decide (n3 < b) = true → 0 ≤ IntKind.wrap .i64 (n3 - 1) ∧ IntKind.wrap .i64 (n3 - 1) < ((data.len : Nat) : Int) ∧ data.a = some a7) (u1 fun a8 =>
.read (decide (n3 < b) = true) (ld T.int64 (Addr.add a8 (Int.toNat (IntKind.wrap .i64 (n3 - 1)) * 1))) (sI .i64) (u1 fun (n9 : Int) =>
.ite (decide (n3 < b)) (
.call F.cmp_Less_int64 [.int .i64 n6, .int .i64 n9] sB (u1 fun b10 =>
.untick <|
.done 6 [.bool (not b10)])) (
.untick <|
.done 6 [.bool false])))))) (u1 fun b11 =>
.ite (b11) (
.lt (.int .i64) (IntKind.wrap .i64 (n3 + 1)) fun (n12 : Int) =>
.done 5 [.int .i64 n12]) (
.done 4 [.int .i64 n3])))) (u1 fun (n13 : Int) =>
.ite (n13 == b) (
.done 0 [.bool true]) (
.ite (decide (IntKind.wrap .i64 (b - a) < 50)) (
.done 0 [.bool false]) (
.bind 4 [] (
.tick <|
.ex [.adr] (c1 fun a14 => 0 ≤ IntKind.wrap .i64 (n13 - 1) ∧ IntKind.wrap .i64 (n13 - 1) < ((data.len : Nat) : Int) ∧ data.a = some a14) (u1 fun a15 =>
.read True (ld T.int64 (Addr.add a15 (Int.toNat (IntKind.wrap .i64 (n13 - 1)) * 1))) (sI .i64) (u1 fun (n16 : Int) =>
.ex [.adr] (c1 fun a17 => 0 ≤ n13 ∧ n13 < ((data.len : Nat) : Int) ∧ data.a = some a17) (u1 fun a18 =>
.read True (ld T.int64 (Addr.add a18 (Int.toNat n13 * 1))) (sI .i64) (u1 fun (n19 : Int) =>
.ex [.adr] (c1 fun a20 => 0 ≤ n13 ∧ n13 < ((data.len : Nat) : Int) ∧ data.a = some a20) (u1 fun a21 =>
.actU (st T.int64 (Addr.add a21 (Int.toNat n13 * 1)) (.int .i64 n16)) <|
.ex [.adr] (c1 fun a22 => 0 ≤ IntKind.wrap .i64 (n13 - 1) ∧ IntKind.wrap .i64 (n13 - 1) < ((data.len : Nat) : Int) ∧ data.a = some a22) (u1 fun a23 =>
.actU (st T.int64 (Addr.add a23 (Int.toNat (IntKind.wrap .i64 (n13 - 1)) * 1)) (.int .i64 n19)) <|
.untick <|
.done 4 []))))))) (u0 <|
.bind 4 [] (
.ite (decide (IntKind.wrap .i64 (n13 - a) ≥ 2)) (
.lt (.int .i64) (IntKind.wrap .i64 (n13 - 1)) fun (n24 : Int) =>
.bind 5 [] (
.loop 6 [.one (.int .i64)] (n24, ()) (u1 fun (n25 : Int) =>
.ite (decide (n25 ≥ 1)) (
.tick <|
.ex [.adr] (c1 fun a26 => 0 ≤ n25 ∧ n25 < ((data.len : Nat) : Int) ∧ data.a = some a26) (u1 fun a27 =>
.read True (ld T.int64 (Addr.add a27 (Int.toNat n25 * 1))) (sI .i64) (u1 fun (n28 : Int) =>
.ex [.adr] (c1 fun a29 => 0 ≤ IntKind.wrap .i64 (n25 - 1) ∧ IntKind.wrap .i64 (n25 - 1) < ((data.len : Nat) : Int) ∧ data.a = some a29) (u1 fun a30 =>
.read True (ld T.int64 (Addr.add a30 (Int.toNat (IntKind.wrap .i64 (n25 - 1)) * 1))) (sI .i64) (u1 fun (n31 : Int) =>
.call F.cmp_Less_int64 [.int .i64 n28, .int .i64 n31] sB (u1 fun b32 =>
.untick <|
.ite (not b32) (
.done 5 []) (
.bind 7 [] (
.tick <|
.ex [.adr] (c1 fun a33 => 0 ≤ IntKind.wrap .i64 (n25 - 1) ∧ IntKind.wrap .i64 (n25 - 1) < ((data.len : Nat) : Int) ∧ data.a = some a33) (u1 fun a34 =>
.read True (ld T.int64 (Addr.add a34 (Int.toNat (IntKind.wrap .i64 (n25 - 1)) * 1))) (sI .i64) (u1 fun (n35 : Int) =>
.ex [.adr] (c1 fun a36 => 0 ≤ n25 ∧ n25 < ((data.len : Nat) : Int) ∧ data.a = some a36) (u1 fun a37 =>
.read True (ld T.int64 (Addr.add a37 (Int.toNat n25 * 1))) (sI .i64) (u1 fun (n38 : Int) =>
.ex [.adr] (c1 fun a39 => 0 ≤ n25 ∧ n25 < ((data.len : Nat) : Int) ∧ data.a = some a39) (u1 fun a40 =>
.actU (st T.int64 (Addr.add a40 (Int.toNat n25 * 1)) (.int .i64 n35)) <|
.ex [.adr] (c1 fun a41 => 0 ≤ IntKind.wrap .i64 (n25 - 1) ∧ IntKind.wrap .i64 (n25 - 1) < ((data.len : Nat) : Int) ∧ data.a = some a41) (u1 fun a42 =>
.actU (st T.int64 (Addr.add a42 (Int.toNat (IntKind.wrap .i64 (n25 - 1)) * 1)) (.int .i64 n38)) <|
.untick <|
.done 7 []))))))) (u0 <|
.lt (.int .i64) (IntKind.wrap .i64 (n25 - 1)) fun (n43 : Int) =>
.done 6 [.int .i64 n43])))))))) (
.done 5 []))) (u0 <|
.done 4 [])) (
.done 4 [])) (u0 <|
.bind 4 [] (
.ite (decide (IntKind.wrap .i64 (b - n13) ≥ 2)) (
.lt (.int .i64) (IntKind.wrap .i64 (n13 + 1)) fun (n44 : Int) =>
.bind 5 [] (
.loop 6 [.one (.int .i64)] (n44, ()) (u1 fun (n45 : Int) =>
.ite (decide (n45 < b)) (
.tick <|
.ex [.adr] (c1 fun a46 => 0 ≤ n45 ∧ n45 < ((data.len : Nat) : Int) ∧ data.a = some a46) (u1 fun a47 =>
.read True (ld T.int64 (Addr.add a47 (Int.toNat n45 * 1))) (sI .i64) (u1 fun (n48 : Int) =>
.ex [.adr] (c1 fun a49 => 0 ≤ IntKind.wrap .i64 (n45 - 1) ∧ IntKind.wrap .i64 (n45 - 1) < ((data.len : Nat) : Int) ∧ data.a = some a49) (u1 fun a50 =>
.read True (ld T.int64 (Addr.add a50 (Int.toNat (IntKind.wrap .i64 (n45 - 1)) * 1))) (sI .i64) (u1 fun (n51 : Int) =>
.call F.cmp_Less_int64 [.int .i64 n48, .int .i64 n51] sB (u1 fun b52 =>
.untick <|
.ite (not b52) (
.done 5 []) (
.bind 7 [] (
.tick <|
.ex [.adr] (c1 fun a53 => 0 ≤ IntKind.wrap .i64 (n45 - 1) ∧ IntKind.wrap .i64 (n45 - 1) < ((data.len : Nat) : Int) ∧ data.a = some a53) (u1 fun a54 =>
.read True (ld T.int64 (Addr.add a54 (Int.toNat (IntKind.wrap .i64 (n45 - 1)) * 1))) (sI .i64) (u1 fun (n55 : Int) =>
.ex [.adr] (c1 fun a56 => 0 ≤ n45 ∧ n45 < ((data.len : Nat) : Int) ∧ data.a = some a56) (u1 fun a57 =>
.read True (ld T.int64 (Addr.add a57 (Int.toNat n45 * 1))) (sI .i64) (u1 fun (n58 : Int) =>
.ex [.adr] (c1 fun a59 => 0 ≤ n45 ∧ n45 < ((data.len : Nat) : Int) ∧ data.a = some a59) (u1 fun a60 =>
.actU (st T.int64 (Addr.add a60 (Int.toNat n45 * 1)) (.int .i64 n55)) <|
.ex [.adr] (c1 fun a61 => 0 ≤ IntKind.wrap .i64 (n45 - 1) ∧ IntKind.wrap .i64 (n45 - 1) < ((data.len : Nat) : Int) ∧ data.a = some a61) (u1 fun a62 =>
.actU (st T.int64 (Addr.add a62 (Int.toNat (IntKind.wrap .i64 (n45 - 1)) * 1)) (.int .i64 n58)) <|
.untick <|
.done 7 []))))))) (u0 <|
.lt (.int .i64) (IntKind.wrap .i64 (n45 + 1)) fun (n63 : Int) =>
.done 6 [.int .i64 n63])))))))) (
.done 5 []))) (u0 <|
.done 4 [])) (
.done 4 [])) (u0 <|
.done 3 [.int .i64 n13]))))))) (u1 fun (n64 : Int) =>
.lt (.int .i64) (IntKind.wrap .i64 (n2 + 1)) fun (n65 : Int) =>
.done 2 [.int .i64 n64, .int .i64 n65])) (
.done 1 []))) (u0 <|
.done 0 [.bool false])
theorem slices_partialInsertionSortOrdered_int64_eq (data : Sl) (a : Int) (b : Int) : decomp P 133 ⟨okFs, []⟩ { cnd := [(162259276810323897460099431530557, []), (44601490394465097853804022731031474851545186, [])], blk := [(0, []), (1, [(7, .one (.int .i64))]), (2, [(7, .one (.int .i64))]), (4, []), (6, [])], reg := [(5, [(32, .one .bool)]), (11, []), (17, []), (23, [])], lps := [(0, [(7, .one (.int .i64)), (8, .one (.int .i64))]), (2, [(7, .one (.int .i64))]), (4, [(9, .one (.int .i64))]), (6, [(10, .one (.int .i64))])] } [.tmp 6] (bodyOf Go.Proofs.Tryz.f109) [.val (.slice data.a data.len data.cap), .val (.int .i64 a), .val (.int .i64 b)] = slices_partialInsertionSortOrdered_int64 data a b := by kernel_rfl
theorem slices_partialInsertionSortOrdered_int64_calls (data : Sl) (a : Int) (b : Int) {w : World} {R : List Value → World → Prop} (h : (slices_partialInsertionSortOrdered_int64 data a b).wp P (fun _ => True) w fun e vs w' => e = 0 ∧ R vs w') :
    Calls P F.slices_partialInsertionSortOrdered_int64 #[.slice data.a data.len data.cap, .int .i64 a, .int .i64 b] w fun e w' => ∃ vs, e = .returned (pack vs) ∧ R vs w' :=
  decomp_sound (isFn_of Go.Proofs.Tryz.func109 (by kernel_rfl) (by kernel_rfl) (by kernel_rfl)) okFs_ok mix [.val (.slice data.a data.len data.cap), .val (.int .i64 a), .val (.int .i64 b)] (by rw [slices_partialInsertionSortOrdered_int64_eq]; exact h)

def cmp_Less_int64 (x : Int) (y : Int) : Prog :=
.bind 1 [.one .bool] (
.call F.cmp_isNaN_int64 [.int .i64 x] sB (u1 fun b0 =>
.ite (b0) (
.call F.cmp_isNaN_int64 [.int .i64 y] sB (u1 fun b1 =>
.lt (.bool) (not b1 || decide (x < y)) fun b2 =>
.done 1 [.bool b2])) (
.lt (.bool) (decide (x < y)) fun b3 =>
.done 1 [.bool b3]))) (u1 fun b4 =>
.done 0 [.bool b4])
theorem cmp_Less_int64_eq (x : Int) (y : Int) : decomp P 17 ⟨okFs, []⟩ { cnd := [], blk := [], reg := [(1, [(4, .one .bool)])], lps := [] } [.tmp 4] (bodyOf Go.Proofs.Tryz.f110) [.val (.int .i64 x), .val (.int .i64 y)] = cmp_Less_int64 x y := by kernel_rfl
theorem cmp_Less_int64_calls (x : Int) (y : Int) {w : World} {R : List Value → World → Prop} (h : (cmp_Less_int64 x y).wp P (fun _ => True) w fun e vs w' => e = 0 ∧ R vs w') :
    Calls P F.cmp_Less_int64 #[.int .i64 x, .int .i64 y] w fun e w' => ∃ vs, e = .returned (pack vs) ∧ R vs w' :=
  decomp_sound (isFn_of Go.Proofs.Tryz.func110 (by kernel_rfl) (by kernel_rfl) (by kernel_rfl)) okFs_ok mix [.val (.int .i64 x), .val (.int .i64 y)] (by rw [cmp_Less_int64_eq]; exact h)

def slices_partitionEqualOrdered_int64 (data : Sl) (a : Int) (b : Int) (pivot : Int) : Prog :=
.bind 1 [] (
.tick <|
.ex [.adr] (c1 fun a0 => 0 ≤ pivot ∧ pivot < ((data.len : Nat) : Int) ∧ data.a = some a0) (u1 fun a1 =>
.read True (ld T.int64 (Addr.add a1 (Int.toNat pivot * 1))) (sI .i64) (u1 fun (n2 : Int) =>
.ex [.adr] (c1 fun a3 => 0 ≤ a ∧ a < ((data.len : Nat) : Int) ∧ data.a = some a3) (u1 fun a4 =>
.read True (ld T.int64 (Addr.add a4 (Int.toNat a * 1))) (sI .i64) (u1 fun (n5 : Int) =>
.ex [.adr] (c1 fun a6 => 0 ≤ a ∧ a < ((data.len : Nat) : Int) ∧ data.a = some a6) (u1 fun a7 =>
.actU (st T.int64 (Addr.add a7 (Int.toNat a * 1)) (.int .i64 n2)) <|
.ex [.adr] (c1 fun a8 => 0 ≤ pivot ∧ pivot < ((data.len : Nat) : Int) ∧ data.a = some a8) (u1 fun a9 =>
.actU (st T.int64 (Addr.add a9 (Int.toNat pivot * 1)) (.int .i64 n5)) <|
.untick <|
.done 1 []))))))) (u0 <|
.lt (.int .i64) (IntKind.wrap .i64 (a + 1)) fun (n10 : Int) =>
.lt (.int .i64) (IntKind.wrap .i64 (b - 1)) fun (n11 : Int) =>
.bind 1 [.one (.int .i64)] (
.loop 2 [.one (.int .i64), .one (.int .i64)] (n10, (n11, ())) (u2 fun (n12 : Int) (n13 : Int) =>
.bind 3 [.one (.int .i64), .one (.int .i64)] (
.bind 4 [.one (.int .i64)] (
.loop 5 [.one (.int .i64)] (n12, ()) (u1 fun (n14 : Int) =>
.bind 6 [.one .bool] (
.tick <|
.ex [.adr] (c1 fun a15 => decide (n14 ≤ n13) = true → 0 ≤ a ∧ a < ((data.len : Nat) : Int) ∧ data.a = some a15) (u1 fun a16 =>
.read (decide (n14 ≤ n13) = true) (ld T.int64 (Addr.add a16 (Int.toNat a * 1))) (sI .i64) (u1 fun (n17 : Int) =>
.ex [.adr] (c1 fun a18 => decide (n14 ≤ n13) = true → 0 ≤ n14 ∧ n14 < ((data.len : Nat) : Int) ∧ data.a = some a18) (u1 fun a19 =>
.read (decide (n14 ≤ n13) = true) (ld T.int64 (Addr.add a19 (Int.toNat n14 * 1))) (sI .i64) (u1 fun (n20 : Int) =>
.ite (decide (n14 ≤ n13)) (
.call F.cmp_Less_int64 [.int .i64 n17, .int .i64 n20] sB (u1 fun b21 =>
.untick <|
.done 6 [.bool (not b21)])) (
.untick <|
.done 6 [.bool false])))))) (u1 fun b22 =>
.ite (b22) (
.lt (.int .i64) (IntKind.wrap .i64 (n14 + 1)) fun (n23 : Int) =>
.done 5 [.int .i64 n23]) (
.done 4 [.int .i64 n14])))) (u1 fun (n24 : Int) =>
.bind 4 [.one (.int .i64)] (
.loop 5 [.one (.int .i64)] (n13, ()) (u1 fun (n25 : Int) =>
.bind 6 [.one .bool] (
.tick <|
.ex [.adr] (c1 fun a26 => decide (n24 ≤ n25) = true → 0 ≤ a ∧ a < ((data.len : Nat) : Int) ∧ data.a = some a26) (u1 fun a27 =>
.read (decide (n24 ≤ n25) = true) (ld T.int64 (Addr.add a27 (Int.toNat a * 1))) (sI .i64) (u1 fun (n28 : Int) =>
.ex [.adr] (c1 fun a29 => decide (n24 ≤ n25) = true → 0 ≤ n25 ∧ n25 < ((data.len : Nat) : Int) ∧ data.a = some a29) (u1 fun a30 =>
.read (decide (n24 ≤ n25) = true) (ld T.int64 (Addr.add a30 (Int.toNat n25 * 1))) (sI .i64) (u1 fun (n31 : Int) =>
.ite (decide (n24 ≤ n25)) (
.call F.cmp_Less_int64 [.int .i64 n28, .int .i64 n31] sB (u1 fun b32 =>
.untick <|
.done 6 [.bool b32])) (
.untick <|
.done 6 [.bool false])))))) (u1 fun b33 =>
.ite (b33) (
.lt (.int .i64) (IntKind.wrap .i64 (n25 - 1)) fun (n34 : Int) =>
.done 5 [.int .i64 n34]) (
.done 4 [.int .i64 n25])))) (u1 fun (n35 : Int) =>
.ite (decide (n24 > n35)) (
.done 1 [.int .i64 n24]) (
.bind 4 [] (
.tick <|
.ex [.adr] (c1 fun a36 => 0 ≤ n35 ∧ n35 < ((data.len : Nat) : Int) ∧ data.a = some a36) (u1 fun a37 =>
.read True (ld T.int64 (Addr.add a37 (Int.toNat n35 * 1))) (sI .i64) (u1 fun (n38 : Int) =>
.ex [.adr] (c1 fun a39 => 0 ≤ n24 ∧ n24 < ((data.len : Nat) : Int) ∧ data.a = some a39) (u1 fun a40 =>
.read True (ld T.int64 (Addr.add a40 (Int.toNat n24 * 1))) (sI .i64) (u1 fun (n41 : Int) =>
.ex [.adr] (c1 fun a42 => 0 ≤ n24 ∧ n24 < ((data.len : Nat) : Int) ∧ data.a = some a42) (u1 fun a43 =>
.actU (st T.int64 (Addr.add a43 (Int.toNat n24 * 1)) (.int .i64 n38)) <|
.ex [.adr] (c1 fun a44 => 0 ≤ n35 ∧ n35 < ((data.len : Nat) : Int) ∧ data.a = some a44) (u1 fun a45 =>
.actU (st T.int64 (Addr.add a45 (Int.toNat n35 * 1)) (.int .i64 n41)) <|
.untick <|
.done 4 []))))))) (u0 <|
.lt (.int .i64) (IntKind.wrap .i64 (n24 + 1)) fun (n46 : Int) =>
.lt (.int .i64) (IntKind.wrap .i64 (n35 - 1)) fun (n47 : Int) =>
.done 3 [.int .i64 n46, .int .i64 n47]))))) (u2 fun (n48 : Int) (n49 : Int) =>
.done 2 [.int .i64 n48, .int .i64 n49]))) (u1 fun (n50 : Int) =>
.lt (.int .i64) (n50) fun (n51 : Int) =>
.done 0 [.int .i64 n51]))
theorem slices_partitionEqualOrdered_int64_eq (data : Sl) (a : Int) (b : Int) (pivot : Int) : decomp P 84 ⟨okFs, []⟩ { cnd := [], blk := [(0, [(9, .one (.int .i64))]), (1, [(9, .one (.int .i64)), (10, .one (.int .i64))]), (2, [(9, .one (.int .i64))]), (4, [(10, .one (.int .i64))])], reg := [(1, []), (3, [(43, .one .bool)]), (5, [(59, .one .bool)]), (8, [])], lps := [(0, [(9, .one (.int .i64)), (10, .one (.int .i64))]), (2, [(9, .one (.int .i64))]), (4, [(10, .one (.int .i64))])] } [.tmp 8] (bodyOf Go.Proofs.Tryz.f111) [.val (.slice data.a data.len data.cap), .val (.int .i64 a), .val (.int .i64 b), .val (.int .i64 pivot)] = slices_partitionEqualOrdered_int64 data a b pivot := by kernel_rfl
theorem slices_partitionEqualOrdered_int64_calls (data : Sl) (a : Int) (b : Int) (pivot : Int) {w : World} {R : List Value → World → Prop} (h : (slices_partitionEqualOrdered_int64 data a b pivot).wp P (fun _ => True) w fun e vs w' => e = 0 ∧ R vs w') :
    Calls P F.slices_partitionEqualOrdered_int64 #[.slice data.a data.len data.cap, .int .i64 a, .int .i64 b, .int .i64 pivot] w fun e w' => ∃ vs, e = .returned (pack vs) ∧ R vs w' :=
  decomp_sound (isFn_of Go.Proofs.Tryz.func111 (by kernel_rfl) (by kernel_rfl) (by kernel_rfl)) okFs_ok mix [.val (.slice data.a data.len data.cap), .val (.int .i64 a), .val (.int .i64 b), .val (.int .i64 pivot)] (by rw [slices_partitionEqualOrdered_int64_eq]; exact h)

def slices_partitionOrdered_int64 (data : Sl) (a : Int) (b : Int) (pivot : Int) : Prog :=
.bind 1 [] (
.tick <|
.ex [.adr] (c1 fun a0 => 0 ≤ pivot ∧ pivot < ((data.len : Nat) : Int) ∧ data.a = some a0) (u1 fun a1 =>
.read True (ld T.int64 (Addr.add a1 (Int.toNat pivot * 1))) (sI .i64) (u1 fun (n2 : Int) =>
.ex [.adr] (c1 fun a3 => 0 ≤ a ∧ a < ((data.len : Nat) : Int) ∧ data.a = some a3) (u1 fun a4 =>
.read True (ld T.int64 (Addr.add a4 (Int.toNat a * 1))) (sI .i64) (u1 fun (n5 : Int) =>
.ex [.adr] (c1 fun a6 => 0 ≤ a ∧ a < ((data.len : Nat) : Int) ∧ data.a = some a6) (u1 fun a7 =>
.actU (st T.int64 (Addr.add a7 (Int.toNat a * 1)) (.int .i64 n2)) <|
.ex [.adr] (c1 fun a8 => 0 ≤ pivot ∧ pivot < ((data.len : Nat) : Int) ∧ data.a = some a8) (u1 fun a9 =>
.actU (st T.int64 (Addr.add a9 (Int.toNat pivot * 1)) (.int .i64 n5)) <|
.untick <|
.done 1 []))))))) (u0 <|
.lt (.int .i64) (IntKind.wrap .i64 (a + 1)) fun (n10 : Int) =>
.lt (.int .i64) (IntKind.wrap .i64 (b - 1)) fun (n11 : Int) =>
.bind 1 [.one (.int .i64)] (
.loop 2 [.one (.int .i64)] (n10, ()) (u1 fun (n12 : Int) =>
.bind 3 [.one .bool] (
.tick <|
.ex [.adr] (c1 fun a13 => decide (n12 ≤ n11) = true → 0 ≤ n12 ∧ n12 < ((data.len : Nat) : Int) ∧ data.a = some a13) (u1 fun a14 =>
.read (decide (n12 ≤ n11) = true) (ld T.int64 (Addr.add a14 (Int.toNat n12 * 1))) (sI .i64) (u1 fun (n15 : Int) =>
.ex [.adr] (c1 fun a16 => decide (n12 ≤ n11) = true → 0 ≤ a ∧ a < ((data.len : Nat) : Int) ∧ data.a = some a16) (u1 fun a17 =>
.read (decide (n12 ≤ n11) = true) (ld T.int64 (Addr.add a17 (Int.toNat a * 1))) (sI .i64) (u1 fun (n18 : Int) =>
.ite (decide (n12 ≤ n11)) (
.call F.cmp_Less_int64 [.int .i64 n15, .int .i64 n18] sB (u1 fun b19 =>
.untick <|
.done 3 [.bool b19])) (
.untick <|
.done 3 [.bool false])))))) (u1 fun b20 =>
.ite (b20) (
.lt (.int .i64) (IntKind.wrap .i64 (n12 + 1)) fun (n21 : Int) =>
.done 2 [.int .i64 n21]) (
.done 1 [.int .i64 n12])))) (u1 fun (n22 : Int) =>
.bind 1 [.one (.int .i64)] (
.loop 2 [.one (.int .i64)] (n11, ()) (u1 fun (n23 : Int) =>
.bind 3 [.one .bool] (
.tick <|
.ex [.adr] (c1 fun a24 => decide (n22 ≤ n23) = true → 0 ≤ n23 ∧ n23 < ((data.len : Nat) : Int) ∧ data.a = some a24) (u1 fun a25 =>
.read (decide (n22 ≤ n23) = true) (ld T.int64 (Addr.add a25 (Int.toNat n23 * 1))) (sI .i64) (u1 fun (n26 : Int) =>
.ex [.adr] (c1 fun a27 => decide (n22 ≤ n23) = true → 0 ≤ a ∧ a < ((data.len : Nat) : Int) ∧ data.a = some a27) (u1 fun a28 =>
.read (decide (n22 ≤ n23) = true) (ld T.int64 (Addr.add a28 (Int.toNat a * 1))) (sI .i64) (u1 fun (n29 : Int) =>
.ite (decide (n22 ≤ n23)) (
.call F.cmp_Less_int64 [.int .i64 n26, .int .i64 n29] sB (u1 fun b30 =>
.untick <|
.done 3 [.bool (not b30)])) (
.untick <|
.done 3 [.bool false])))))) (u1 fun b31 =>
.ite (b31) (
.lt (.int .i64) (IntKind.wrap .i64 (n23 - 1)) fun (n32 : Int) =>
.done 2 [.int .i64 n32]) (
.done 1 [.int .i64 n23])))) (u1 fun (n33 : Int) =>
.ite (decide (n22 > n33)) (
.bind 1 [] (
.tick <|
.ex [.adr] (c1 fun a34 => 0 ≤ a ∧ a < ((data.len : Nat) : Int) ∧ data.a = some a34) (u1 fun a35 =>
.read True (ld T.int64 (Addr.add a35 (Int.toNat a * 1))) (sI .i64) (u1 fun (n36 : Int) =>
.ex [.adr] (c1 fun a37 => 0 ≤ n33 ∧ n33 < ((data.len : Nat) : Int) ∧ data.a = some a37) (u1 fun a38 =>
.read True (ld T.int64 (Addr.add a38 (Int.toNat n33 * 1))) (sI .i64) (u1 fun (n39 : Int) =>
.ex [.adr] (c1 fun a40 => 0 ≤ n33 ∧ n33 < ((data.len : Nat) : Int) ∧ data.a = some a40) (u1 fun a41 =>
.actU (st T.int64 (Addr.add a41 (Int.toNat n33 * 1)) (.int .i64 n36)) <|
.ex [.adr] (c1 fun a42 => 0 ≤ a ∧ a < ((data.len : Nat) : Int) ∧ data.a = some a42) (u1 fun a43 =>
.actU (st T.int64 (Addr.add a43 (Int.toNat a * 1)) (.int .i64 n39)) <|
.untick <|
.done 1 []))))))) (u0 <|
.lt (.int .i64) (n33) fun (n44 : Int) =>
.done 0 [.int .i64 n44, .bool true])) (
.bind 1 [] (
.tick <|
.ex [.adr] (c1 fun a45 => 0 ≤ n33 ∧ n33 < ((data.len : Nat) : Int) ∧ data.a = some a45) (u1 fun a46 =>
.read True (ld T.int64 (Addr.add a46 (Int.toNat n33 * 1))) (sI .i64) (u1 fun (n47 : Int) =>
.ex [.adr] (c1 fun a48 => 0 ≤ n22 ∧ n22 < ((data.len : Nat) : Int) ∧ data.a = some a48) (u1 fun a49 =>
.read True (ld T.int64 (Addr.add a49 (Int.toNat n22 * 1))) (sI .i64) (u1 fun (n50 : Int) =>
.ex [.adr] (c1 fun a51 => 0 ≤ n22 ∧ n22 < ((data.len : Nat) : Int) ∧ data.a = some a51) (u1 fun a52 =>
.actU (st T.int64 (Addr.add a52 (Int.toNat n22 * 1)) (.int .i64 n47)) <|
.ex [.adr] (c1 fun a53 => 0 ≤ n33 ∧ n33 < ((data.len : Nat) : Int) ∧ data.a = some a53) (u1 fun a54 =>
.actU (st T.int64 (Addr.add a54 (Int.toNat n33 * 1)) (.int .i64 n50)) <|
.untick <|
.done 1 []))))))) (u0 <|
.lt (.int .i64) (IntKind.wrap .i64 (n22 + 1)) fun (n55 : Int) =>
.lt (.int .i64) (IntKind.wrap .i64 (n33 - 1)) fun (n56 : Int) =>
.bind 1 [.one (.int .i64)] (
.loop 2 [.one (.int .i64), .one (.int .i64)] (n55, (n56, ())) (u2 fun (n57 : Int) (n58 : Int) =>
.bind 3 [.one (.int .i64), .one (.int .i64)] (
.bind 4 [.one (.int .i64)] (
.loop 5 [.one (.int .i64)] (n57, ()) (u1 fun (n59 : Int) =>
.bind 6 [.one .bool] (
.tick <|
.ex [.adr] (c1 fun a60 => decide (n59 ≤ n58) = true → 0 ≤ n59 ∧ n59 < ((data.len : Nat) : Int) ∧ data.a = some a60) (u1 fun a61 =>
.read (decide (n59 ≤ n58) = true) (ld T.int64 (Addr.add a61 (Int.toNat n59 * 1))) (sI .i64) (u1 fun (n62 : Int) =>
.ex [.adr] (c1 fun a63 => decide (n59 ≤ n58) = true → 0 ≤ a ∧ a < ((data.len : Nat) : Int) ∧ data.a = some a63) (u1 fun a64 =>
.read (decide (n59 ≤ n58) = true) (ld T.int64 (Addr.add a64 (Int.toNat a * 1))) (sI .i64) (u1 fun (n65 : Int) =>
.ite (decide (n59 ≤ n58)) (
.call F.cmp_Less_int64 [.int .i64 n62, .int .i64 n65] sB (u1 fun b66 =>
.untick <|
.done 6 [.bool b66])) (
.untick <|
.done 6 [.bool false])))))) (u1 fun b67 =>
.ite (b67) (
.lt (.int .i64) (IntKind.wrap .i64 (n59 + 1)) fun (n68 : Int) =>
.done 5 [.int .i64 n68]) (
.done 4 [.int .i64 n59])))) (u1 fun (n69 : Int) =>
.bind 4 [.one (.int .i64)] (
.loop 5 [.one (.int .i64)] (n58, ()) (u1 fun (n70 : Int) =>
.bind 6 [.one .bool] (
.tick <|
.ex [.adr] (c1 fun a71 => decide (n69 ≤ n70) = true → 0 ≤ n70 ∧ n70 < ((data.len : Nat) : Int) ∧ data.a = some a71) (u1 fun a72 =>
.read (decide (n69 ≤ n70) = true) (ld T.int64 (Addr.add a72 (Int.toNat n70 * 1))) (sI .i64) (u1 fun (n73 : Int) =>
.ex [.adr] (c1 fun a74 => decide (n69 ≤ n70) = true → 0 ≤ a ∧ a < ((data.len : Nat) : Int) ∧ data.a = some a74) (u1 fun a75 =>
.read (decide (n69 ≤ n70) = true) (ld T.int64 (Addr.add a75 (Int.toNat a * 1))) (sI .i64) (u1 fun (n76 : Int) =>
.ite (decide (n69 ≤ n70)) (
.call F.cmp_Less_int64 [.int .i64 n73, .int .i64 n76] sB (u1 fun b77 =>
.untick <|
.done 6 [.bool (not b77)])) (
.untick <|
.done 6 [.bool false])))))) (u1 fun b78 =>
.ite (b78) (
.lt (.int .i64) (IntKind.wrap .i64 (n70 - 1)) fun (n79 : Int) =>
.done 5 [.int .i64 n79]) (
.done 4 [.int .i64 n70])))) (u1 fun (n80 : Int) =>
.ite (decide (n69 > n80)) (
.done 1 [.int .i64 n80]) (
.bind 4 [] (
.tick <|
.ex [.adr] (c1 fun a81 => 0 ≤ n80 ∧ n80 < ((data.len : Nat) : Int) ∧ data.a = some a81) (u1 fun a82 =>
.read True (ld T.int64 (Addr.add a82 (Int.toNat n80 * 1))) (sI .i64) (u1 fun (n83 : Int) =>
.ex [.adr] (c1 fun a84 => 0 ≤ n69 ∧ n69 < ((data.len : Nat) : Int) ∧ data.a = some a84) (u1 fun a85 =>
.read True (ld T.int64 (Addr.add a85 (Int.toNat n69 * 1))) (sI .i64) (u1 fun (n86 : Int) =>
.ex [.adr] (c1 fun a87 => 0 ≤ n69 ∧ n69 < ((data.len : Nat) : Int) ∧ data.a = some a87) (u1 fun a88 =>
.actU (st T.int64 (Addr.add a88 (Int.toNat n69 * 1)) (.int .i64 n83)) <|
.ex [.adr] (c1 fun a89 => 0 ≤ n80 ∧ n80 < ((data.len : Nat) : Int) ∧ data.a = some a89) (u1 fun a90 =>
.actU (st T.int64 (Addr.add a90 (Int.toNat n80 * 1)) (.int .i64 n86)) <|
.untick <|
.done 4 []))))))) (u0 <|
.lt (.int .i64) (IntKind.wrap .i64 (n69 + 1)) fun (n91 : Int) =>
.lt (.int .i64) (IntKind.wrap .i64 (n80 - 1)) fun (n92 : Int) =>
.done 3 [.int .i64 n91, .int .i64 n92]))))) (u2 fun (n93 : Int) (n94 : Int) =>
.done 2 [.int .i64 n93, .int .i64 n94]))) (u1 fun (n95 : Int) =>
.bind 1 [] (
.tick <|
.ex [.adr] (c1 fun a96 => 0 ≤ a ∧ a < ((data.len : Nat) : Int) ∧ data.a = some a96) (u1 fun a97 =>
.read True (ld T.int64 (Addr.add a97 (Int.toNat a * 1))) (sI .i64) (u1 fun (n98 : Int) =>
.ex [.adr] (c1 fun a99 => 0 ≤ n95 ∧ n95 < ((data.len : Nat) : Int) ∧ data.a = some a99) (u1 fun a100 =>
.read True (ld T.int64 (Addr.add a100 (Int.toNat n95 * 1))) (sI .i64) (u1 fun (n101 : Int) =>
.ex [.adr] (c1 fun a102 => 0 ≤ n95 ∧ n95 < ((data.len : Nat) : Int) ∧ data.a = some a102) (u1 fun a103 =>
.actU (st T.int64 (Addr.add a103 (Int.toNat n95 * 1)) (.int .i64 n98)) <|
.ex [.adr] (c1 fun a104 => 0 ≤ a ∧ a < ((data.len : Nat) : Int) ∧ data.a = some a104) (u1 fun a105 =>
.actU (st T.int64 (Addr.add a105 (Int.toNat a * 1)) (.int .i64 n101)) <|
.untick <|
.done 1 []))))))) (u0 <|
.lt (.int .i64) (n95) fun (n106 : Int) =>
.done 0 [.int .i64 n106, .bool false])))))))
theorem slices_partitionOrdered_int64_eq (data : Sl) (a : Int) (b : Int) (pivot : Int) : decomp P 168 ⟨okFs, []⟩ { cnd := [], blk := [(0, [(10, .one (.int .i64))]), (2, [(11, .one (.int .i64))]), (4, [(11, .one (.int .i64))]), (5, [(10, .one (.int .i64)), (11, .one (.int .i64))]), (6, [(10, .one (.int .i64))]), (8, [(11, .one (.int .i64))])], reg := [(1, []), (3, [(43, .one .bool)]), (5, [(60, .one .bool)]), (8, []), (10, []), (13, [(112, .one .bool)]), (15, [(129, .one .bool)]), (18, []), (21, [])], lps := [(0, [(10, .one (.int .i64))]), (2, [(11, .one (.int .i64))]), (4, [(10, .one (.int .i64)), (11, .one (.int .i64))]), (6, [(10, .one (.int .i64))]), (8, [(11, .one (.int .i64))])] } [.tmp 8, .tmp 9] (bodyOf Go.Proofs.Tryz.f112) [.val (.slice data.a data.len data.cap), .val (.int .i64 a), .val (.int .i64 b), .val (.int .i64 pivot)] = slices_partitionOrdered_int64 data a b pivot := by kernel_rfl
theorem slices_partitionOrdered_int64_calls (data : Sl) (a : Int) (b : Int) (pivot : Int) {w : World} {R : List Value → World → Prop} (h : (slices_partitionOrdered_int64 data a b pivot).wp P (fun _ => True) w fun e vs w' => e = 0 ∧ R vs w') :
    Calls P F.slices_partitionOrdered_int64 #[.slice data.a data.len data.cap, .int .i64 a, .int .i64 b, .int .i64 pivot] w fun e w' => ∃ vs, e = .returned (pack vs) ∧ R vs w' :=
  decomp_sound (isFn_of Go.Proofs.Tryz.func112 (by kernel_rfl) (by kernel_rfl) (by kernel_rfl)) okFs_ok mix [.val (.slice data.a data.len data.cap), .val (.int .i64 a), .val (.int .i64 b), .val (.int .i64 pivot)] (by rw [slices_partitionOrdered_int64_eq]; exact h)

def rec_within (n : Int) (lo : Int) (hi : Int) : Prog :=
.lt (.bool) (decide (n ≥ lo) && decide (n ≤ hi)) fun b0 =>
.done 0 [.bool b0]
theorem rec_within_eq (n : Int) (lo : Int) (hi : Int) : decomp P 15 ⟨okFs, []⟩ { cnd := [], blk := [], reg := [], lps := [] } [.tmp 6] (bodyOf Go.Proofs.Tryz.f115) [.val (.int .i64 n), .val (.int .i64 lo), .val (.int .i64 hi)] = rec_within n lo hi := by kernel_rfl
theorem rec_within_calls (n : Int) (lo : Int) (hi : Int) {w : World} {R : List Value → World → Prop} (h : (rec_within n lo hi).wp P (fun _ => True) w fun e vs w' => e = 0 ∧ R vs w') :
    Calls P F.rec_within #[.int .i64 n, .int .i64 lo, .int .i64 hi] w fun e w' => ∃ vs, e = .returned (pack vs) ∧ R vs w' :=
  decomp_sound (isFn_of Go.Proofs.Tryz.func115 (by kernel_rfl) (by kernel_rfl) (by kernel_rfl)) okFs_ok mix [.val (.int .i64 n), .val (.int .i64 lo), .val (.int .i64 hi)] (by rw [rec_within_eq]; exact h)

def slices_siftDownCmpFunc_dedup_Row (data : Sl) (lo : Int) (hi : Int) (first : Int) (cmp : Value) : Prog :=
.lt (.int .i64) (lo) fun (n0 : Int) =>
.bind 1 [] (
.loop 2 [.one (.int .i64)] (n0, ()) (u1 fun (n1 : Int) =>
.lt (.int .i64) (IntKind.wrap .i64 (IntKind.wrap .i64 (2 * n1) + 1)) fun (n2 : Int) =>
.ite (decide (n2 ≥ hi)) (
.done 1 []) (
.bind 3 [.one .bool] (
.tick <|
.ex [.adr] (c1 fun a3 => decide (IntKind.wrap .i64 (n2 + 1) < hi) = true → 0 ≤ IntKind.wrap .i64 (first + n2) ∧ IntKind.wrap .i64 (first + n2) < ((data.len : Nat) : Int) ∧ data.a = some a3) (u1 fun a4 =>
.read (decide (IntKind.wrap .i64 (n2 + 1) < hi) = true) (ld T.dedup_Row (Addr.add a4 (Int.toNat (IntKind.wrap .i64 (first + n2)) * 7))) (sG [.int .i64, .int .i64, .int .i64, .int .i64, .int .i64, .int .i64, .int .i64]) (u7 fun (n5 : Int) (n6 : Int) (n7 : Int) (n8 : Int) (n9 : Int) (n10 : Int) (n11 : Int) =>
.ex [.adr] (c1 fun a12 => decide (IntKind.wrap .i64 (n2 + 1) < hi) = true → 0 ≤ IntKind.wrap .i64 (IntKind.wrap .i64 (first + n2) + 1) ∧ IntKind.wrap .i64 (IntKind.wrap .i64 (first + n2) + 1) < ((data.len : Nat) : Int) ∧ data.a = some a12) (u1 fun a13 =>
.read (decide (IntKind.wrap .i64 (n2 + 1) < hi) = true) (ld T.dedup_Row (Addr.add a13 (Int.toNat (IntKind.wrap .i64 (IntKind.wrap .i64 (first + n2) + 1)) * 7))) (sG [.int .i64, .int .i64, .int .i64, .int .i64, .int .i64, .int .i64, .int .i64]) (u7 fun (n14 : Int) (n15 : Int) (n16 : Int) (n17 : Int) (n18 : Int) (n19 : Int) (n20 : Int) =>
.ite (decide (IntKind.wrap .i64 (n2 + 1) < hi)) (
.callv (cmp) [.agg #[.int .i64 n5, .int .i64 n6, .int .i64 n7, .int .i64 n8, .int .i64 n9, .int .i64 n10, .int .i64 n11], .agg #[.int .i64 n14, .int .i64 n15, .int .i64 n16, .int .i64 n17, .int .i64 n18, .int .i64 n19, .int .i64 n20]] (sI .i64) (u1 fun (n21 : Int) =>
.untick <|
.done 3 [.bool (decide (n21 < 0))])) (
.untick <|
.done 3 [.bool false])))))) (u1 fun b22 =>
.bind 3 [.one (.int .i64)] (
.ite (b22) (
.lt (.int .i64) (IntKind.wrap .i64 (n2 + 1)) fun (n23 : Int) =>
.done 3 [.int .i64 n23]) (
.done 3 [.int .i64 n2])) (u1 fun (n24 : Int) =>
.tick <|
.ex [.adr] (c1 fun a25 => 0 ≤ IntKind.wrap .i64 (first + n1) ∧ IntKind.wrap .i64 (first + n1) < ((data.len : Nat) : Int) ∧ data.a = some a25) (u1 fun a26 =>
.read True (ld T.dedup_Row (Addr.add a26 (Int.toNat (IntKind.wrap .i64 (first + n1)) * 7))) (sG [.int .i64, .int .i64, .int .i64, .int .i64, .int .i64, .int .i64, .int .i64]) (u7 fun (n27 : Int) (n28 : Int) (n29 : Int) (n30 : Int) (n31 : Int) (n32 : Int) (n33 : Int) =>
.ex [.adr] (c1 fun a34 => 0 ≤ IntKind.wrap .i64 (first + n24) ∧ IntKind.wrap .i64 (first + n24) < ((data.len : Nat) : Int) ∧ data.a = some a34) (u1 fun a35 =>
.read True (ld T.dedup_Row (Addr.add a35 (Int.toNat (IntKind.wrap .i64 (first + n24)) * 7))) (sG [.int .i64, .int .i64, .int .i64, .int .i64, .int .i64, .int .i64, .int .i64]) (u7 fun (n36 : Int) (n37 : Int) (n38 : Int) (n39 : Int) (n40 : Int) (n41 : Int) (n42 : Int) =>
.callv (cmp) [.agg #[.int .i64 n27, .int .i64 n28, .int .i64 n29, .int .i64 n30, .int .i64 n31, .int .i64 n32, .int .i64 n33], .agg #[.int .i64 n36, .int .i64 n37, .int .i64 n38, .int .i64 n39, .int .i64 n40, .int .i64 n41, .int .i64 n42]] (sI .i64) (u1 fun (n43 : Int) =>
.untick <|
.ite (not (decide (n43 < 0))) (
.done 0 []) (
.bind 3 [] (
.tick <|
.ex [.adr] (c1 fun a44 => 0 ≤ IntKind.wrap .i64 (first + n24) ∧ IntKind.wrap .i64 (first + n24) < ((data.len : Nat) : Int) ∧ data.a = some a44) (u1 fun a45 =>
.read True (ld T.dedup_Row (Addr.add a45 (Int.toNat (IntKind.wrap .i64 (first + n24)) * 7))) (sG [.int .i64, .int .i64, .int .i64, .int .i64, .int .i64, .int .i64, .int .i64]) (u7 fun (n46 : Int) (n47 : Int) (n48 : Int) (n49 : Int) (n50 : Int) (n51 : Int) (n52 : Int) =>
.ex [.adr] (c1 fun a53 => 0 ≤ IntKind.wrap .i64 (first + n1) ∧ IntKind.wrap .i64 (first + n1) < ((data.len : Nat) : Int) ∧ data.a = some a53) (u1 fun a54 =>
.read True (ld T.dedup_Row (Addr.add a54 (Int.toNat (IntKind.wrap .i64 (first + n1)) * 7))) (sG [.int .i64, .int .i64, .int .i64, .int .i64, .int .i64, .int .i64, .int .i64]) (u7 fun (n55 : Int) (n56 : Int) (n57 : Int) (n58 : Int) (n59 : Int) (n60 : Int) (n61 : Int) =>
.ex [.adr] (c1 fun a62 => 0 ≤ IntKind.wrap .i64 (first + n1) ∧ IntKind.wrap .i64 (first + n1) < ((data.len : Nat) : Int) ∧ data.a = some a62) (u1 fun a63 =>
.actU (st T.dedup_Row (Addr.add a63 (Int.toNat (IntKind.wrap .i64 (first + n1)) * 7)) (.agg #[.int .i64 n46, .int .i64 n47, .int .i64 n48, .int .i64 n49, .int .i64 n50, .int .i64 n51, .int .i64 n52])) <|
.ex [.adr] (c1 fun a64 => 0 ≤ IntKind.wrap .i64 (first + n24) ∧ IntKind.wrap .i64 (first + n24) < ((data.len : Nat) : Int) ∧ data.a = some a64) (u1 fun a65 =>
.actU (st T.dedup_Row (Addr.add a65 (Int.toNat (IntKind.wrap .i64 (first + n24)) * 7)) (.agg #[.int .i64 n55, .int .i64 n56, .int .i64 n57, .int .i64 n58, .int .i64 n59, .int .i64 n60, .int .i64 n61])) <|
.untick <|
.done 3 []))))))) (u0 <|
.lt (.int .i64) (n24) fun (n66 : Int) =>
.done 2 [.int .i64 n66])))))))))))) (u0 <|
.done 0 [])
theorem slices_siftDownCmpFunc_dedup_Row_eq (data : Sl) (lo : Int) (hi : Int) (first : Int) (cmp : Value) : decomp P 82 ⟨okFs, []⟩ { cnd := [(27021597772611624, [(11, .one (.int .i64))])], blk := [(0, [])], reg := [(3, [(40, .one .bool)]), (6, [])], lps := [(0, [(10, .one (.int .i64))])] } [] (bodyOf Go.Proofs.Tryz.f116) [.val (.slice data.a data.len data.cap), .val (.int .i64 lo), .val (.int .i64 hi), .val (.int .i64 first), .any cmp] = slices_siftDownCmpFunc_dedup_Row data lo hi first cmp := by kernel_rfl
theorem slices_siftDownCmpFunc_dedup_Row_calls (data : Sl) (lo : Int) (hi : Int) (first : Int) (cmp : Value) {w : World} {R : List Value → World → Prop} (h : (slices_siftDownCmpFunc_dedup_Row data lo hi first cmp).wp P (fun _ => True) w fun e vs w' => e = 0 ∧ R vs w') :
    Calls P F.slices_siftDownCmpFunc_dedup_Row #[.slice data.a data.len data.cap, .int .i64 lo, .int .i64 hi, .int .i64 first, cmp] w fun e w' => ∃ vs, e = .returned (pack vs) ∧ R vs w' :=
  decomp_sound (isFn_of Go.Proofs.Tryz.func116 (by kernel_rfl) (by kernel_rfl) (by kernel_rfl)) okFs_ok mix [.val (.slice data.a data.len data.cap), .val (.int .i64 lo), .val (.int .i64 hi), .val (.int .i64 first), .any cmp] (by rw [slices_siftDownCmpFunc_dedup_Row_eq]; exact h)

def slices_nextPowerOfTwo (length : Int) : Prog :=
.call F.math_bits_Len [.int .u64 (IntKind.wrap .u64 length)] (sI .i64) (u1 fun (n0 : Int) =>
.must (0 ≤ n0) <|
.lt (.int .u64) (IntKind.wrap .u64 (1 * 2 ^ min (Int.toNat n0) 64)) fun (n1 : Int) =>
.done 0 [.int .u64 n1])
theorem slices_nextPowerOfTwo_eq (length : Int) : decomp P 7 ⟨okFs, []⟩ { cnd := [], blk := [], reg := [], lps := [] } [.tmp 2] (bodyOf Go.Proofs.Tryz.f117) [.val (.int .i64 length)] = slices_nextPowerOfTwo length := by kernel_rfl
theorem slices_nextPowerOfTwo_calls (length : Int) {w : World} {R : List Value → World → Prop} (h : (slices_nextPowerOfTwo length).wp P (fun _ => True) w fun e vs w' => e = 0 ∧ R vs w') :
    Calls P F.slices_nextPowerOfTwo #[.int .i64 length] w fun e w' => ∃ vs, e = .returned (pack vs) ∧ R vs w' :=
  decomp_sound (isFn_of Go.Proofs.Tryz.func117 (by kernel_rfl) (by kernel_rfl) (by kernel_rfl)) okFs_ok mix [.val (.int .i64 length)] (by rw [slices_nextPowerOfTwo_eq]; exact h)

def slices_xorshift_Next (r : Option Addr) : Prog :=
.tick <|
.ex [.adr] (c1 fun a0 => r = some a0) (u1 fun a1 =>
.read True (ld T.slices_xorshift a1) (sI .u64) (u1 fun (n2 : Int) =>
.ex [.adr] (c1 fun a3 => r = some a3) (u1 fun a4 =>
.read True (ld T.slices_xorshift a4) (sI .u64) (u1 fun (n5 : Int) =>
.ex [.adr] (c1 fun a6 => r = some a6) (u1 fun a7 =>
.actU (st T.slices_xorshift a7 (.int .u64 (IntKind.wrap .u64 (((BitVec.toNat (BitVec.ofInt 64 n2 ^^^ BitVec.ofInt 64 (IntKind.wrap .u64 (n5 * 8192))) : Nat) : Int))))) <|
.untick <|
.tick <|
.ex [.adr] (c1 fun a8 => r = some a8) (u1 fun a9 =>
.read True (ld T.slices_xorshift a9) (sI .u64) (u1 fun (n10 : Int) =>
.ex [.adr] (c1 fun a11 => r = some a11) (u1 fun a12 =>
.read True (ld T.slices_xorshift a12) (sI .u64) (u1 fun (n13 : Int) =>
.ex [.adr] (c1 fun a14 => r = some a14) (u1 fun a15 =>
.actU (st T.slices_xorshift a15 (.int .u64 (IntKind.wrap .u64 (((BitVec.toNat (BitVec.ofInt 64 n10 ^^^ BitVec.ofInt 64 (Int.fdiv n13 128)) : Nat) : Int))))) <|
.untick <|
.tick <|
.ex [.adr] (c1 fun a16 => r = some a16) (u1 fun a17 =>
.read True (ld T.slices_xorshift a17) (sI .u64) (u1 fun (n18 : Int) =>
.ex [.adr] (c1 fun a19 => r = some a19) (u1 fun a20 =>
.read True (ld T.slices_xorshift a20) (sI .u64) (u1 fun (n21 : Int) =>
.ex [.adr] (c1 fun a22 => r = some a22) (u1 fun a23 =>
.actU (st T.slices_xorshift a23 (.int .u64 (IntKind.wrap .u64 (((BitVec.toNat (BitVec.ofInt 64 n18 ^^^ BitVec.ofInt 64 (IntKind.wrap .u64 (n21 * 131072))) : Nat) : Int))))) <|
.untick <|
.ex [.adr] (c1 fun a24 => r = some a24) (u1 fun a25 =>
.read True (ld T.slices_xorshift a25) (sI .u64) (u1 fun (n26 : Int) =>
.lt (.int .u64) (n26) fun (n27 : Int) =>
.done 0 [.int .u64 n27])))))))))))))))))
theorem slices_xorshift_Next_eq (r : Option Addr) : decomp P 33 ⟨okFs, []⟩ { cnd := [], blk := [], reg := [], lps := [] } [.tmp 2] (bodyOf Go.Proofs.Tryz.f118) [.val (.pointer r)] = slices_xorshift_Next r := by kernel_rfl
theorem slices_xorshift_Next_calls (r : Option Addr) {w : World} {R : List Value → World → Prop} (h : (slices_xorshift_Next r).wp P (fun _ => True) w fun e vs w' => e = 0 ∧ R vs w') :
    Calls P F.slices_xorshift_Next #[.pointer r] w fun e w' => ∃ vs, e = .returned (pack vs) ∧ R vs w' :=
  decomp_sound (isFn_of Go.Proofs.Tryz.func118 (by kernel_rfl) (by kernel_rfl) (by kernel_rfl)) okFs_ok mix [.val (.pointer r)] (by rw [slices_xorshift_Next_eq]; exact h)

def slices_medianAdjacentCmpFunc_dedup_Row (data : Sl) (a : Int) (swaps : Option Addr) (cmp : Value) : Prog :=
.call F.slices_medianCmpFunc_dedup_Row [data.v, .int .i64 (IntKind.wrap .i64 (a - 1)), .int .i64 a, .int .i64 (IntKind.wrap .i64 (a + 1)), .pointer swaps, cmp] (sI .i64) (u1 fun (n0 : Int) =>
.lt (.int .i64) (n0) fun (n1 : Int) =>
.done 0 [.int .i64 n1])
theorem slices_medianAdjacentCmpFunc_dedup_Row_eq (data : Sl) (a : Int) (swaps : Option Addr) (cmp : Value) : decomp P 18 ⟨okFs, []⟩ { cnd := [], blk := [], reg := [], lps := [] } [.tmp 8] (bodyOf Go.Proofs.Tryz.f119) [.val (.slice data.a data.len data.cap), .val (.int .i64 a), .val (.pointer swaps), .any cmp] = slices_medianAdjacentCmpFunc_dedup_Row data a swaps cmp := by kernel_rfl
theorem slices_medianAdjacentCmpFunc_dedup_Row_calls (data : Sl) (a : Int) (swaps : Option Addr) (cmp : Value) {w : World} {R : List Value → World → Prop} (h : (slices_medianAdjacentCmpFunc_dedup_Row data a swaps cmp).wp P (fun _ => True) w fun e vs w' => e = 0 ∧ R vs w') :
    Calls P F.slices_medianAdjacentCmpFunc_dedup_Row #[.slice data.a data.len data.cap, .int .i64 a, .pointer swaps, cmp] w fun e w' => ∃ vs, e = .returned (pack vs) ∧ R vs w' :=
  decomp_sound (isFn_of Go.Proofs.Tryz.func119 (by kernel_rfl) (by kernel_rfl) (by kernel_rfl)) okFs_ok mix [.val (.slice data.a data.len data.cap), .val (.int .i64 a), .val (.pointer swaps), .any cmp] (by rw [slices_medianAdjacentCmpFunc_dedup_Row_eq]; exact h)

def slices_medianCmpFunc_dedup_Row (data : Sl) (a : Int) (b : Int) (c : Int) (swaps : Option Addr) (cmp : Value) : Prog :=
.call F.slices_order2CmpFunc_dedup_Row [data.v, .int .i64 a, .int .i64 b, .pointer swaps, cmp] (.tup [.one (.int .i64), .one (.int .i64)]) (u2 fun (n0 : Int) (n1 : Int) =>
.lt (.int .i64) (n0) fun (n2 : Int) =>
.lt (.int .i64) (n1) fun (n3 : Int) =>
.call F.slices_order2CmpFunc_dedup_Row [data.v, .int .i64 n3, .int .i64 c, .pointer swaps, cmp] (.tup [.one (.int .i64), .one (.int .i64)]) (u2 fun (n4 : Int) (n5 : Int) =>
.lt (.int .i64) (n4) fun (n6 : Int) =>
.lt (.int .i64) (n5) fun (n7 : Int) =>
.call F.slices_order2CmpFunc_dedup_Row [data.v, .int .i64 n2, .int .i64 n6, .pointer swaps, cmp] (.tup [.one (.int .i64), .one (.int .i64)]) (u2 fun (n8 : Int) (n9 : Int) =>
.lt (.int .i64) (n8) fun (n10 : Int) =>
.lt (.int .i64) (n9) fun (n11 : Int) =>
.lt (.int .i64) (n11) fun (n12 : Int) =>
.done 0 [.int .i64 n12])))
theorem slices_medianCmpFunc_dedup_Row_eq (data : Sl) (a : Int) (b : Int) (c : Int) (swaps : Option Addr) (cmp : Value) : decomp P 41 ⟨okFs, []⟩ { cnd := [], blk := [], reg := [], lps := [] } [.tmp 12] (bodyOf Go.Proofs.Tryz.f120) [.val (.slice data.a data.len data.cap), .val (.int .i64 a), .val (.int .i64 b), .val (.int .i64 c), .val (.pointer swaps), .any cmp] = slices_medianCmpFunc_dedup_Row data a b c swaps cmp := by kernel_rfl
theorem slices_medianCmpFunc_dedup_Row_calls (data : Sl) (a : Int) (b : Int) (c : Int) (swaps : Option Addr) (cmp : Value) {w : World} {R : List Value → World → Prop} (h : (slices_medianCmpFunc_dedup_Row data a b c swaps cmp).wp P (fun _ => True) w fun e vs w' => e = 0 ∧ R vs w') :
    Calls P F.slices_medianCmpFunc_dedup_Row #[.slice data.a data.len data.cap, .int .i64 a, .int .i64 b, .int .i64 c, .pointer swaps, cmp] w fun e w' => ∃ vs, e = .returned (pack vs) ∧ R vs w' :=
  decomp_sound (isFn_of Go.Proofs.Tryz.func120 (by kernel_rfl) (by kernel_rfl) (by kernel_rfl)) okFs_ok mix [.val (.slice data.a data.len data.cap), .val (.int .i64 a), .val (.int .i64 b), .val (.int .i64 c), .val (.pointer swaps), .any cmp] (by rw [slices_medianCmpFunc_dedup_Row_eq]; exact h)

def slices_siftDownOrdered_int64 (data : Sl) (lo : Int) (hi : Int) (first : Int) : Prog :=
.lt (.int .i64) (lo) fun (n0 : Int) =>
.bind 1 [] (
.loop 2 [.one (.int .i64)] (n0, ()) (u1 fun (n1 : Int) =>
.lt (.int .i64) (IntKind.wrap .i64 (IntKind.wrap .i64 (2 * n1) + 1)) fun (n2 : Int) =>
.ite (decide (n2 ≥ hi)) (
.done 1 []) (
.bind 3 [.one .bool] (
.tick <|
.ex [.adr] (c1 fun a3 => decide (IntKind.wrap .i64 (n2 + 1) < hi) = true → 0 ≤ IntKind.wrap .i64 (first + n2) ∧ IntKind.wrap .i64 (first + n2) < ((data.len : Nat) : Int) ∧ data.a = some a3) (u1 fun a4 =>
.read (decide (IntKind.wrap .i64 (n2 + 1) < hi) = true) (ld T.int64 (Addr.add a4 (Int.toNat (IntKind.wrap .i64 (first + n2)) * 1))) (sI .i64) (u1 fun (n5 : Int) =>
.ex [.adr] (c1 fun a6 => decide (IntKind.wrap .i64 (n2 + 1) < hi) = true → 0 ≤ IntKind.wrap .i64 (IntKind.wrap .i64 (first + n2) + 1) ∧ IntKind.wrap .i64 (IntKind.wrap .i64 (first + n2) + 1) < ((data.len : Nat) : Int) ∧ data.a = some a6) (u1 fun a7 =>
.read (decide (IntKind.wrap .i64 (n2 + 1) < hi) = true) (ld T.int64 (Addr.add a7 (Int.toNat (IntKind.wrap .i64 (IntKind.wrap .i64 (first + n2) + 1)) * 1))) (sI .i64) (u1 fun (n8 : Int) =>
.ite (decide (IntKind.wrap .i64 (n2 + 1) < hi)) (
.call F.cmp_Less_int64 [.int .i64 n5, .int .i64 n8] sB (u1 fun b9 =>
.untick <|
.done 3 [.bool b9])) (
.untick <|
.done 3 [.bool false])))))) (u1 fun b10 =>
.bind 3 [.one (.int .i64)] (
.ite (b10) (
.lt (.int .i64) (IntKind.wrap .i64 (n2 + 1)) fun (n11 : Int) =>
.done 3 [.int .i64 n11]) (
.done 3 [.int .i64 n2])) (u1 fun (n12 : Int) =>
.tick <|
.ex [.adr] (c1 fun a13 => 0 ≤ IntKind.wrap .i64 (first + n1) ∧ IntKind.wrap .i64 (first + n1) < ((data.len : Nat) : Int) ∧ data.a = some a13) (u1 fun a14 =>
.read True (ld T.int64 (Addr.add a14 (Int.toNat (IntKind.wrap .i64 (first + n1)) * 1))) (sI .i64) (u1 fun (n15 : Int) =>
.ex [.adr] (c1 fun a16 => 0 ≤ IntKind.wrap .i64 (first + n12) ∧ IntKind.wrap .i64 (first + n12) < ((data.len : Nat) : Int) ∧ data.a = some a16) (u1 fun a17 =>
.read True (ld T.int64 (Addr.add a17 (Int.toNat (IntKind.wrap .i64 (first + n12)) * 1))) (sI .i64) (u1 fun (n18 : Int) =>
.call F.cmp_Less_int64 [.int .i64 n15, .int .i64 n18] sB (u1 fun b19 =>
.untick <|
.ite (not b19) (
.done 0 []) (
.bind 3 [] (
.tick <|
.ex [.adr] (c1 fun a20 => 0 ≤ IntKind.wrap .i64 (first + n12) ∧ IntKind.wrap .i64 (first + n12) < ((data.len : Nat) : Int) ∧ data.a = some a20) (u1 fun a21 =>
.read True (ld T.int64 (Addr.add a21 (Int.toNat (IntKind.wrap .i64 (first + n12)) * 1))) (sI .i64) (u1 fun (n22 : Int) =>
.ex [.adr] (c1 fun a23 => 0 ≤ IntKind.wrap .i64 (first + n1) ∧ IntKind.wrap .i64 (first + n1) < ((data.len : Nat) : Int) ∧ data.a = some a23) (u1 fun a24 =>
.read True (ld T.int64 (Addr.add a24 (Int.toNat (IntKind.wrap .i64 (first + n1)) * 1))) (sI .i64) (u1 fun (n25 : Int) =>
.ex [.adr] (c1 fun a26 => 0 ≤ IntKind.wrap .i64 (first + n1) ∧ IntKind.wrap .i64 (first + n1) < ((data.len : Nat) : Int) ∧ data.a = some a26) (u1 fun a27 =>
.actU (st T.int64 (Addr.add a27 (Int.toNat (IntKind.wrap .i64 (first + n1)) * 1)) (.int .i64 n22)) <|
.ex [.adr] (c1 fun a28 => 0 ≤ IntKind.wrap .i64 (first + n12) ∧ IntKind.wrap .i64 (first + n12) < ((data.len : Nat) : Int) ∧ data.a = some a28) (u1 fun a29 =>
.actU (st T.int64 (Addr.add a29 (Int.toNat (IntKind.wrap .i64 (first + n12)) * 1)) (.int .i64 n25)) <|
.untick <|
.done 3 []))))))) (u0 <|
.lt (.int .i64) (n12) fun (n30 : Int) =>
.done 2 [.int .i64 n30])))))))))))) (u0 <|
.done 0 [])
theorem slices_siftDownOrdered_int64_eq (data : Sl) (lo : Int) (hi : Int) (first : Int) : decomp P 76 ⟨okFs, []⟩ { cnd := [(1688849862361124, [(9, .one (.int .i64))])], blk := [(0, [])], reg := [(3, [(36, .one .bool)]), (6, [])], lps := [(0, [(8, .one (.int .i64))])] } [] (bodyOf Go.Proofs.Tryz.f121) [.val (.slice data.a data.len data.cap), .val (.int .i64 lo), .val (.int .i64 hi), .val (.int .i64 first)] = slices_siftDownOrdered_int64 data lo hi first := by kernel_rfl
theorem slices_siftDownOrdered_int64_calls (data : Sl) (lo : Int) (hi : Int) (first : Int) {w : World} {R : List Value → World → Prop} (h : (slices_siftDownOrdered_int64 data lo hi first).wp P (fun _ => True) w fun e vs w' => e = 0 ∧ R vs w') :
    Calls P F.slices_siftDownOrdered_int64 #[.slice data.a data.len data.cap, .int .i64 lo, .int .i64 hi, .int .i64 first] w fun e w' => ∃ vs, e = .returned (pack vs) ∧ R vs w' :=
  decomp_sound (isFn_of Go.Proofs.Tryz.func121 (by kernel_rfl) (by kernel_rfl) (by kernel_rfl)) okFs_ok mix [.val (.slice data.a data.len data.cap), .val (.int .i64 lo), .val (.int .i64 hi), .val (.int .i64 first)] (by rw [slices_siftDownOrdered_int64_eq]; exact h)

def slices_medianAdjacentOrdered_int64 (data : Sl) (a : Int) (swaps : Option Addr) : Prog :=
.call F.slices_medianOrdered_int64 [data.v, .int .i64 (IntKind.wrap .i64 (a - 1)), .int .i64 a, .int .i64 (IntKind.wrap .i64 (a + 1)), .pointer swaps] (sI .i64) (u1 fun (n0 : Int) =>
.lt (.int .i64) (n0) fun (n1 : Int) =>
.done 0 [.int .i64 n1])
theorem slices_medianAdjacentOrdered_int64_eq (data : Sl) (a : Int) (swaps : Option Addr) : decomp P 15 ⟨okFs, []⟩ { cnd := [], blk := [], reg := [], lps := [] } [.tmp 6] (bodyOf Go.Proofs.Tryz.f122) [.val (.slice data.a data.len data.cap), .val (.int .i64 a), .val (.pointer swaps)] = slices_medianAdjacentOrdered_int64 data a swaps := by kernel_rfl
theorem slices_medianAdjacentOrdered_int64_calls (data : Sl) (a : Int) (swaps : Option Addr) {w : World} {R : List Value → World → Prop} (h : (slices_medianAdjacentOrdered_int64 data a swaps).wp P (fun _ => True) w fun e vs w' => e = 0 ∧ R vs w') :
    Calls P F.slices_medianAdjacentOrdered_int64 #[.slice data.a data.len data.cap, .int .i64 a, .pointer swaps] w fun e w' => ∃ vs, e = .returned (pack vs) ∧ R vs w' :=
  decomp_sound (isFn_of Go.Proofs.Tryz.func122 (by kernel_rfl) (by kernel_rfl) (by kernel_rfl)) okFs_ok mix [.val (.slice data.a data.len data.cap), .val (.int .i64 a), .val (.pointer swaps)] (by rw [slices_medianAdjacentOrdered_int64_eq]; exact h)

def slices_medianOrdered_int64 (data : Sl) (a : Int) (b : Int) (c : Int) (swaps : Option Addr) : Prog :=
.call F.slices_order2Ordered_int64 [data.v, .int .i64 a, .int .i64 b, .pointer swaps] (.tup [.one (.int .i64), .one (.int .i64)]) (u2 fun (n0 : Int) (n1 : Int) =>
.lt (.int .i64) (n0) fun (n2 : Int) =>
.lt (.int .i64) (n1) fun (n3 : Int) =>
.call F.slices_order2Ordered_int64 [data.v, .int .i64 n3, .int .i64 c, .pointer swaps] (.tup [.one (.int .i64), .one (.int .i64)]) (u2 fun (n4 : Int) (n5 : Int) =>
.lt (.int .i64) (n4) fun (n6 : Int) =>
.lt (.int .i64) (n5) fun (n7 : Int) =>
.call F.slices_order2Ordered_int64 [data.v, .int .i64 n2, .int .i64 n6, .pointer swaps] (.tup [.one (.int .i64), .one (.int .i64)]) (u2 fun (n8 : Int) (n9 : Int) =>
.lt (.int .i64) (n8) fun (n10 : Int) =>
.lt (.int .i64) (n9) fun (n11 : Int) =>
.lt (.int .i64) (n11) fun (n12 : Int) =>
.done 0 [.int .i64 n12])))
theorem slices_medianOrdered_int64_eq (data : Sl) (a : Int) (b : Int) (c : Int) (swaps : Option Addr) : decomp P 36 ⟨okFs, []⟩ { cnd := [], blk := [], reg := [], lps := [] } [.tmp 10] (bodyOf Go.Proofs.Tryz.f123) [.val (.slice data.a data.len data.cap), .val (.int .i64 a), .val (.int .i64 b), .val (.int .i64 c), .val (.pointer swaps)] = slices_medianOrdered_int64 data a b c swaps := by kernel_rfl
theorem slices_medianOrdered_int64_calls (data : Sl) (a : Int) (b : Int) (c : Int) (swaps : Option Addr) {w : World} {R : List Value → World → Prop} (h : (slices_medianOrdered_int64 data a b c swaps).wp P (fun _ => True) w fun e vs w' => e = 0 ∧ R vs w') :
    Calls P F.slices_medianOrdered_int64 #[.slice data.a data.len data.cap, .int .i64 a, .int .i64 b, .int .i64 c, .pointer swaps] w fun e w' => ∃ vs, e = .returned (pack vs) ∧ R vs w' :=
  decomp_sound (isFn_of Go.Proofs.Tryz.func123 (by kernel_rfl) (by kernel_rfl) (by kernel_rfl)) okFs_ok mix [.val (.slice data.a data.len data.cap), .val (.int .i64 a), .val (.int .i64 b), .val (.int .i64 c), .val (.pointer swaps)] (by rw [slices_medianOrdered_int64_eq]; exact h)

def slices_order2CmpFunc_dedup_Row (data : Sl) (a : Int) (b : Int) (swaps : Option Addr) (cmp : Value) : Prog :=
.tick <|
.ex [.adr] (c1 fun a0 => 0 ≤ b ∧ b < ((data.len : Nat) : Int) ∧ data.a = some a0) (u1 fun a1 =>
.read True (ld T.dedup_Row (Addr.add a1 (Int.toNat b * 7))) (sG [.int .i64, .int .i64, .int .i64, .int .i64, .int .i64, .int .i64, .int .i64]) (u7 fun (n2 : Int) (n3 : Int) (n4 : Int) (n5 : Int) (n6 : Int) (n7 : Int) (n8 : Int) =>
.ex [.adr] (c1 fun a9 => 0 ≤ a ∧ a < ((data.len : Nat) : Int) ∧ data.a = some a9) (u1 fun a10 =>
.read True (ld T.dedup_Row (Addr.add a10 (Int.toNat a * 7))) (sG [.int .i64, .int .i64, .int .i64, .int .i64, .int .i64, .int .i64, .int .i64]) (u7 fun (n11 : Int) (n12 : Int) (n13 : Int) (n14 : Int) (n15 : Int) (n16 : Int) (n17 : Int) =>
.callv (cmp) [.agg #[.int .i64 n2, .int .i64 n3, .int .i64 n4, .int .i64 n5, .int .i64 n6, .int .i64 n7, .int .i64 n8], .agg #[.int .i64 n11, .int .i64 n12, .int .i64 n13, .int .i64 n14, .int .i64 n15, .int .i64 n16, .int .i64 n17]] (sI .i64) (u1 fun (n18 : Int) =>
.untick <|
.ite (decide (n18 < 0)) (
.ex [.adr] (c1 fun a19 => swaps = some a19) (u1 fun a20 =>
.read True (ld T.int a20) (sI .i64) (u1 fun (n21 : Int) =>
.ex [.adr] (c1 fun a22 => swaps = some a22) (u1 fun a23 =>
.actU (st T.int a23 (.int .i64 (IntKind.wrap .i64 (n21 + 1)))) <|
.lt (.int .i64) (b) fun (n24 : Int) =>
.lt (.int .i64) (a) fun (n25 : Int) =>
.done 0 [.int .i64 n24, .int .i64 n25])))) (
.lt (.int .i64) (a) fun (n26 : Int) =>
.lt (.int .i64) (b) fun (n27 : Int) =>
.done 0 [.int .i64 n26, .int .i64 n27]))))))
theorem slices_order2CmpFunc_dedup_Row_eq (data : Sl) (a : Int) (b : Int) (swaps : Option Addr) (cmp : Value) : decomp P 32 ⟨okFs, []⟩ { cnd := [], blk := [], reg := [], lps := [] } [.tmp 10, .tmp 11] (bodyOf Go.Proofs.Tryz.f124) [.val (.slice data.a data.len data.cap), .val (.int .i64 a), .val (.int .i64 b), .val (.pointer swaps), .any cmp] = slices_order2CmpFunc_dedup_Row data a b swaps cmp := by kernel_rfl
theorem slices_order2CmpFunc_dedup_Row_calls (data : Sl) (a : Int) (b : Int) (swaps : Option Addr) (cmp : Value) {w : World} {R : List Value → World → Prop} (h : (slices_order2CmpFunc_dedup_Row data a b swaps cmp).wp P (fun _ => True) w fun e vs w' => e = 0 ∧ R vs w') :
    Calls P F.slices_order2CmpFunc_dedup_Row #[.slice data.a data.len data.cap, .int .i64 a, .int .i64 b, .pointer swaps, cmp] w fun e w' => ∃ vs, e = .returned (pack vs) ∧ R vs w' :=
  decomp_sound (isFn_of Go.Proofs.Tryz.func124 (by kernel_rfl) (by kernel_rfl) (by kernel_rfl)) okFs_ok mix [.val (.slice data.a data.len data.cap), .val (.int .i64 a), .val (.int .i64 b), .val (.pointer swaps), .any cmp] (by rw [slices_order2CmpFunc_dedup_Row_eq]; exact h)

def slices_order2Ordered_int64 (data : Sl) (a : Int) (b : Int) (swaps : Option Addr) : Prog :=
.tick <|
.ex [.adr] (c1 fun a0 => 0 ≤ b ∧ b < ((data.len : Nat) : Int) ∧ data.a = some a0) (u1 fun a1 =>
.read True (ld T.int64 (Addr.add a1 (Int.toNat b * 1))) (sI .i64) (u1 fun (n2 : Int) =>
.ex [.adr] (c1 fun a3 => 0 ≤ a ∧ a < ((data.len : Nat) : Int) ∧ data.a = some a3) (u1 fun a4 =>
.read True (ld T.int64 (Addr.add a4 (Int.toNat a * 1))) (sI .i64) (u1 fun (n5 : Int) =>
.call F.cmp_Less_int64 [.int .i64 n2, .int .i64 n5] sB (u1 fun b6 =>
.untick <|
.ite (b6) (
.ex [.adr] (c1 fun a7 => swaps = some a7) (u1 fun a8 =>
.read True (ld T.int a8) (sI .i64) (u1 fun (n9 : Int) =>
.ex [.adr] (c1 fun a10 => swaps = some a10) (u1 fun a11 =>
.actU (st T.int a11 (.int .i64 (IntKind.wrap .i64 (n9 + 1)))) <|
.lt (.int .i64) (b) fun (n12 : Int) =>
.lt (.int .i64) (a) fun (n13 : Int) =>
.done 0 [.int .i64 n12, .int .i64 n13])))) (
.lt (.int .i64) (a) fun (n14 : Int) =>
.lt (.int .i64) (b) fun (n15 : Int) =>
.done 0 [.int .i64 n14, .int .i64 n15]))))))
theorem slices_order2Ordered_int64_eq (data : Sl) (a : Int) (b : Int) (swaps : Option Addr) : decomp P 28 ⟨okFs, []⟩ { cnd := [], blk := [], reg := [], lps := [] } [.tmp 8, .tmp 9] (bodyOf Go.Proofs.Tryz.f125) [.val (.slice data.a data.len data.cap), .val (.int .i64 a), .val (.int .i64 b), .val (.pointer swaps)] = slices_order2Ordered_int64 data a b swaps := by kernel_rfl
theorem slices_order2Ordered_int64_calls (data : Sl) (a : Int) (b : Int) (swaps : Option Addr) {w : World} {R : List Value → World → Prop} (h : (slices_order2Ordered_int64 data a b swaps).wp P (fun _ => True) w fun e vs w' => e = 0 ∧ R vs w') :
    Calls P F.slices_order2Ordered_int64 #[.slice data.a data.len data.cap, .int .i64 a, .int .i64 b, .pointer swaps] w fun e w' => ∃ vs, e = .returned (pack vs) ∧ R vs w' :=
  decomp_sound (isFn_of Go.Proofs.Tryz.func125 (by kernel_rfl) (by kernel_rfl) (by kernel_rfl)) okFs_ok mix [.val (.slice data.a data.len data.cap), .val (.int .i64 a), .val (.int .i64 b), .val (.pointer swaps)] (by rw [slices_order2Ordered_int64_eq]; exact h)
end Go.Dec
