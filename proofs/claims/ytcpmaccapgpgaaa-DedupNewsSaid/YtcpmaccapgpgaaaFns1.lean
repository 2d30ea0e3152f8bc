/- Functions of this seat, decompiled by a program of ours; each is held to the code by the kernel. -/
import Derived.Test.YtcpmaccapgpgaaaNames
namespace Go.Dec
set_option linter.unusedVariables false

def towpathlaw07_DedupNews (most : Int) : Prog :=
.call F.dedup_New [.int .i64 most] (.tup [.one .ptr, .one (.int .i64)]) (u2 fun p0 (n1 : Int) =>
.lt (.int .i64) (n1) fun (n2 : Int) =>
.act (Instr.buildSlice T.s_uint8 2 #[(0, .int .u8 0), (1, .int .u8 0)]) sL (u1 fun l3 =>
.call F.towpathref02_Seal [l3.v] sL (u1 fun l4 =>
.call F.dedup_Load [l4.v, .int .i64 most] (.tup [.one .ptr, .one (.int .i64)]) (u2 fun p5 (n6 : Int) =>
.lt (.int .i64) (n6) fun (n7 : Int) =>
.ite (decide (most < 1) || decide (most > 4096)) (
.bind 1 [.one .bool] (
.ite (Option.isNone p0 && n2 == 2 && Option.isNone p5 && n7 == 2) (
.call F.towpathlaw07_awake [] sB (u1 fun b8 =>
.lt (.bool) (b8) fun b9 =>
.done 1 [.bool b9])) (
.done 1 [.bool false])) (u1 fun b10 =>
.done 0 [.bool b10])) (
.act (Instr.box T.towpathref07_Table (.agg #[.int .i64 most, .int .i64 0, .slice none 0 0])) sA (u1 fun a11 =>
.bind 1 [.one .bool] (
.ite (n2 == 0 && n7 == 0) (
.call F.towpathlaw07_same [.pointer p0, .pointer (some a11)] sB (u1 fun b12 =>
.ite (b12) (
.call F.towpathlaw07_same [.pointer p5, .pointer (some a11)] sB (u1 fun b13 =>
.ite (b13) (
.call F.towpathlaw07_awake [] sB (u1 fun b14 =>
.lt (.bool) (b14) fun b15 =>
.done 1 [.bool b15])) (
.done 1 [.bool false]))) (
.done 1 [.bool false]))) (
.done 1 [.bool false])) (u1 fun b16 =>
.done 0 [.bool b16])))))))
theorem towpathlaw07_DedupNews_eq (most : Int) : decomp P 65 ⟨okFs, []⟩ { cnd := [], blk := [], reg := [(4, [(2, .one .bool)]), (6, [(2, .one .bool)])], lps := [] } [.tmp 2] (bodyOf Go.Proofs.Try.f5) [.val (.int .i64 most)] = towpathlaw07_DedupNews most := by kernel_rfl
theorem towpathlaw07_DedupNews_calls (most : Int) {w : World} {R : List Value → World → Prop} (h : (towpathlaw07_DedupNews most).wp P (fun _ => True) w fun e vs w' => e = 0 ∧ R vs w') :
    Calls P F.towpathlaw07_DedupNews #[.int .i64 most] w fun e w' => ∃ vs, e = .returned (pack vs) ∧ R vs w' :=
  decomp_sound (isFn_of Go.Proofs.Try.func5 (by kernel_rfl) (by kernel_rfl) (by kernel_rfl)) okFs_ok mix [.val (.int .i64 most)] (by rw [towpathlaw07_DedupNews_eq]; exact h)

def towpathlaw07_DedupNil (b_0 : Int) (b_1 : Int) (b_2 : Int) (b_3 : Int) (b_4 : Int) (b_5 : Int) (b_6 : Sl) (time : Int) : Prog :=
.act (Instr.box T.api_Batch (.agg #[.int .i64 b_0, .int .i64 b_1, .int .i64 b_2, .int .i64 b_3, .int .i64 b_4, .int .i64 b_5, b_6.v])) sA (u1 fun a0 =>
.read True (ld T.api_Batch a0) (sG [.int .i64, .int .i64, .int .i64, .int .i64, .int .i64, .int .i64, .slc]) (u7 fun (n1 : Int) (n2 : Int) (n3 : Int) (n4 : Int) (n5 : Int) (n6 : Int) l7 =>
.call F.dedup_Table_Judge [.pointer none, .agg #[.int .i64 n1, .int .i64 n2, .int .i64 n3, .int .i64 n4, .int .i64 n5, .int .i64 n6, l7.v]] (.tup [.agg [.bool, .int .i64], .one (.int .i64)]) (u3 fun b8 (n9 : Int) (n10 : Int) =>
.act (new T.dedup_Verdict) sA (u1 fun a11 =>
.actU (st T.dedup_Verdict a11 (.agg #[.bool b8, .int .i64 n9])) <|
.lt (.int .i64) (n10) fun (n12 : Int) =>
.call F.dedup_Table_Row [.pointer none, .int .i64 time] (.tup [.agg [.int .i64, .int .i64, .int .i64, .int .i64, .int .i64, .int .i64, .int .i64], .one .bool]) (u8 fun (n13 : Int) (n14 : Int) (n15 : Int) (n16 : Int) (n17 : Int) (n18 : Int) (n19 : Int) b20 =>
.act (new T.dedup_Row) sA (u1 fun a21 =>
.actU (st T.dedup_Row a21 (.agg #[.int .i64 n13, .int .i64 n14, .int .i64 n15, .int .i64 n16, .int .i64 n17, .int .i64 n18, .int .i64 n19])) <|
.lt (.bool) (b20) fun b22 =>
.bind 1 [.one .bool] (
.read True (ld T.dedup_Verdict a11) (sG [.bool, .int .i64]) (u2 fun b23 (n24 : Int) =>
.read ((b23 == false && n24 == 0 && n12 == 1) = true) (ld T.api_Batch a0) (sG [.int .i64, .int .i64, .int .i64, .int .i64, .int .i64, .int .i64, .slc]) (u7 fun (n25 : Int) (n26 : Int) (n27 : Int) (n28 : Int) (n29 : Int) (n30 : Int) l31 =>
.ite (b23 == false && n24 == 0 && n12 == 1) (
.call F.dedup_Table_Take [.pointer none, .agg #[.int .i64 n25, .int .i64 n26, .int .i64 n27, .int .i64 n28, .int .i64 n29, .int .i64 n30, l31.v]] (sI .i64) (u1 fun (n32 : Int) =>
.ite (n32 == 1) (
.call F.dedup_Table_Expire [.pointer none, .int .i64 time] sL (u1 fun l33 =>
.read ((((l33.len : Nat) : Int) == 0 && not b22) = true) (ld T.dedup_Row a21) (sG [.int .i64, .int .i64, .int .i64, .int .i64, .int .i64, .int .i64, .int .i64]) (u7 fun (n34 : Int) (n35 : Int) (n36 : Int) (n37 : Int) (n38 : Int) (n39 : Int) (n40 : Int) =>
.ite (((l33.len : Nat) : Int) == 0 && not b22 && (n34 == 0 && (n35 == 0 && (n36 == 0 && (n37 == 0 && (n38 == 0 && (n39 == 0 && n40 == 0))))))) (
.call F.dedup_Table_Rows [.pointer none] sL (u1 fun l41 =>
.ite (((l41.len : Nat) : Int) == 0) (
.call F.dedup_Table_Open [.pointer none] sL (u1 fun l42 =>
.ite (((l42.len : Nat) : Int) == 0) (
.call F.dedup_Table_Stable [.pointer none] (sI .i64) (u1 fun (n43 : Int) =>
.ite (n43 == 0) (
.call F.dedup_Table_Next [.pointer none] (sI .i64) (u1 fun (n44 : Int) =>
.ite (n44 == 0) (
.call F.dedup_Table_Bytes [.pointer none] sL (u1 fun l45 =>
.ite (((l45.len : Nat) : Int) == 0) (
.call F.dedup_Table_Copy [.pointer none] sP (u1 fun p46 =>
.ite (Option.isNone p46) (
.call F.towpathlaw07_awake [] sB (u1 fun b47 =>
.lt (.bool) (b47) fun b48 =>
.done 1 [.bool b48])) (
.done 1 [.bool false]))) (
.done 1 [.bool false]))) (
.done 1 [.bool false]))) (
.done 1 [.bool false]))) (
.done 1 [.bool false]))) (
.done 1 [.bool false]))) (
.done 1 [.bool false])))) (
.done 1 [.bool false]))) (
.done 1 [.bool false])))) (u1 fun b49 =>
.done 0 [.bool b49])))))))
theorem towpathlaw07_DedupNil_eq (b_0 : Int) (b_1 : Int) (b_2 : Int) (b_3 : Int) (b_4 : Int) (b_5 : Int) (b_6 : Sl) (time : Int) : decomp P 87 ⟨okFs, []⟩ { cnd := [], blk := [], reg := [(4, [(4, .one .bool)])], lps := [] } [.tmp 4] (bodyOf Go.Proofs.Try.f6) [.val (.agg #[.int .i64 b_0, .int .i64 b_1, .int .i64 b_2, .int .i64 b_3, .int .i64 b_4, .int .i64 b_5, .slice b_6.a b_6.len b_6.cap]), .val (.int .i64 time)] = towpathlaw07_DedupNil b_0 b_1 b_2 b_3 b_4 b_5 b_6 time := by kernel_rfl
theorem towpathlaw07_DedupNil_calls (b_0 : Int) (b_1 : Int) (b_2 : Int) (b_3 : Int) (b_4 : Int) (b_5 : Int) (b_6 : Sl) (time : Int) {w : World} {R : List Value → World → Prop} (h : (towpathlaw07_DedupNil b_0 b_1 b_2 b_3 b_4 b_5 b_6 time).wp P (fun _ => True) w fun e vs w' => e = 0 ∧ R vs w') :
    Calls P F.towpathlaw07_DedupNil #[.agg #[.int .i64 b_0, .int .i64 b_1, .int .i64 b_2, .int .i64 b_3, .int .i64 b_4, .int .i64 b_5, .slice b_6.a b_6.len b_6.cap], .int .i64 time] w fun e w' => ∃ vs, e = .returned (pack vs) ∧ R vs w' :=
  decomp_sound (isFn_of Go.Proofs.Try.func6 (by kernel_rfl) (by kernel_rfl) (by kernel_rfl)) okFs_ok mix [.val (.agg #[.int .i64 b_0, .int .i64 b_1, .int .i64 b_2, .int .i64 b_3, .int .i64 b_4, .int .i64 b_5, .slice b_6.a b_6.len b_6.cap]), .val (.int .i64 time)] (by rw [towpathlaw07_DedupNil_eq]; exact h)

def dedup_Load (raw : Sl) (most : Int) : Prog :=
.call F.dedup_New [.int .i64 most] (.tup [.one .ptr, .one (.int .i64)]) (u2 fun p0 (n1 : Int) =>
.lt (.int .i64) (n1) fun (n2 : Int) =>
.ite (n2 != 0) (
.lt (.int .i64) (n2) fun (n3 : Int) =>
.done 0 [.pointer none, .int .i64 n3]) (
.call F.frame_Open [raw.v] (.tup [.one .slc, .one .bool]) (u2 fun l4 b5 =>
.lt (.bool) (b5) fun b6 =>
.ite (not b6) (
.done 0 [.pointer none, .int .i64 6]) (
.call F.wire_NewReader [l4.v] sP (u1 fun p7 =>
.call F.dedup_upto [.pointer p7, .int .i64 1099511627777] (sI .i64) (u1 fun (n8 : Int) =>
.ex [.adr] (c1 fun a9 => p0 = some a9) (u1 fun a10 =>
.actU (st T.int64 (Addr.add a10 1) (.int .i64 n8)) <|
.call F.dedup_upto [.pointer p7, .int .i64 4096] (sI .i64) (u1 fun (n11 : Int) =>
.lt (.int .i64) (n11) fun (n12 : Int) =>
.ex [.adr] (c1 fun a13 => p0 = some a13) (u1 fun a14 =>
.read True (ld T.int64 (Addr.add a14 1)) (sI .i64) (u1 fun (n15 : Int) =>
.ite (decide (n15 > 1099511627777) || decide (n12 > most)) (
.done 0 [.pointer none, .int .i64 6]) (
.bind 1 [] (
.loop 2 [.one (.int .i64), .one (.int .i64)] (0, (0, ())) (u2 fun (n16 : Int) (n17 : Int) =>
.ite (decide (n17 < n12)) (
.call F.dedup_upto [.pointer p7, .int .i64 1048576] (sI .i64) (u1 fun (n18 : Int) =>
.call F.dedup_upto [.pointer p7, .int .i64 32768] (sI .i64) (u1 fun (n19 : Int) =>
.call F.dedup_upto [.pointer p7, .int .i64 2147483647] (sI .i64) (u1 fun (n20 : Int) =>
.call F.dedup_upto [.pointer p7, .int .i64 64] (sI .i64) (u1 fun (n21 : Int) =>
.call F.dedup_upto [.pointer p7, .int .i64 1099511627776] (sI .i64) (u1 fun (n22 : Int) =>
.call F.wire_Reader_Within [.pointer p7, .int .i64 (-1), .int .i64 1099511627776] (sI .i64) (u1 fun (n23 : Int) =>
.call F.dedup_upto [.pointer p7, .int .i64 1099511627776] (sI .i64) (u1 fun (n24 : Int) =>
.act (new T.dedup_Row) sA (u1 fun a25 =>
.actU (st T.dedup_Row a25 (.agg #[.int .i64 n18, .int .i64 n19, .int .i64 n20, .int .i64 n21, .int .i64 n22, .int .i64 n23, .int .i64 n24])) <|
.bind 3 [.one .bool] (
.tick <|
.call F.wire_Reader_Err [.pointer p7] (sI .i64) (u1 fun (n26 : Int) =>
.read ((n26 != 0) = false) (ld T.dedup_Row a25) (sG [.int .i64, .int .i64, .int .i64, .int .i64, .int .i64, .int .i64, .int .i64]) (u7 fun (n27 : Int) (n28 : Int) (n29 : Int) (n30 : Int) (n31 : Int) (n32 : Int) (n33 : Int) =>
.ex [.adr] (c1 fun a34 => (n26 != 0) = false → p0 = some a34) (u1 fun a35 =>
.read ((n26 != 0) = false) (ld T.int64 (Addr.add a35 1)) (sI .i64) (u1 fun (n36 : Int) =>
.ite (n26 != 0) (
.untick <|
.done 3 [.bool true]) (
.call F.dedup_may [.agg #[.int .i64 n27, .int .i64 n28, .int .i64 n29, .int .i64 n30, .int .i64 n31, .int .i64 n32, .int .i64 n33], .int .i64 n36] sB (u1 fun b37 =>
.read (not b37 = false) (ld T.int64 (Addr.add a25 0)) (sI .i64) (u1 fun (n38 : Int) =>
.untick <|
.done 3 [.bool (not b37 || decide (n38 ≤ n16))])))))))) (u1 fun b39 =>
.ite (b39) (
.done 0 [.pointer none, .int .i64 6]) (
.tick <|
.ex [.adr] (c1 fun a40 => p0 = some a40) (u1 fun a41 =>
.read True (ld T.m_int64_dedup_Row (Addr.add a41 2)) sM (u1 fun m42 =>
.read True (ld T.int64 (Addr.add a25 0)) (sI .i64) (u1 fun (n43 : Int) =>
.read True (ld T.dedup_Row a25) (sG [.int .i64, .int .i64, .int .i64, .int .i64, .int .i64, .int .i64, .int .i64]) (u7 fun (n44 : Int) (n45 : Int) (n46 : Int) (n47 : Int) (n48 : Int) (n49 : Int) (n50 : Int) =>
.actU (Instr.mapUpdate T.m_int64_dedup_Row (.map m42) (.int .i64 n43) (.agg #[.int .i64 n44, .int .i64 n45, .int .i64 n46, .int .i64 n47, .int .i64 n48, .int .i64 n49, .int .i64 n50])) <|
.untick <|
.read True (ld T.int64 (Addr.add a25 0)) (sI .i64) (u1 fun (n51 : Int) =>
.lt (.int .i64) (n51) fun (n52 : Int) =>
.done 2 [.int .i64 n52, .int .i64 (IntKind.wrap .i64 (n17 + 1))])))))))))))))))) (
.done 1 []))) (u0 <|
.call F.wire_Reader_End [.pointer p7] (sI .i64) (u1 fun (n53 : Int) =>
.ite (n53 != 0) (
.done 0 [.pointer none, .int .i64 6]) (
.done 0 [.pointer p0, .int .i64 0]))))))))))))))
theorem dedup_Load_eq (raw : Sl) (most : Int) : decomp P 98 ⟨okFs, []⟩ { cnd := [], blk := [(0, [])], reg := [(16, [(83, .one .bool)])], lps := [(0, [(12, .one (.int .i64)), (49, .one (.int .i64))])] } [.tmp 4, .tmp 5] (bodyOf Go.Proofs.Try.f15) [.val (.slice raw.a raw.len raw.cap), .val (.int .i64 most)] = dedup_Load raw most := by kernel_rfl
theorem dedup_Load_calls (raw : Sl) (most : Int) {w : World} {R : List Value → World → Prop} (h : (dedup_Load raw most).wp P (fun _ => True) w fun e vs w' => e = 0 ∧ R vs w') :
    Calls P F.dedup_Load #[.slice raw.a raw.len raw.cap, .int .i64 most] w fun e w' => ∃ vs, e = .returned (pack vs) ∧ R vs w' :=
  decomp_sound (isFn_of Go.Proofs.Try.func15 (by kernel_rfl) (by kernel_rfl) (by kernel_rfl)) okFs_ok mix [.val (.slice raw.a raw.len raw.cap), .val (.int .i64 most)] (by rw [dedup_Load_eq]; exact h)

def towpathref02_Seal (body : Sl) : Prog :=
.ite (decide (((body.len : Nat) : Int) > 262144)) (
.done 0 [.slice none 0 0]) (
.call F.towpathref02_four [.int .u32 (IntKind.wrap .u32 (((body.len : Nat) : Int)))] sL (u1 fun l0 =>
.act (app T.s_uint8 T.s_uint8 T.s_uint8 l0.v body.v) sL (u1 fun l1 =>
.call F.towpathref02_Sum [l1.v] (sI .u32) (u1 fun (n2 : Int) =>
.call F.towpathref02_four [.int .u32 n2] sL (u1 fun l3 =>
.act (app T.s_uint8 T.s_uint8 T.s_uint8 l1.v l3.v) sL (u1 fun l4 =>
.done 0 [l4.v]))))))
theorem towpathref02_Seal_eq (body : Sl) : decomp P 19 ⟨okFs, []⟩ { cnd := [], blk := [], reg := [], lps := [] } [.tmp 2] (bodyOf Go.Proofs.Try.f16) [.val (.slice body.a body.len body.cap)] = towpathref02_Seal body := by kernel_rfl
theorem towpathref02_Seal_calls (body : Sl) {w : World} {R : List Value → World → Prop} (h : (towpathref02_Seal body).wp P (fun _ => True) w fun e vs w' => e = 0 ∧ R vs w') :
    Calls P F.towpathref02_Seal #[.slice body.a body.len body.cap] w fun e w' => ∃ vs, e = .returned (pack vs) ∧ R vs w' :=
  decomp_sound (isFn_of Go.Proofs.Try.func16 (by kernel_rfl) (by kernel_rfl) (by kernel_rfl)) okFs_ok mix [.val (.slice body.a body.len body.cap)] (by rw [towpathref02_Seal_eq]; exact h)

def towpathlaw07_same (t : Option Addr) (r : Option Addr) : Prog :=
.bind 1 [.one .bool] (
.tick <|
.ex [.adr] (c1 fun a0 => Option.isNone t = false → r = some a0) (u1 fun a1 =>
.hold (Option.isNone t = false) (ld T.s_towpathref07_Row (Addr.add a1 2)) sL (u1 fun l2 =>
.ite (Option.isNone t) (
.untick <|
.untick <|
.done 1 [.bool true]) (
.call F.dedup_Table_Rows [.pointer t] sL (u1 fun l3 =>
.untick <|
.call F.towpathlaw07_rows [l3.v, l2.v] sB (u1 fun b4 =>
.ite (not b4) (
.untick <|
.done 1 [.bool true]) (
.call F.dedup_Table_Open [.pointer t] sL (u1 fun l5 =>
.call F.towpathref07_Table_Open [.pointer r] sL (u1 fun l6 =>
.call F.towpathlaw07_rows [l5.v, l6.v] sB (u1 fun b7 =>
.ite (not b7) (
.untick <|
.done 1 [.bool true]) (
.call F.dedup_Table_Stable [.pointer t] (sI .i64) (u1 fun (n8 : Int) =>
.call F.towpathref07_Table_Stable [.pointer r] (sI .i64) (u1 fun (n9 : Int) =>
.ex [.adr] (c1 fun a10 => (n8 != n9) = false → r = some a10) (u1 fun a11 =>
.hold ((n8 != n9) = false) (ld T.int64 (Addr.add a11 1)) (sI .i64) (u1 fun (n12 : Int) =>
.ite (n8 != n9) (
.untick <|
.done 1 [.bool true]) (
.call F.dedup_Table_Next [.pointer t] (sI .i64) (u1 fun (n13 : Int) =>
.untick <|
.done 1 [.bool (n13 != n12)]))))))))))))))))) (u1 fun b14 =>
.ite (b14) (
.done 0 [.bool false]) (
.ex [.adr] (c1 fun a15 => r = some a15) (u1 fun a16 =>
.read True (ld T.s_towpathref07_Row (Addr.add a16 2)) sL (u1 fun l17 =>
.bind 1 [] (
.loop 2 [.one (.int .i64)] (0, ()) (u1 fun (n18 : Int) =>
.ite (decide (n18 < ((l17.len : Nat) : Int))) (
.ex [.adr] (c1 fun a19 => 0 ≤ n18 ∧ n18 < ((l17.len : Nat) : Int) ∧ l17.a = some a19) (u1 fun a20 =>
.read True (ld T.towpathref07_Row (Addr.add a20 (Int.toNat n18 * 7))) (sG [.int .i64, .int .i64, .int .i64, .int .i64, .int .i64, .int .i64, .int .i64]) (u7 fun (n21 : Int) (n22 : Int) (n23 : Int) (n24 : Int) (n25 : Int) (n26 : Int) (n27 : Int) =>
.act (new T.towpathref07_Row) sA (u1 fun a28 =>
.actU (st T.towpathref07_Row a28 (.agg #[.int .i64 n21, .int .i64 n22, .int .i64 n23, .int .i64 n24, .int .i64 n25, .int .i64 n26, .int .i64 n27])) <|
.read True (ld T.int64 (Addr.add a28 0)) (sI .i64) (u1 fun (n29 : Int) =>
.call F.dedup_Table_Row [.pointer t, .int .i64 n29] (.tup [.agg [.int .i64, .int .i64, .int .i64, .int .i64, .int .i64, .int .i64, .int .i64], .one .bool]) (u8 fun (n30 : Int) (n31 : Int) (n32 : Int) (n33 : Int) (n34 : Int) (n35 : Int) (n36 : Int) b37 =>
.act (new T.dedup_Row) sA (u1 fun a38 =>
.actU (st T.dedup_Row a38 (.agg #[.int .i64 n30, .int .i64 n31, .int .i64 n32, .int .i64 n33, .int .i64 n34, .int .i64 n35, .int .i64 n36])) <|
.lt (.bool) (b37) fun b39 =>
.bind 3 [.one .bool] (
.read (not b39 = false) (ld T.dedup_Row a38) (sG [.int .i64, .int .i64, .int .i64, .int .i64, .int .i64, .int .i64, .int .i64]) (u7 fun (n40 : Int) (n41 : Int) (n42 : Int) (n43 : Int) (n44 : Int) (n45 : Int) (n46 : Int) =>
.read (not b39 = false) (ld T.towpathref07_Row a28) (sG [.int .i64, .int .i64, .int .i64, .int .i64, .int .i64, .int .i64, .int .i64]) (u7 fun (n47 : Int) (n48 : Int) (n49 : Int) (n50 : Int) (n51 : Int) (n52 : Int) (n53 : Int) =>
.ite (not b39) (
.done 3 [.bool true]) (
.call F.towpathlaw07_alike [.agg #[.int .i64 n40, .int .i64 n41, .int .i64 n42, .int .i64 n43, .int .i64 n44, .int .i64 n45, .int .i64 n46], .agg #[.int .i64 n47, .int .i64 n48, .int .i64 n49, .int .i64 n50, .int .i64 n51, .int .i64 n52, .int .i64 n53]] sB (u1 fun b54 =>
.done 3 [.bool (not b54)]))))) (u1 fun b55 =>
.ite (b55) (
.done 0 [.bool false]) (
.done 2 [.int .i64 (IntKind.wrap .i64 (n18 + 1))]))))))))) (
.done 1 []))) (u0 <|
.call F.dedup_Table_Row [.pointer t, .int .i64 (-3)] (.tup [.agg [.int .i64, .int .i64, .int .i64, .int .i64, .int .i64, .int .i64, .int .i64], .one .bool]) (u8 fun (n56 : Int) (n57 : Int) (n58 : Int) (n59 : Int) (n60 : Int) (n61 : Int) (n62 : Int) b63 =>
.act (new T.dedup_Row) sA (u1 fun a64 =>
.actU (st T.dedup_Row a64 (.agg #[.int .i64 n56, .int .i64 n57, .int .i64 n58, .int .i64 n59, .int .i64 n60, .int .i64 n61, .int .i64 n62])) <|
.lt (.bool) (b63) fun b65 =>
.bind 1 [.one .bool] (
.tick <|
.ite (not b65) (
.call F.dedup_Table_Bytes [.pointer t] sL (u1 fun l66 =>
.hold True (convert T.s_uint8 T.string l66.v) sS (u1 fun s67 =>
.call F.towpathref07_Table_Bytes [.pointer r] sL (u1 fun l68 =>
.read True (convert T.s_uint8 T.string l68.v) sS (u1 fun s69 =>
.lt (.bool) (ByteArray.toList s67 == ByteArray.toList s69) fun b70 =>
.untick <|
.done 1 [.bool b70]))))) (
.untick <|
.done 1 [.bool false])) (u1 fun b71 =>
.done 0 [.bool b71]))))))))
theorem towpathlaw07_same_eq (t : Option Addr) (r : Option Addr) : decomp P 88 ⟨okFs, []⟩ { cnd := [], blk := [(0, [])], reg := [(1, [(46, .one .bool)]), (7, [(70, .one .bool)]), (11, [(4, .one .bool)])], lps := [(0, [(52, .one (.int .i64))])] } [.tmp 4] (bodyOf Go.Proofs.Try.f17) [.val (.pointer t), .val (.pointer r)] = towpathlaw07_same t r := by kernel_rfl
theorem towpathlaw07_same_calls (t : Option Addr) (r : Option Addr) {w : World} {R : List Value → World → Prop} (h : (towpathlaw07_same t r).wp P (fun _ => True) w fun e vs w' => e = 0 ∧ R vs w') :
    Calls P F.towpathlaw07_same #[.pointer t, .pointer r] w fun e w' => ∃ vs, e = .returned (pack vs) ∧ R vs w' :=
  decomp_sound (isFn_of Go.Proofs.Try.func17 (by kernel_rfl) (by kernel_rfl) (by kernel_rfl)) okFs_ok mix [.val (.pointer t), .val (.pointer r)] (by rw [towpathlaw07_same_eq]; exact h)

def dedup_Table_Bytes (t : Option Addr) : Prog :=
.ite (Option.isNone t) (
.done 0 [.slice none 0 0]) (
.bind 1 [.one .slc] (
.tick <|
.ex [.adr] (c1 fun a0 => t = some a0) (u1 fun a1 =>
.read True (ld T.int64 (Addr.add a1 1)) (sI .i64) (u1 fun (n2 : Int) =>
.ex [.adr] (c1 fun a3 => t = some a3) (u1 fun a4 =>
.hold True (ld T.m_int64_dedup_Row (Addr.add a4 2)) sM (u1 fun m5 =>
.call F.wire_Uint [.int .u64 (IntKind.wrap .u64 n2)] sL (u1 fun l6 =>
.read True (Builtin.len_ #[T.m_int64_dedup_Row] T.int #[.map m5]) (sI .i64) (u1 fun (n7 : Int) =>
.untick <|
.call F.wire_Uint [.int .u64 (IntKind.wrap .u64 n7)] sL (u1 fun l8 =>
.act (Instr.buildSlice T.s_s_uint8 2 #[(0, l6.v), (1, l8.v)]) sL (u1 fun l9 =>
.call F.wire_Join [l9.v] sL (u1 fun l10 =>
.untick <|
.done 1 [l10.v])))))))))) (u1 fun l11 =>
.call F.dedup_Table_Rows [.pointer t] sL (u1 fun l12 =>
.bind 1 [.one .slc] (
.loop 2 [.one .slc, .one (.int .i64)] ({ a := l11.a, len := l11.len, cap := l11.cap }, (0, ())) (u2 fun l13 (n14 : Int) =>
.ite (decide (n14 < ((l12.len : Nat) : Int))) (
.bind 3 [.one .slc] (
.ex [.adr] (c1 fun a15 => 0 ≤ n14 ∧ n14 < ((l12.len : Nat) : Int) ∧ l12.a = some a15) (u1 fun a16 =>
.read True (ld T.dedup_Row (Addr.add a16 (Int.toNat n14 * 7))) (sG [.int .i64, .int .i64, .int .i64, .int .i64, .int .i64, .int .i64, .int .i64]) (u7 fun (n17 : Int) (n18 : Int) (n19 : Int) (n20 : Int) (n21 : Int) (n22 : Int) (n23 : Int) =>
.act (new T.dedup_Row) sA (u1 fun a24 =>
.actU (st T.dedup_Row a24 (.agg #[.int .i64 n17, .int .i64 n18, .int .i64 n19, .int .i64 n20, .int .i64 n21, .int .i64 n22, .int .i64 n23])) <|
.read True (ld T.int64 (Addr.add a24 0)) (sI .i64) (u1 fun (n25 : Int) =>
.read True (ld T.int (Addr.add a24 1)) (sI .i64) (u1 fun (n26 : Int) =>
.read True (ld T.int (Addr.add a24 2)) (sI .i64) (u1 fun (n27 : Int) =>
.read True (ld T.int (Addr.add a24 3)) (sI .i64) (u1 fun (n28 : Int) =>
.read True (ld T.int64 (Addr.add a24 4)) (sI .i64) (u1 fun (n29 : Int) =>
.act (Instr.buildSlice T.s_int64 5 #[(0, .int .i64 n25), (1, .int .i64 n26), (2, .int .i64 n27), (3, .int .i64 n28), (4, .int .i64 n29)]) sL (u1 fun l30 =>
.bind 4 [.one .slc] (
.loop 5 [.one .slc, .one (.int .i64)] ({ a := l13.a, len := l13.len, cap := l13.cap }, (0, ())) (u2 fun l31 (n32 : Int) =>
.ite (decide (n32 < ((l30.len : Nat) : Int))) (
.ex [.adr] (c1 fun a33 => 0 ≤ n32 ∧ n32 < ((l30.len : Nat) : Int) ∧ l30.a = some a33) (u1 fun a34 =>
.read True (ld T.int64 (Addr.add a34 (Int.toNat n32 * 1))) (sI .i64) (u1 fun (n35 : Int) =>
.lt (.int .i64) (n35) fun (n36 : Int) =>
.call F.wire_Uint [.int .u64 (IntKind.wrap .u64 n36)] sL (u1 fun l37 =>
.act (app T.s_uint8 T.s_uint8 T.s_uint8 l31.v l37.v) sL (u1 fun l38 =>
.done 5 [l38.v, .int .i64 (IntKind.wrap .i64 (n32 + 1))]))))) (
.done 4 [l31.v]))) (u1 fun l39 =>
.bind 4 [.one .slc] (
.tick <|
.read True (ld T.int64 (Addr.add a24 5)) (sI .i64) (u1 fun (n40 : Int) =>
.hold True (ld T.int64 (Addr.add a24 6)) (sI .i64) (u1 fun (n41 : Int) =>
.call F.wire_Int [.int .i64 n40] sL (u1 fun l42 =>
.untick <|
.call F.wire_Uint [.int .u64 (IntKind.wrap .u64 n41)] sL (u1 fun l43 =>
.act (Instr.buildSlice T.s_s_uint8 2 #[(0, l42.v), (1, l43.v)]) sL (u1 fun l44 =>
.call F.wire_Join [l44.v] sL (u1 fun l45 =>
.act (app T.s_uint8 T.s_uint8 T.s_uint8 l39.v l45.v) sL (u1 fun l46 =>
.untick <|
.done 4 [l46.v])))))))) (u1 fun l47 =>
.done 3 [l47.v])))))))))))) (u1 fun l48 =>
.done 2 [l48.v, .int .i64 (IntKind.wrap .i64 (n14 + 1))])) (
.done 1 [l13.v]))) (u1 fun l49 =>
.act (Instr.buildSlice T.s_s_uint8 1 #[(0, l49.v)]) sL (u1 fun l50 =>
.call F.frame_Seal [l50.v] sL (u1 fun l51 =>
.done 0 [l51.v]))))))
theorem dedup_Table_Bytes_eq (t : Option Addr) : decomp P 69 ⟨okFs, []⟩ { cnd := [], blk := [(0, [(3, .one .slc)]), (1, [(3, .one .slc)]), (2, [(3, .one .slc)])], reg := [(3, [(3, .one .slc)]), (12, [(3, .one .slc)])], lps := [(0, [(3, .one .slc), (28, .one (.int .i64))]), (2, [(3, .one .slc), (44, .one (.int .i64))])] } [.tmp 2] (bodyOf Go.Proofs.Try.f22) [.val (.pointer t)] = dedup_Table_Bytes t := by kernel_rfl
theorem dedup_Table_Bytes_calls (t : Option Addr) {w : World} {R : List Value → World → Prop} (h : (dedup_Table_Bytes t).wp P (fun _ => True) w fun e vs w' => e = 0 ∧ R vs w') :
    Calls P F.dedup_Table_Bytes #[.pointer t] w fun e w' => ∃ vs, e = .returned (pack vs) ∧ R vs w' :=
  decomp_sound (isFn_of Go.Proofs.Try.func22 (by kernel_rfl) (by kernel_rfl) (by kernel_rfl)) okFs_ok mix [.val (.pointer t)] (by rw [dedup_Table_Bytes_eq]; exact h)

def dedup_Table_Copy (t : Option Addr) : Prog :=
.ite (Option.isNone t) (
.done 0 [.pointer none]) (
.bind 1 [.one .ptr] (
.tick <|
.ex [.adr] (c1 fun a0 => t = some a0) (u1 fun a1 =>
.hold True (ld T.int (Addr.add a1 0)) (sI .i64) (u1 fun (n2 : Int) =>
.ex [.adr] (c1 fun a3 => t = some a3) (u1 fun a4 =>
.hold True (ld T.int64 (Addr.add a4 1)) (sI .i64) (u1 fun (n5 : Int) =>
.ex [.adr] (c1 fun a6 => t = some a6) (u1 fun a7 =>
.read True (ld T.m_int64_dedup_Row (Addr.add a7 2)) sM (u1 fun m8 =>
.call F.maps_Clone_map_int64_dedup_Row_int64_dedup_Row [.map m8] sM (u1 fun m9 =>
.untick <|
.act (Instr.box T.dedup_Table (.agg #[.int .i64 n2, .int .i64 n5, .map m9])) sA (u1 fun a10 =>
.untick <|
.done 1 [.pointer (some a10)]))))))))) (u1 fun p11 =>
.done 0 [.pointer p11]))
theorem dedup_Table_Copy_eq (t : Option Addr) : decomp P 20 ⟨okFs, []⟩ { cnd := [], blk := [], reg := [(3, [(2, .one .ptr)])], lps := [] } [.tmp 2] (bodyOf Go.Proofs.Try.f23) [.val (.pointer t)] = dedup_Table_Copy t := by kernel_rfl
theorem dedup_Table_Copy_calls (t : Option Addr) {w : World} {R : List Value → World → Prop} (h : (dedup_Table_Copy t).wp P (fun _ => True) w fun e vs w' => e = 0 ∧ R vs w') :
    Calls P F.dedup_Table_Copy #[.pointer t] w fun e w' => ∃ vs, e = .returned (pack vs) ∧ R vs w' :=
  decomp_sound (isFn_of Go.Proofs.Try.func23 (by kernel_rfl) (by kernel_rfl) (by kernel_rfl)) okFs_ok mix [.val (.pointer t)] (by rw [dedup_Table_Copy_eq]; exact h)

def frame_Open (b : Sl) : Prog :=
.call F.frame_First [b.v] (.tup [.one .slc, .one (.int .i64), .one .bool]) (u3 fun l0 (n1 : Int) b2 =>
.lt (.int .i64) (n1) fun (n3 : Int) =>
.lt (.bool) (b2) fun b4 =>
.ite (not b4 || n3 != ((b.len : Nat) : Int)) (
.done 0 [.slice none 0 0, .bool false]) (
.done 0 [l0.v, .bool true]))
theorem frame_Open_eq (b : Sl) : decomp P 22 ⟨okFs, []⟩ { cnd := [], blk := [], reg := [], lps := [] } [.tmp 2, .tmp 3] (bodyOf Go.Proofs.Try.f31) [.val (.slice b.a b.len b.cap)] = frame_Open b := by kernel_rfl
theorem frame_Open_calls (b : Sl) {w : World} {R : List Value → World → Prop} (h : (frame_Open b).wp P (fun _ => True) w fun e vs w' => e = 0 ∧ R vs w') :
    Calls P F.frame_Open #[.slice b.a b.len b.cap] w fun e w' => ∃ vs, e = .returned (pack vs) ∧ R vs w' :=
  decomp_sound (isFn_of Go.Proofs.Try.func31 (by kernel_rfl) (by kernel_rfl) (by kernel_rfl)) okFs_ok mix [.val (.slice b.a b.len b.cap)] (by rw [frame_Open_eq]; exact h)

def wire_NewReader (b : Sl) : Prog :=
.call F.bytes_Clone [b.v] sL (u1 fun l0 =>
.act (Instr.box T.wire_Reader (.agg #[l0.v, .int .i64 0, .int .i64 0])) sA (u1 fun a1 =>
.done 0 [.pointer (some a1)]))
theorem wire_NewReader_eq (b : Sl) : decomp P 8 ⟨okFs, []⟩ { cnd := [], blk := [], reg := [], lps := [] } [.tmp 2] (bodyOf Go.Proofs.Try.f32) [.val (.slice b.a b.len b.cap)] = wire_NewReader b := by kernel_rfl
theorem wire_NewReader_calls (b : Sl) {w : World} {R : List Value → World → Prop} (h : (wire_NewReader b).wp P (fun _ => True) w fun e vs w' => e = 0 ∧ R vs w') :
    Calls P F.wire_NewReader #[.slice b.a b.len b.cap] w fun e w' => ∃ vs, e = .returned (pack vs) ∧ R vs w' :=
  decomp_sound (isFn_of Go.Proofs.Try.func32 (by kernel_rfl) (by kernel_rfl) (by kernel_rfl)) okFs_ok mix [.val (.slice b.a b.len b.cap)] (by rw [wire_NewReader_eq]; exact h)

def dedup_upto (r : Option Addr) (most : Int) : Prog :=
.call F.wire_Reader_Uint [.pointer r] (sI .u64) (u1 fun (n0 : Int) =>
.lt (.int .u64) (n0) fun (n1 : Int) =>
.ite (decide (n1 > IntKind.wrap .u64 most)) (
.lt (.int .i64) (IntKind.wrap .i64 (most + 1)) fun (n2 : Int) =>
.done 0 [.int .i64 n2]) (
.lt (.int .i64) (IntKind.wrap .i64 n1) fun (n3 : Int) =>
.done 0 [.int .i64 n3]))
theorem dedup_upto_eq (r : Option Addr) (most : Int) : decomp P 16 ⟨okFs, []⟩ { cnd := [], blk := [], reg := [], lps := [] } [.tmp 4] (bodyOf Go.Proofs.Try.f33) [.val (.pointer r), .val (.int .i64 most)] = dedup_upto r most := by kernel_rfl
theorem dedup_upto_calls (r : Option Addr) (most : Int) {w : World} {R : List Value → World → Prop} (h : (dedup_upto r most).wp P (fun _ => True) w fun e vs w' => e = 0 ∧ R vs w') :
    Calls P F.dedup_upto #[.pointer r, .int .i64 most] w fun e w' => ∃ vs, e = .returned (pack vs) ∧ R vs w' :=
  decomp_sound (isFn_of Go.Proofs.Try.func33 (by kernel_rfl) (by kernel_rfl) (by kernel_rfl)) okFs_ok mix [.val (.pointer r), .val (.int .i64 most)] (by rw [dedup_upto_eq]; exact h)

def wire_Reader_Within (r : Option Addr) (lo : Int) (hi : Int) : Prog :=
.call F.wire_Reader_good [.pointer r] sB (u1 fun b0 =>
.ite (not b0) (
.done 0 [.int .i64 0]) (
.ex [.adr] (c1 fun a1 => r = some a1) (u1 fun a2 =>
.read True (ld T.int (Addr.add (Addr.add a2 0) 1)) (sI .i64) (u1 fun (n3 : Int) =>
.lt (.int .i64) (n3) fun (n4 : Int) =>
.call F.wire_Reader_Int [.pointer r] (sI .i64) (u1 fun (n5 : Int) =>
.lt (.int .i64) (n5) fun (n6 : Int) =>
.ex [.adr] (c1 fun a7 => r = some a7) (u1 fun a8 =>
.read True (ld T.api_Errno (Addr.add (Addr.add a8 0) 2)) (sI .i64) (u1 fun (n9 : Int) =>
.bind 1 [] (
.ite (n9 == 0 && (decide (n6 < lo) || decide (n6 > hi))) (
.ex [.adr] (c1 fun a10 => r = some a10) (u1 fun a11 =>
.actU (st T.int (Addr.add (Addr.add a11 0) 1) (.int .i64 n4)) <|
.ex [.adr] (c1 fun a12 => r = some a12) (u1 fun a13 =>
.call F.wire_place_fail [.pointer (some (Addr.add a13 0)), .int .i64 8] (.tup []) (u0 <|
.done 1 [])))) (
.done 1 [])) (u0 <|
.ex [.adr] (c1 fun a14 => r = some a14) (u1 fun a15 =>
.read True (ld T.api_Errno (Addr.add (Addr.add a15 0) 2)) (sI .i64) (u1 fun (n16 : Int) =>
.ite (n16 != 0) (
.done 0 [.int .i64 0]) (
.lt (.int .i64) (n6) fun (n17 : Int) =>
.done 0 [.int .i64 n17])))))))))))
theorem wire_Reader_Within_eq (r : Option Addr) (lo : Int) (hi : Int) : decomp P 51 ⟨okFs, []⟩ { cnd := [(71916856549572642, [])], blk := [], reg := [], lps := [] } [.tmp 6] (bodyOf Go.Proofs.Try.f34) [.val (.pointer r), .val (.int .i64 lo), .val (.int .i64 hi)] = wire_Reader_Within r lo hi := by kernel_rfl
theorem wire_Reader_Within_calls (r : Option Addr) (lo : Int) (hi : Int) {w : World} {R : List Value → World → Prop} (h : (wire_Reader_Within r lo hi).wp P (fun _ => True) w fun e vs w' => e = 0 ∧ R vs w') :
    Calls P F.wire_Reader_Within #[.pointer r, .int .i64 lo, .int .i64 hi] w fun e w' => ∃ vs, e = .returned (pack vs) ∧ R vs w' :=
  decomp_sound (isFn_of Go.Proofs.Try.func34 (by kernel_rfl) (by kernel_rfl) (by kernel_rfl)) okFs_ok mix [.val (.pointer r), .val (.int .i64 lo), .val (.int .i64 hi)] (by rw [wire_Reader_Within_eq]; exact h)

def wire_Reader_Err (r : Option Addr) : Prog :=
.ite (Option.isNone r) (
.done 0 [.int .i64 1]) (
.ex [.adr] (c1 fun a0 => r = some a0) (u1 fun a1 =>
.read True (ld T.api_Errno (Addr.add (Addr.add a1 0) 2)) (sI .i64) (u1 fun (n2 : Int) =>
.lt (.int .i64) (n2) fun (n3 : Int) =>
.done 0 [.int .i64 n3])))
theorem wire_Reader_Err_eq (r : Option Addr) : decomp P 10 ⟨okFs, []⟩ { cnd := [], blk := [], reg := [], lps := [] } [.tmp 2] (bodyOf Go.Proofs.Try.f35) [.val (.pointer r)] = wire_Reader_Err r := by kernel_rfl
theorem wire_Reader_Err_calls (r : Option Addr) {w : World} {R : List Value → World → Prop} (h : (wire_Reader_Err r).wp P (fun _ => True) w fun e vs w' => e = 0 ∧ R vs w') :
    Calls P F.wire_Reader_Err #[.pointer r] w fun e w' => ∃ vs, e = .returned (pack vs) ∧ R vs w' :=
  decomp_sound (isFn_of Go.Proofs.Try.func35 (by kernel_rfl) (by kernel_rfl) (by kernel_rfl)) okFs_ok mix [.val (.pointer r)] (by rw [wire_Reader_Err_eq]; exact h)

def dedup_may (r_0 : Int) (r_1 : Int) (r_2 : Int) (r_3 : Int) (r_4 : Int) (r_5 : Int) (r_6 : Int) (next_ : Int) : Prog :=
.act (Instr.box T.dedup_Row (.agg #[.int .i64 r_0, .int .i64 r_1, .int .i64 r_2, .int .i64 r_3, .int .i64 r_4, .int .i64 r_5, .int .i64 r_6])) sA (u1 fun a0 =>
.read True (ld T.int64 (Addr.add a0 0)) (sI .i64) (u1 fun (n1 : Int) =>
.read (decide (n1 < 1) = false) (ld T.int64 (Addr.add a0 0)) (sI .i64) (u1 fun (n2 : Int) =>
.read ((decide (n1 < 1) || decide (n2 > 1048576)) = false) (ld T.int (Addr.add a0 1)) (sI .i64) (u1 fun (n3 : Int) =>
.read ((decide (n1 < 1) || decide (n2 > 1048576) || decide (n3 > 32768)) = false) (ld T.int64 (Addr.add a0 6)) (sI .i64) (u1 fun (n4 : Int) =>
.read ((decide (n1 < 1) || decide (n2 > 1048576) || decide (n3 > 32768) || decide (n4 > 1099511627776)) = false) (ld T.int (Addr.add a0 3)) (sI .i64) (u1 fun (n5 : Int) =>
.ite (decide (n1 < 1) || decide (n2 > 1048576) || decide (n3 > 32768) || decide (n4 > 1099511627776) || decide (n5 > 64)) (
.done 0 [.bool false]) (
.read True (ld T.int (Addr.add a0 3)) (sI .i64) (u1 fun (n6 : Int) =>
.ite (n6 == 0) (
.read True (ld T.int (Addr.add a0 2)) (sI .i64) (u1 fun (n7 : Int) =>
.read ((n7 == 0) = true) (ld T.int64 (Addr.add a0 4)) (sI .i64) (u1 fun (n8 : Int) =>
.read ((n7 == 0 && n8 == 0) = true) (ld T.int64 (Addr.add a0 5)) (sI .i64) (u1 fun (n9 : Int) =>
.lt (.bool) (n7 == 0 && n8 == 0 && n9 == -1) fun b10 =>
.done 0 [.bool b10])))) (
.bind 1 [.one .bool] (
.read True (ld T.int (Addr.add a0 1)) (sI .i64) (u1 fun (n11 : Int) =>
.read (decide (n11 ≤ 32767) = true) (ld T.dedup_Row a0) (sG [.int .i64, .int .i64, .int .i64, .int .i64, .int .i64, .int .i64, .int .i64]) (u7 fun (n12 : Int) (n13 : Int) (n14 : Int) (n15 : Int) (n16 : Int) (n17 : Int) (n18 : Int) =>
.ite (decide (n11 ≤ 32767)) (
.call F.dedup_Row_next [.agg #[.int .i64 n12, .int .i64 n13, .int .i64 n14, .int .i64 n15, .int .i64 n16, .int .i64 n17, .int .i64 n18]] (sI .i64) (u1 fun (n19 : Int) =>
.read (decide (n19 ≤ 2147483648) = true) (ld T.int64 (Addr.add a0 4)) (sI .i64) (u1 fun (n20 : Int) =>
.read (decide (n19 ≤ 2147483648) = true) (ld T.int (Addr.add a0 3)) (sI .i64) (u1 fun (n21 : Int) =>
.read ((decide (n19 ≤ 2147483648) && decide (IntKind.wrap .i64 (n20 + n21) ≤ next_)) = true) (ld T.int64 (Addr.add a0 5)) (sI .i64) (u1 fun (n22 : Int) =>
.read ((decide (n19 ≤ 2147483648) && decide (IntKind.wrap .i64 (n20 + n21) ≤ next_)) = true) (ld T.int64 (Addr.add a0 4)) (sI .i64) (u1 fun (n23 : Int) =>
.lt (.bool) (decide (n19 ≤ 2147483648) && decide (IntKind.wrap .i64 (n20 + n21) ≤ next_) && decide (n22 ≤ n23)) fun b24 =>
.done 1 [.bool b24])))))) (
.done 1 [.bool false])))) (u1 fun b25 =>
.done 0 [.bool b25]))))))))))
theorem dedup_may_eq (r_0 : Int) (r_1 : Int) (r_2 : Int) (r_3 : Int) (r_4 : Int) (r_5 : Int) (r_6 : Int) (next_ : Int) : decomp P 68 ⟨okFs, []⟩ { cnd := [], blk := [], reg := [(5, [(4, .one .bool)])], lps := [] } [.tmp 4] (bodyOf Go.Proofs.Try.f36) [.val (.agg #[.int .i64 r_0, .int .i64 r_1, .int .i64 r_2, .int .i64 r_3, .int .i64 r_4, .int .i64 r_5, .int .i64 r_6]), .val (.int .i64 next_)] = dedup_may r_0 r_1 r_2 r_3 r_4 r_5 r_6 next_ := by kernel_rfl
theorem dedup_may_calls (r_0 : Int) (r_1 : Int) (r_2 : Int) (r_3 : Int) (r_4 : Int) (r_5 : Int) (r_6 : Int) (next_ : Int) {w : World} {R : List Value → World → Prop} (h : (dedup_may r_0 r_1 r_2 r_3 r_4 r_5 r_6 next_).wp P (fun _ => True) w fun e vs w' => e = 0 ∧ R vs w') :
    Calls P F.dedup_may #[.agg #[.int .i64 r_0, .int .i64 r_1, .int .i64 r_2, .int .i64 r_3, .int .i64 r_4, .int .i64 r_5, .int .i64 r_6], .int .i64 next_] w fun e w' => ∃ vs, e = .returned (pack vs) ∧ R vs w' :=
  decomp_sound (isFn_of Go.Proofs.Try.func36 (by kernel_rfl) (by kernel_rfl) (by kernel_rfl)) okFs_ok mix [.val (.agg #[.int .i64 r_0, .int .i64 r_1, .int .i64 r_2, .int .i64 r_3, .int .i64 r_4, .int .i64 r_5, .int .i64 r_6]), .val (.int .i64 next_)] (by rw [dedup_may_eq]; exact h)

def wire_Reader_End (r : Option Addr) : Prog :=
.ite (Option.isNone r) (
.done 0 [.int .i64 1]) (
.ex [.adr] (c1 fun a0 => r = some a0) (u1 fun a1 =>
.call F.wire_place_left [.pointer (some (Addr.add a1 0))] (sI .i64) (u1 fun (n2 : Int) =>
.bind 1 [] (
.ite (decide (n2 > 0)) (
.ex [.adr] (c1 fun a3 => r = some a3) (u1 fun a4 =>
.call F.wire_place_fail [.pointer (some (Addr.add a4 0)), .int .i64 6] (.tup []) (u0 <|
.done 1 []))) (
.done 1 [])) (u0 <|
.ex [.adr] (c1 fun a5 => r = some a5) (u1 fun a6 =>
.read True (ld T.api_Errno (Addr.add (Addr.add a6 0) 2)) (sI .i64) (u1 fun (n7 : Int) =>
.lt (.int .i64) (n7) fun (n8 : Int) =>
.done 0 [.int .i64 n8]))))))
theorem wire_Reader_End_eq (r : Option Addr) : decomp P 19 ⟨okFs, []⟩ { cnd := [(62914569, [])], blk := [], reg := [], lps := [] } [.tmp 2] (bodyOf Go.Proofs.Try.f37) [.val (.pointer r)] = wire_Reader_End r := by kernel_rfl
theorem wire_Reader_End_calls (r : Option Addr) {w : World} {R : List Value → World → Prop} (h : (wire_Reader_End r).wp P (fun _ => True) w fun e vs w' => e = 0 ∧ R vs w') :
    Calls P F.wire_Reader_End #[.pointer r] w fun e w' => ∃ vs, e = .returned (pack vs) ∧ R vs w' :=
  decomp_sound (isFn_of Go.Proofs.Try.func37 (by kernel_rfl) (by kernel_rfl) (by kernel_rfl)) okFs_ok mix [.val (.pointer r)] (by rw [wire_Reader_End_eq]; exact h)

def towpathref02_four (n : Int) : Prog :=
.bind 1 [.one .slc] (
.loop 2 [.one (.int .u32), .one .slc, .one (.int .i64)] (n, (⟨none, 0, 0⟩, (0, ()))) (u3 fun (n0 : Int) l1 (n2 : Int) =>
.ite (decide (n2 < 4)) (
.act (Instr.buildSlice T.s_uint8 1 #[(0, .int .u8 (IntKind.wrap .u8 (Int.tmod n0 256)))]) sL (u1 fun l3 =>
.act (app T.s_uint8 T.s_uint8 T.s_uint8 l1.v l3.v) sL (u1 fun l4 =>
.lt (.int .u32) (IntKind.wrap .u32 (Int.tdiv n0 256)) fun (n5 : Int) =>
.lt (.int .i64) (IntKind.wrap .i64 (n2 + 1)) fun (n6 : Int) =>
.done 2 [.int .u32 n5, l4.v, .int .i64 n6]))) (
.done 1 [l1.v]))) (u1 fun l7 =>
.done 0 [l7.v])
theorem towpathref02_four_eq (n : Int) : decomp P 18 ⟨okFs, []⟩ { cnd := [], blk := [(0, [(3, .one .slc)])], reg := [], lps := [(0, [(0, .one (.int .u32)), (3, .one .slc), (4, .one (.int .i64))])] } [.tmp 2] (bodyOf Go.Proofs.Try.f38) [.val (.int .u32 n)] = towpathref02_four n := by kernel_rfl
theorem towpathref02_four_calls (n : Int) {w : World} {R : List Value → World → Prop} (h : (towpathref02_four n).wp P (fun _ => True) w fun e vs w' => e = 0 ∧ R vs w') :
    Calls P F.towpathref02_four #[.int .u32 n] w fun e w' => ∃ vs, e = .returned (pack vs) ∧ R vs w' :=
  decomp_sound (isFn_of Go.Proofs.Try.func38 (by kernel_rfl) (by kernel_rfl) (by kernel_rfl)) okFs_ok mix [.val (.int .u32 n)] (by rw [towpathref02_four_eq]; exact h)

def towpathref02_Sum (b : Sl) : Prog :=
.act (new T.a32_bool) sA (u1 fun a0 =>
.bind 1 [] (
.loop 2 [.one (.int .i64)] (0, ()) (u1 fun (n1 : Int) =>
.ite (decide (n1 < 32)) (
.must (0 ≤ n1 ∧ n1 < 32) <|
.actU (st T.bool (Addr.add a0 (Int.toNat n1 * 1)) (.bool true)) <|
.lt (.int .i64) (IntKind.wrap .i64 (n1 + 1)) fun (n2 : Int) =>
.done 2 [.int .i64 n2]) (
.done 1 []))) (u0 <|
.bind 1 [] (
.loop 2 [.one (.int .i64)] (0, ()) (u1 fun (n3 : Int) =>
.ite (decide (n3 < ((b.len : Nat) : Int))) (
.bind 3 [] (
.ex [.adr] (c1 fun a4 => 0 ≤ n3 ∧ n3 < ((b.len : Nat) : Int) ∧ b.a = some a4) (u1 fun a5 =>
.read True (ld T.uint8 (Addr.add a5 (Int.toNat n3 * 1))) (sI .u8) (u1 fun (n6 : Int) =>
.lt (.int .u8) (n6) fun (n7 : Int) =>
.bind 4 [] (
.loop 5 [.one (.int .i64)] (0, ()) (u1 fun (n8 : Int) =>
.ite (decide (n8 < 8)) (
.bind 6 [] (
.must ((0 : Int) ≤ 0 ∧ (0 : Int) < 32) <|
.read True (ld T.bool (Addr.add a0 0)) sB (u1 fun b9 =>
.must (0 ≤ IntKind.wrap .u64 n8) <|
.lt (.bool) (not (b9 == (Int.tmod (Int.fdiv n7 (2 ^ min (Int.toNat (IntKind.wrap .u64 n8)) 8)) (2 : Int) == 1))) fun b10 =>
.bind 7 [] (
.loop 8 [.one (.int .i64)] (0, ()) (u1 fun (n11 : Int) =>
.ite (decide (n11 < 31)) (
.must (0 ≤ IntKind.wrap .i64 (n11 + 1) ∧ IntKind.wrap .i64 (n11 + 1) < 32) <|
.read True (ld T.bool (Addr.add a0 (Int.toNat (IntKind.wrap .i64 (n11 + 1)) * 1))) sB (u1 fun b12 =>
.must (0 ≤ n11 ∧ n11 < 32) <|
.actU (st T.bool (Addr.add a0 (Int.toNat n11 * 1)) (.bool b12)) <|
.lt (.int .i64) (IntKind.wrap .i64 (n11 + 1)) fun (n13 : Int) =>
.done 8 [.int .i64 n13])) (
.done 7 []))) (u0 <|
.must ((0 : Int) ≤ 31 ∧ (31 : Int) < 32) <|
.actU (st T.bool (Addr.add a0 31) (.bool false)) <|
.bind 7 [] (
.loop 8 [.one (.int .i64)] (0, ()) (u1 fun (n14 : Int) =>
.ite (decide (n14 < 32)) (
.must (b10 = true → 0 ≤ IntKind.wrap .u64 n14) <|
.bind 9 [] (
.ite (b10 && Int.tmod (Int.fdiv 3988292384 (2 ^ min (Int.toNat (IntKind.wrap .u64 n14)) 32)) (2 : Int) == 1) (
.must (0 ≤ n14 ∧ n14 < 32) <|
.read True (ld T.bool (Addr.add a0 (Int.toNat n14 * 1))) sB (u1 fun b15 =>
.must (0 ≤ n14 ∧ n14 < 32) <|
.actU (st T.bool (Addr.add a0 (Int.toNat n14 * 1)) (.bool (not b15))) <|
.done 9 [])) (
.done 9 [])) (u0 <|
.lt (.int .i64) (IntKind.wrap .i64 (n14 + 1)) fun (n16 : Int) =>
.done 8 [.int .i64 n16])) (
.done 7 []))) (u0 <|
.done 6 [])))) (u0 <|
.lt (.int .i64) (IntKind.wrap .i64 (n8 + 1)) fun (n17 : Int) =>
.done 5 [.int .i64 n17])) (
.done 4 []))) (u0 <|
.done 3 [])))) (u0 <|
.done 2 [.int .i64 (IntKind.wrap .i64 (n3 + 1))])) (
.done 1 []))) (u0 <|
.bind 1 [.one (.int .u32)] (
.loop 2 [.one (.int .u32), .one (.int .i64)] (0, (0, ())) (u2 fun (n18 : Int) (n19 : Int) =>
.ite (decide (n19 < 32)) (
.must (0 ≤ n19 ∧ n19 < 32) <|
.read True (ld T.bool (Addr.add a0 (Int.toNat n19 * 1))) sB (u1 fun b20 =>
.bind 3 [.one (.int .u32)] (
.ite (not b20) (
.must (0 ≤ IntKind.wrap .u64 n19) <|
.lt (.int .u32) (IntKind.wrap .u32 (n18 + IntKind.wrap .u32 (1 * 2 ^ min (Int.toNat (IntKind.wrap .u64 n19)) 32))) fun (n21 : Int) =>
.done 3 [.int .u32 n21]) (
.done 3 [.int .u32 n18])) (u1 fun (n22 : Int) =>
.lt (.int .i64) (IntKind.wrap .i64 (n19 + 1)) fun (n23 : Int) =>
.done 2 [.int .u32 n22, .int .i64 n23]))) (
.done 1 [.int .u32 n18]))) (u1 fun (n24 : Int) =>
.lt (.int .u32) (n24) fun (n25 : Int) =>
.done 0 [.int .u32 n25]))))
theorem towpathref02_Sum_eq (b : Sl) : decomp P 82 ⟨okFs, []⟩ { cnd := [(595018176841575296925756, []), (9594035304461697130476601419, [(11, .one (.int .u32))])], blk := [(0, []), (2, []), (3, []), (4, []), (5, []), (6, []), (8, []), (10, [(11, .one (.int .u32))])], reg := [], lps := [(0, [(4, .one (.int .i64))]), (2, [(21, .one (.int .i64))]), (4, [(7, .one (.int .i64))]), (6, [(9, .one (.int .i64))]), (8, [(10, .one (.int .i64))]), (10, [(11, .one (.int .u32)), (12, .one (.int .i64))])] } [.tmp 2] (bodyOf Go.Proofs.Try.f39) [.val (.slice b.a b.len b.cap)] = towpathref02_Sum b := by kernel_rfl
theorem towpathref02_Sum_calls (b : Sl) {w : World} {R : List Value → World → Prop} (h : (towpathref02_Sum b).wp P (fun _ => True) w fun e vs w' => e = 0 ∧ R vs w') :
    Calls P F.towpathref02_Sum #[.slice b.a b.len b.cap] w fun e w' => ∃ vs, e = .returned (pack vs) ∧ R vs w' :=
  decomp_sound (isFn_of Go.Proofs.Try.func39 (by kernel_rfl) (by kernel_rfl) (by kernel_rfl)) okFs_ok mix [.val (.slice b.a b.len b.cap)] (by rw [towpathref02_Sum_eq]; exact h)

def towpathlaw07_rows (a : Sl) (b : Sl) : Prog :=
.ite (((a.len : Nat) : Int) != ((b.len : Nat) : Int)) (
.done 0 [.bool false]) (
.bind 1 [] (
.loop 2 [.one (.int .i64)] (0, ()) (u1 fun (n0 : Int) =>
.ite (decide (n0 < ((a.len : Nat) : Int))) (
.lt (.int .i64) (n0) fun (n1 : Int) =>
.tick <|
.ex [.adr] (c1 fun a2 => 0 ≤ n1 ∧ n1 < ((a.len : Nat) : Int) ∧ a.a = some a2) (u1 fun a3 =>
.read True (ld T.dedup_Row (Addr.add a3 (Int.toNat n1 * 7))) (sG [.int .i64, .int .i64, .int .i64, .int .i64, .int .i64, .int .i64, .int .i64]) (u7 fun (n4 : Int) (n5 : Int) (n6 : Int) (n7 : Int) (n8 : Int) (n9 : Int) (n10 : Int) =>
.ex [.adr] (c1 fun a11 => 0 ≤ n1 ∧ n1 < ((b.len : Nat) : Int) ∧ b.a = some a11) (u1 fun a12 =>
.read True (ld T.towpathref07_Row (Addr.add a12 (Int.toNat n1 * 7))) (sG [.int .i64, .int .i64, .int .i64, .int .i64, .int .i64, .int .i64, .int .i64]) (u7 fun (n13 : Int) (n14 : Int) (n15 : Int) (n16 : Int) (n17 : Int) (n18 : Int) (n19 : Int) =>
.call F.towpathlaw07_alike [.agg #[.int .i64 n4, .int .i64 n5, .int .i64 n6, .int .i64 n7, .int .i64 n8, .int .i64 n9, .int .i64 n10], .agg #[.int .i64 n13, .int .i64 n14, .int .i64 n15, .int .i64 n16, .int .i64 n17, .int .i64 n18, .int .i64 n19]] sB (u1 fun b20 =>
.untick <|
.ite (not b20) (
.done 0 [.bool false]) (
.ex [.adr] (c1 fun a21 => 0 ≤ n1 ∧ n1 < ((a.len : Nat) : Int) ∧ a.a = some a21) (u1 fun a22 =>
.actU (st T.dedup_Row (Addr.add a22 (Int.toNat n1 * 7)) (.agg #[.int .i64 (-1), .int .i64 0, .int .i64 0, .int .i64 0, .int .i64 0, .int .i64 0, .int .i64 0])) <|
.done 2 [.int .i64 (IntKind.wrap .i64 (n0 + 1))])))))))) (
.done 1 []))) (u0 <|
.done 0 [.bool true]))
theorem towpathlaw07_rows_eq (a : Sl) (b : Sl) : decomp P 31 ⟨okFs, []⟩ { cnd := [], blk := [(0, [])], reg := [], lps := [(0, [(13, .one (.int .i64))])] } [.tmp 4] (bodyOf Go.Proofs.Try.f40) [.val (.slice a.a a.len a.cap), .val (.slice b.a b.len b.cap)] = towpathlaw07_rows a b := by kernel_rfl
theorem towpathlaw07_rows_calls (a : Sl) (b : Sl) {w : World} {R : List Value → World → Prop} (h : (towpathlaw07_rows a b).wp P (fun _ => True) w fun e vs w' => e = 0 ∧ R vs w') :
    Calls P F.towpathlaw07_rows #[.slice a.a a.len a.cap, .slice b.a b.len b.cap] w fun e w' => ∃ vs, e = .returned (pack vs) ∧ R vs w' :=
  decomp_sound (isFn_of Go.Proofs.Try.func40 (by kernel_rfl) (by kernel_rfl) (by kernel_rfl)) okFs_ok mix [.val (.slice a.a a.len a.cap), .val (.slice b.a b.len b.cap)] (by rw [towpathlaw07_rows_eq]; exact h)

def towpathref07_Table_Open (t : Option Addr) : Prog :=
.loop 1 [.one .slc, .one (.int .i64)] (⟨none, 0, 0⟩, (-1, ())) (u2 fun l0 (n1 : Int) =>
.bind 2 [.one .slc, .one (.int .i64)] (
.ex [.adr] (c1 fun a2 => t = some a2) (u1 fun a3 =>
.read True (ld T.s_towpathref07_Row (Addr.add a3 2)) sL (u1 fun l4 =>
.bind 3 [.one (.int .i64)] (
.loop 4 [.one (.int .i64), .one (.int .i64)] (-1, (0, ())) (u2 fun (n5 : Int) (n6 : Int) =>
.ite (decide (n6 < ((l4.len : Nat) : Int))) (
.ex [.adr] (c1 fun a7 => 0 ≤ n6 ∧ n6 < ((l4.len : Nat) : Int) ∧ l4.a = some a7) (u1 fun a8 =>
.read True (ld T.towpathref07_Row (Addr.add a8 (Int.toNat n6 * 7))) (sG [.int .i64, .int .i64, .int .i64, .int .i64, .int .i64, .int .i64, .int .i64]) (u7 fun (n9 : Int) (n10 : Int) (n11 : Int) (n12 : Int) (n13 : Int) (n14 : Int) (n15 : Int) =>
.act (new T.towpathref07_Row) sA (u1 fun a16 =>
.lt (.int .i64) (n6) fun (n17 : Int) =>
.actU (st T.towpathref07_Row a16 (.agg #[.int .i64 n9, .int .i64 n10, .int .i64 n11, .int .i64 n12, .int .i64 n13, .int .i64 n14, .int .i64 n15])) <|
.tick <|
.read True (ld T.int64 (Addr.add a16 5)) (sI .i64) (u1 fun (n18 : Int) =>
.read (decide (n18 > n1) = true ∧ decide (n5 < 0) = false) (ld T.int64 (Addr.add a16 5)) (sI .i64) (u1 fun (n19 : Int) =>
.ex [.adr] (c1 fun a20 => decide (n18 > n1) = true ∧ decide (n5 < 0) = false → t = some a20) (u1 fun a21 =>
.read (decide (n18 > n1) = true ∧ decide (n5 < 0) = false) (ld T.s_towpathref07_Row (Addr.add a21 2)) sL (u1 fun l22 =>
.ex [.adr] (c1 fun a23 => decide (n18 > n1) = true ∧ decide (n5 < 0) = false → 0 ≤ n5 ∧ n5 < ((l22.len : Nat) : Int) ∧ l22.a = some a23) (u1 fun a24 =>
.read (decide (n18 > n1) = true ∧ decide (n5 < 0) = false) (ld T.int64 (Addr.add (Addr.add a24 (Int.toNat n5 * 7)) 5)) (sI .i64) (u1 fun (n25 : Int) =>
.untick <|
.bind 5 [.one (.int .i64)] (
.ite (decide (n18 > n1) && (decide (n5 < 0) || decide (n19 < n25))) (
.lt (.int .i64) (n17) fun (n26 : Int) =>
.done 5 [.int .i64 n26]) (
.done 5 [.int .i64 n5])) (u1 fun (n27 : Int) =>
.done 4 [.int .i64 n27, .int .i64 (IntKind.wrap .i64 (n6 + 1))]))))))))))) (
.done 3 [.int .i64 n5]))) (u1 fun (n28 : Int) =>
.ite (decide (n28 < 0)) (
.done 0 [l0.v]) (
.ex [.adr] (c1 fun a29 => t = some a29) (u1 fun a30 =>
.read True (ld T.s_towpathref07_Row (Addr.add a30 2)) sL (u1 fun l31 =>
.ex [.adr] (c1 fun a32 => 0 ≤ n28 ∧ n28 < ((l31.len : Nat) : Int) ∧ l31.a = some a32) (u1 fun a33 =>
.read True (ld T.towpathref07_Row (Addr.add a33 (Int.toNat n28 * 7))) (sG [.int .i64, .int .i64, .int .i64, .int .i64, .int .i64, .int .i64, .int .i64]) (u7 fun (n34 : Int) (n35 : Int) (n36 : Int) (n37 : Int) (n38 : Int) (n39 : Int) (n40 : Int) =>
.act (Instr.buildSlice T.s_towpathref07_Row 1 #[(0, .agg #[.int .i64 n34, .int .i64 n35, .int .i64 n36, .int .i64 n37, .int .i64 n38, .int .i64 n39, .int .i64 n40])]) sL (u1 fun l41 =>
.act (app T.s_towpathref07_Row T.s_towpathref07_Row T.s_towpathref07_Row l0.v l41.v) sL (u1 fun l42 =>
.ex [.adr] (c1 fun a43 => t = some a43) (u1 fun a44 =>
.read True (ld T.s_towpathref07_Row (Addr.add a44 2)) sL (u1 fun l45 =>
.ex [.adr] (c1 fun a46 => 0 ≤ n28 ∧ n28 < ((l45.len : Nat) : Int) ∧ l45.a = some a46) (u1 fun a47 =>
.read True (ld T.int64 (Addr.add (Addr.add a47 (Int.toNat n28 * 7)) 5)) (sI .i64) (u1 fun (n48 : Int) =>
.lt (.int .i64) (n48) fun (n49 : Int) =>
.done 2 [l42.v, .int .i64 n49]))))))))))))))) (u2 fun l50 (n51 : Int) =>
.done 1 [l50.v, .int .i64 n51]))
theorem towpathref07_Table_Open_eq (t : Option Addr) : decomp P 62 ⟨okFs, []⟩ { cnd := [(2251799813816358, [(5, .one (.int .i64))])], blk := [(1, [(3, .one .slc), (4, .one (.int .i64))]), (2, [(5, .one (.int .i64))])], reg := [], lps := [(0, [(3, .one .slc), (4, .one (.int .i64))]), (2, [(5, .one (.int .i64)), (13, .one (.int .i64))])] } [.tmp 2] (bodyOf Go.Proofs.Try.f41) [.val (.pointer t)] = towpathref07_Table_Open t := by kernel_rfl
theorem towpathref07_Table_Open_calls (t : Option Addr) {w : World} {R : List Value → World → Prop} (h : (towpathref07_Table_Open t).wp P (fun _ => True) w fun e vs w' => e = 0 ∧ R vs w') :
    Calls P F.towpathref07_Table_Open #[.pointer t] w fun e w' => ∃ vs, e = .returned (pack vs) ∧ R vs w' :=
  decomp_sound (isFn_of Go.Proofs.Try.func41 (by kernel_rfl) (by kernel_rfl) (by kernel_rfl)) okFs_ok mix [.val (.pointer t)] (by rw [towpathref07_Table_Open_eq]; exact h)

def towpathref07_Table_Stable (t : Option Addr) : Prog :=
.ex [.adr] (c1 fun a0 => t = some a0) (u1 fun a1 =>
.read True (ld T.int64 (Addr.add a1 1)) (sI .i64) (u1 fun (n2 : Int) =>
.lt (.int .i64) (n2) fun (n3 : Int) =>
.ex [.adr] (c1 fun a4 => t = some a4) (u1 fun a5 =>
.read True (ld T.s_towpathref07_Row (Addr.add a5 2)) sL (u1 fun l6 =>
.bind 1 [.one (.int .i64)] (
.loop 2 [.one (.int .i64), .one (.int .i64)] (n3, (0, ())) (u2 fun (n7 : Int) (n8 : Int) =>
.ite (decide (n8 < ((l6.len : Nat) : Int))) (
.ex [.adr] (c1 fun a9 => 0 ≤ n8 ∧ n8 < ((l6.len : Nat) : Int) ∧ l6.a = some a9) (u1 fun a10 =>
.read True (ld T.towpathref07_Row (Addr.add a10 (Int.toNat n8 * 7))) (sG [.int .i64, .int .i64, .int .i64, .int .i64, .int .i64, .int .i64, .int .i64]) (u7 fun (n11 : Int) (n12 : Int) (n13 : Int) (n14 : Int) (n15 : Int) (n16 : Int) (n17 : Int) =>
.act (new T.towpathref07_Row) sA (u1 fun a18 =>
.actU (st T.towpathref07_Row a18 (.agg #[.int .i64 n11, .int .i64 n12, .int .i64 n13, .int .i64 n14, .int .i64 n15, .int .i64 n16, .int .i64 n17])) <|
.read True (ld T.int64 (Addr.add a18 5)) (sI .i64) (u1 fun (n19 : Int) =>
.read (decide (n19 ≥ 0) = true) (ld T.int64 (Addr.add a18 5)) (sI .i64) (u1 fun (n20 : Int) =>
.bind 3 [.one (.int .i64)] (
.ite (decide (n19 ≥ 0) && decide (n20 < n7)) (
.read True (ld T.int64 (Addr.add a18 5)) (sI .i64) (u1 fun (n21 : Int) =>
.lt (.int .i64) (n21) fun (n22 : Int) =>
.done 3 [.int .i64 n22])) (
.done 3 [.int .i64 n7])) (u1 fun (n23 : Int) =>
.done 2 [.int .i64 n23, .int .i64 (IntKind.wrap .i64 (n8 + 1))]))))))) (
.done 1 [.int .i64 n7]))) (u1 fun (n24 : Int) =>
.lt (.int .i64) (n24) fun (n25 : Int) =>
.done 0 [.int .i64 n25])))))
theorem towpathref07_Table_Stable_eq (t : Option Addr) : decomp P 32 ⟨okFs, []⟩ { cnd := [(3298534916123, [(3, .one (.int .i64))])], blk := [(0, [(3, .one (.int .i64))])], reg := [], lps := [(0, [(3, .one (.int .i64)), (15, .one (.int .i64))])] } [.tmp 2] (bodyOf Go.Proofs.Try.f42) [.val (.pointer t)] = towpathref07_Table_Stable t := by kernel_rfl
theorem towpathref07_Table_Stable_calls (t : Option Addr) {w : World} {R : List Value → World → Prop} (h : (towpathref07_Table_Stable t).wp P (fun _ => True) w fun e vs w' => e = 0 ∧ R vs w') :
    Calls P F.towpathref07_Table_Stable #[.pointer t] w fun e w' => ∃ vs, e = .returned (pack vs) ∧ R vs w' :=
  decomp_sound (isFn_of Go.Proofs.Try.func42 (by kernel_rfl) (by kernel_rfl) (by kernel_rfl)) okFs_ok mix [.val (.pointer t)] (by rw [towpathref07_Table_Stable_eq]; exact h)

def towpathlaw07_alike (a_0 : Int) (a_1 : Int) (a_2 : Int) (a_3 : Int) (a_4 : Int) (a_5 : Int) (a_6 : Int) (b_0 : Int) (b_1 : Int) (b_2 : Int) (b_3 : Int) (b_4 : Int) (b_5 : Int) (b_6 : Int) : Prog :=
.act (Instr.box T.dedup_Row (.agg #[.int .i64 a_0, .int .i64 a_1, .int .i64 a_2, .int .i64 a_3, .int .i64 a_4, .int .i64 a_5, .int .i64 a_6])) sA (u1 fun a0 =>
.act (Instr.box T.towpathref07_Row (.agg #[.int .i64 b_0, .int .i64 b_1, .int .i64 b_2, .int .i64 b_3, .int .i64 b_4, .int .i64 b_5, .int .i64 b_6])) sA (u1 fun a1 =>
.read True (ld T.int64 (Addr.add a0 0)) (sI .i64) (u1 fun (n2 : Int) =>
.read True (ld T.int64 (Addr.add a1 0)) (sI .i64) (u1 fun (n3 : Int) =>
.read ((n2 == n3) = true) (ld T.int (Addr.add a0 1)) (sI .i64) (u1 fun (n4 : Int) =>
.read ((n2 == n3) = true) (ld T.int (Addr.add a1 1)) (sI .i64) (u1 fun (n5 : Int) =>
.read ((n2 == n3 && n4 == n5) = true) (ld T.int (Addr.add a0 2)) (sI .i64) (u1 fun (n6 : Int) =>
.read ((n2 == n3 && n4 == n5) = true) (ld T.int (Addr.add a1 2)) (sI .i64) (u1 fun (n7 : Int) =>
.read ((n2 == n3 && n4 == n5 && n6 == n7) = true) (ld T.int (Addr.add a0 3)) (sI .i64) (u1 fun (n8 : Int) =>
.read ((n2 == n3 && n4 == n5 && n6 == n7) = true) (ld T.int (Addr.add a1 3)) (sI .i64) (u1 fun (n9 : Int) =>
.read ((n2 == n3 && n4 == n5 && n6 == n7 && n8 == n9) = true) (ld T.int64 (Addr.add a0 4)) (sI .i64) (u1 fun (n10 : Int) =>
.read ((n2 == n3 && n4 == n5 && n6 == n7 && n8 == n9) = true) (ld T.int64 (Addr.add a1 4)) (sI .i64) (u1 fun (n11 : Int) =>
.read ((n2 == n3 && n4 == n5 && n6 == n7 && n8 == n9 && n10 == n11) = true) (ld T.int64 (Addr.add a0 5)) (sI .i64) (u1 fun (n12 : Int) =>
.read ((n2 == n3 && n4 == n5 && n6 == n7 && n8 == n9 && n10 == n11) = true) (ld T.int64 (Addr.add a1 5)) (sI .i64) (u1 fun (n13 : Int) =>
.read ((n2 == n3 && n4 == n5 && n6 == n7 && n8 == n9 && n10 == n11 && n12 == n13) = true) (ld T.int64 (Addr.add a0 6)) (sI .i64) (u1 fun (n14 : Int) =>
.read ((n2 == n3 && n4 == n5 && n6 == n7 && n8 == n9 && n10 == n11 && n12 == n13) = true) (ld T.int64 (Addr.add a1 6)) (sI .i64) (u1 fun (n15 : Int) =>
.lt (.bool) (n2 == n3 && n4 == n5 && n6 == n7 && n8 == n9 && n10 == n11 && n12 == n13 && n14 == n15) fun b16 =>
.done 0 [.bool b16]))))))))))))))))
theorem towpathlaw07_alike_eq (a_0 : Int) (a_1 : Int) (a_2 : Int) (a_3 : Int) (a_4 : Int) (a_5 : Int) (a_6 : Int) (b_0 : Int) (b_1 : Int) (b_2 : Int) (b_3 : Int) (b_4 : Int) (b_5 : Int) (b_6 : Int) : decomp P 52 ⟨okFs, []⟩ { cnd := [], blk := [], reg := [], lps := [] } [.tmp 4] (bodyOf Go.Proofs.Try.f43) [.val (.agg #[.int .i64 a_0, .int .i64 a_1, .int .i64 a_2, .int .i64 a_3, .int .i64 a_4, .int .i64 a_5, .int .i64 a_6]), .val (.agg #[.int .i64 b_0, .int .i64 b_1, .int .i64 b_2, .int .i64 b_3, .int .i64 b_4, .int .i64 b_5, .int .i64 b_6])] = towpathlaw07_alike a_0 a_1 a_2 a_3 a_4 a_5 a_6 b_0 b_1 b_2 b_3 b_4 b_5 b_6 := by kernel_rfl
theorem towpathlaw07_alike_calls (a_0 : Int) (a_1 : Int) (a_2 : Int) (a_3 : Int) (a_4 : Int) (a_5 : Int) (a_6 : Int) (b_0 : Int) (b_1 : Int) (b_2 : Int) (b_3 : Int) (b_4 : Int) (b_5 : Int) (b_6 : Int) {w : World} {R : List Value → World → Prop} (h : (towpathlaw07_alike a_0 a_1 a_2 a_3 a_4 a_5 a_6 b_0 b_1 b_2 b_3 b_4 b_5 b_6).wp P (fun _ => True) w fun e vs w' => e = 0 ∧ R vs w') :
    Calls P F.towpathlaw07_alike #[.agg #[.int .i64 a_0, .int .i64 a_1, .int .i64 a_2, .int .i64 a_3, .int .i64 a_4, .int .i64 a_5, .int .i64 a_6], .agg #[.int .i64 b_0, .int .i64 b_1, .int .i64 b_2, .int .i64 b_3, .int .i64 b_4, .int .i64 b_5, .int .i64 b_6]] w fun e w' => ∃ vs, e = .returned (pack vs) ∧ R vs w' :=
  decomp_sound (isFn_of Go.Proofs.Try.func43 (by kernel_rfl) (by kernel_rfl) (by kernel_rfl)) okFs_ok mix [.val (.agg #[.int .i64 a_0, .int .i64 a_1, .int .i64 a_2, .int .i64 a_3, .int .i64 a_4, .int .i64 a_5, .int .i64 a_6]), .val (.agg #[.int .i64 b_0, .int .i64 b_1, .int .i64 b_2, .int .i64 b_3, .int .i64 b_4, .int .i64 b_5, .int .i64 b_6])] (by rw [towpathlaw07_alike_eq]; exact h)

def towpathref07_Table_Bytes (t : Option Addr) : Prog :=
.ex [.adr] (c1 fun a0 => t = some a0) (u1 fun a1 =>
.read True (ld T.int64 (Addr.add a1 1)) (sI .i64) (u1 fun (n2 : Int) =>
.call F.towpathref01_Uint [.int .u64 (IntKind.wrap .u64 n2)] sL (u1 fun l3 =>
.ex [.adr] (c1 fun a4 => t = some a4) (u1 fun a5 =>
.read True (ld T.s_towpathref07_Row (Addr.add a5 2)) sL (u1 fun l6 =>
.call F.towpathref01_Uint [.int .u64 (IntKind.wrap .u64 (((l6.len : Nat) : Int)))] sL (u1 fun l7 =>
.act (app T.s_uint8 T.s_uint8 T.s_uint8 l3.v l7.v) sL (u1 fun l8 =>
.ex [.adr] (c1 fun a9 => t = some a9) (u1 fun a10 =>
.read True (ld T.s_towpathref07_Row (Addr.add a10 2)) sL (u1 fun l11 =>
.bind 1 [.one .slc] (
.loop 2 [.one .slc, .one (.int .i64)] ({ a := l8.a, len := l8.len, cap := l8.cap }, (0, ())) (u2 fun l12 (n13 : Int) =>
.ite (decide (n13 < ((l11.len : Nat) : Int))) (
.ex [.adr] (c1 fun a14 => 0 ≤ n13 ∧ n13 < ((l11.len : Nat) : Int) ∧ l11.a = some a14) (u1 fun a15 =>
.read True (ld T.towpathref07_Row (Addr.add a15 (Int.toNat n13 * 7))) (sG [.int .i64, .int .i64, .int .i64, .int .i64, .int .i64, .int .i64, .int .i64]) (u7 fun (n16 : Int) (n17 : Int) (n18 : Int) (n19 : Int) (n20 : Int) (n21 : Int) (n22 : Int) =>
.act (new T.towpathref07_Row) sA (u1 fun a23 =>
.actU (st T.towpathref07_Row a23 (.agg #[.int .i64 n16, .int .i64 n17, .int .i64 n18, .int .i64 n19, .int .i64 n20, .int .i64 n21, .int .i64 n22])) <|
.read True (ld T.int64 (Addr.add a23 0)) (sI .i64) (u1 fun (n24 : Int) =>
.call F.towpathref01_Uint [.int .u64 (IntKind.wrap .u64 n24)] sL (u1 fun l25 =>
.act (app T.s_uint8 T.s_uint8 T.s_uint8 l12.v l25.v) sL (u1 fun l26 =>
.read True (ld T.int (Addr.add a23 1)) (sI .i64) (u1 fun (n27 : Int) =>
.call F.towpathref01_Uint [.int .u64 (IntKind.wrap .u64 n27)] sL (u1 fun l28 =>
.act (app T.s_uint8 T.s_uint8 T.s_uint8 l26.v l28.v) sL (u1 fun l29 =>
.read True (ld T.int (Addr.add a23 2)) (sI .i64) (u1 fun (n30 : Int) =>
.call F.towpathref01_Uint [.int .u64 (IntKind.wrap .u64 n30)] sL (u1 fun l31 =>
.act (app T.s_uint8 T.s_uint8 T.s_uint8 l29.v l31.v) sL (u1 fun l32 =>
.read True (ld T.int (Addr.add a23 3)) (sI .i64) (u1 fun (n33 : Int) =>
.call F.towpathref01_Uint [.int .u64 (IntKind.wrap .u64 n33)] sL (u1 fun l34 =>
.act (app T.s_uint8 T.s_uint8 T.s_uint8 l32.v l34.v) sL (u1 fun l35 =>
.read True (ld T.int64 (Addr.add a23 4)) (sI .i64) (u1 fun (n36 : Int) =>
.call F.towpathref01_Uint [.int .u64 (IntKind.wrap .u64 n36)] sL (u1 fun l37 =>
.act (app T.s_uint8 T.s_uint8 T.s_uint8 l35.v l37.v) sL (u1 fun l38 =>
.read True (ld T.int64 (Addr.add a23 5)) (sI .i64) (u1 fun (n39 : Int) =>
.call F.towpathref01_Int [.int .i64 n39] sL (u1 fun l40 =>
.act (app T.s_uint8 T.s_uint8 T.s_uint8 l38.v l40.v) sL (u1 fun l41 =>
.read True (ld T.int64 (Addr.add a23 6)) (sI .i64) (u1 fun (n42 : Int) =>
.call F.towpathref01_Uint [.int .u64 (IntKind.wrap .u64 n42)] sL (u1 fun l43 =>
.act (app T.s_uint8 T.s_uint8 T.s_uint8 l41.v l43.v) sL (u1 fun l44 =>
.done 2 [l44.v, .int .i64 (IntKind.wrap .i64 (n13 + 1))]))))))))))))))))))))))))) (
.done 1 [l12.v]))) (u1 fun l45 =>
.call F.towpathref02_Seal [l45.v] sL (u1 fun l46 =>
.done 0 [l46.v])))))))))))
theorem towpathref07_Table_Bytes_eq (t : Option Addr) : decomp P 74 ⟨okFs, []⟩ { cnd := [], blk := [(0, [(3, .one .slc)])], reg := [], lps := [(0, [(3, .one .slc), (26, .one (.int .i64))])] } [.tmp 2] (bodyOf Go.Proofs.Try.f44) [.val (.pointer t)] = towpathref07_Table_Bytes t := by kernel_rfl
theorem towpathref07_Table_Bytes_calls (t : Option Addr) {w : World} {R : List Value → World → Prop} (h : (towpathref07_Table_Bytes t).wp P (fun _ => True) w fun e vs w' => e = 0 ∧ R vs w') :
    Calls P F.towpathref07_Table_Bytes #[.pointer t] w fun e w' => ∃ vs, e = .returned (pack vs) ∧ R vs w' :=
  decomp_sound (isFn_of Go.Proofs.Try.func44 (by kernel_rfl) (by kernel_rfl) (by kernel_rfl)) okFs_ok mix [.val (.pointer t)] (by rw [towpathref07_Table_Bytes_eq]; exact h)

def wire_Join (parts : Sl) : Prog :=
.bind 1 [.one (.int .i64)] (
.loop 2 [.one (.int .i64), .one (.int .i64)] (0, (0, ())) (u2 fun (n0 : Int) (n1 : Int) =>
.ite (decide (n1 < ((parts.len : Nat) : Int))) (
.ex [.adr] (c1 fun a2 => 0 ≤ n1 ∧ n1 < ((parts.len : Nat) : Int) ∧ parts.a = some a2) (u1 fun a3 =>
.read True (ld T.s_uint8 (Addr.add a3 (Int.toNat n1 * 1))) sL (u1 fun l4 =>
.lt (.int .i64) (IntKind.wrap .i64 (n0 + ((l4.len : Nat) : Int))) fun (n5 : Int) =>
.done 2 [.int .i64 n5, .int .i64 (IntKind.wrap .i64 (n1 + 1))]))) (
.done 1 [.int .i64 n0]))) (u1 fun (n6 : Int) =>
.act (Instr.makeSlice T.s_uint8 (.int .i64 0) (.int .i64 n6)) sL (u1 fun l7 =>
.bind 1 [.one .slc] (
.loop 2 [.one .slc, .one (.int .i64)] ({ a := l7.a, len := l7.len, cap := l7.cap }, (0, ())) (u2 fun l8 (n9 : Int) =>
.ite (decide (n9 < ((parts.len : Nat) : Int))) (
.ex [.adr] (c1 fun a10 => 0 ≤ n9 ∧ n9 < ((parts.len : Nat) : Int) ∧ parts.a = some a10) (u1 fun a11 =>
.read True (ld T.s_uint8 (Addr.add a11 (Int.toNat n9 * 1))) sL (u1 fun l12 =>
.act (app T.s_uint8 T.s_uint8 T.s_uint8 l8.v l12.v) sL (u1 fun l13 =>
.done 2 [l13.v, .int .i64 (IntKind.wrap .i64 (n9 + 1))])))) (
.done 1 [l8.v]))) (u1 fun l14 =>
.done 0 [l14.v])))
theorem wire_Join_eq (parts : Sl) : decomp P 33 ⟨okFs, []⟩ { cnd := [], blk := [(0, [(3, .one (.int .i64))]), (2, [(6, .one .slc)])], reg := [], lps := [(0, [(3, .one (.int .i64)), (11, .one (.int .i64))]), (2, [(6, .one .slc), (24, .one (.int .i64))])] } [.tmp 2] (bodyOf Go.Proofs.Try.f53) [.val (.slice parts.a parts.len parts.cap)] = wire_Join parts := by kernel_rfl
theorem wire_Join_calls (parts : Sl) {w : World} {R : List Value → World → Prop} (h : (wire_Join parts).wp P (fun _ => True) w fun e vs w' => e = 0 ∧ R vs w') :
    Calls P F.wire_Join #[.slice parts.a parts.len parts.cap] w fun e w' => ∃ vs, e = .returned (pack vs) ∧ R vs w' :=
  decomp_sound (isFn_of Go.Proofs.Try.func53 (by kernel_rfl) (by kernel_rfl) (by kernel_rfl)) okFs_ok mix [.val (.slice parts.a parts.len parts.cap)] (by rw [wire_Join_eq]; exact h)

def wire_Uint (n : Int) : Prog :=
.bind 1 [.one (.int .u64), .one .slc] (
.loop 2 [.one (.int .u64), .one .slc] (n, (⟨none, 0, 0⟩, ())) (u2 fun (n0 : Int) l1 =>
.ite (decide (n0 ≥ 128)) (
.act (Instr.buildSlice T.s_uint8 1 #[(0, .int .u8 (IntKind.wrap .u8 (((BitVec.toNat (BitVec.ofInt 8 (IntKind.wrap .u8 n0) ||| BitVec.ofInt 8 128) : Nat) : Int))))]) sL (u1 fun l2 =>
.act (app T.s_uint8 T.s_uint8 T.s_uint8 l1.v l2.v) sL (u1 fun l3 =>
.lt (.int .u64) (Int.fdiv n0 128) fun (n4 : Int) =>
.done 2 [.int .u64 n4, l3.v]))) (
.done 1 [.int .u64 n0, l1.v]))) (u2 fun (n5 : Int) l6 =>
.act (Instr.buildSlice T.s_uint8 1 #[(0, .int .u8 (IntKind.wrap .u8 n5))]) sL (u1 fun l7 =>
.act (app T.s_uint8 T.s_uint8 T.s_uint8 l6.v l7.v) sL (u1 fun l8 =>
.done 0 [l8.v])))
theorem wire_Uint_eq (n : Int) : decomp P 19 ⟨okFs, []⟩ { cnd := [], blk := [(0, [(0, .one (.int .u64)), (3, .one .slc)])], reg := [], lps := [(0, [(0, .one (.int .u64)), (3, .one .slc)])] } [.tmp 2] (bodyOf Go.Proofs.Try.f54) [.val (.int .u64 n)] = wire_Uint n := by kernel_rfl
theorem wire_Uint_calls (n : Int) {w : World} {R : List Value → World → Prop} (h : (wire_Uint n).wp P (fun _ => True) w fun e vs w' => e = 0 ∧ R vs w') :
    Calls P F.wire_Uint #[.int .u64 n] w fun e w' => ∃ vs, e = .returned (pack vs) ∧ R vs w' :=
  decomp_sound (isFn_of Go.Proofs.Try.func54 (by kernel_rfl) (by kernel_rfl) (by kernel_rfl)) okFs_ok mix [.val (.int .u64 n)] (by rw [wire_Uint_eq]; exact h)

def wire_Int (n : Int) : Prog :=
.call F.wire_Uint [.int .u64 (IntKind.wrap .u64 (((BitVec.toNat (BitVec.ofInt 64 (IntKind.wrap .u64 (IntKind.wrap .u64 n * 2)) ^^^ BitVec.ofInt 64 (IntKind.wrap .u64 (Int.fdiv n 9223372036854775808))) : Nat) : Int)))] sL (u1 fun l0 =>
.done 0 [l0.v])
theorem wire_Int_eq (n : Int) : decomp P 11 ⟨okFs, []⟩ { cnd := [], blk := [], reg := [], lps := [] } [.tmp 2] (bodyOf Go.Proofs.Try.f55) [.val (.int .i64 n)] = wire_Int n := by kernel_rfl
theorem wire_Int_calls (n : Int) {w : World} {R : List Value → World → Prop} (h : (wire_Int n).wp P (fun _ => True) w fun e vs w' => e = 0 ∧ R vs w') :
    Calls P F.wire_Int #[.int .i64 n] w fun e w' => ∃ vs, e = .returned (pack vs) ∧ R vs w' :=
  decomp_sound (isFn_of Go.Proofs.Try.func55 (by kernel_rfl) (by kernel_rfl) (by kernel_rfl)) okFs_ok mix [.val (.int .i64 n)] (by rw [wire_Int_eq]; exact h)

def frame_Seal (parts : Sl) : Prog :=
.bind 1 [.one (.int .i64)] (
.loop 2 [.one (.int .i64), .one (.int .i64)] (0, (0, ())) (u2 fun (n0 : Int) (n1 : Int) =>
.ite (decide (n1 < ((parts.len : Nat) : Int))) (
.ex [.adr] (c1 fun a2 => 0 ≤ n1 ∧ n1 < ((parts.len : Nat) : Int) ∧ parts.a = some a2) (u1 fun a3 =>
.read True (ld T.s_uint8 (Addr.add a3 (Int.toNat n1 * 1))) sL (u1 fun l4 =>
.lt (.int .i64) (IntKind.wrap .i64 (n0 + ((l4.len : Nat) : Int))) fun (n5 : Int) =>
.ite (decide (n5 > 262144)) (
.done 0 [.slice none 0 0]) (
.done 2 [.int .i64 n5, .int .i64 (IntKind.wrap .i64 (n1 + 1))])))) (
.done 1 [.int .i64 n0]))) (u1 fun (n6 : Int) =>
.act (Instr.makeSlice T.s_uint8 (.int .i64 0) (.int .i64 (IntKind.wrap .i64 (n6 + 8)))) sL (u1 fun l7 =>
.call F.frame_four [.int .u32 (IntKind.wrap .u32 n6)] sL (u1 fun l8 =>
.act (app T.s_uint8 T.s_uint8 T.s_uint8 l7.v l8.v) sL (u1 fun l9 =>
.bind 1 [.one .slc] (
.loop 2 [.one .slc, .one (.int .i64)] ({ a := l9.a, len := l9.len, cap := l9.cap }, (0, ())) (u2 fun l10 (n11 : Int) =>
.ite (decide (n11 < ((parts.len : Nat) : Int))) (
.ex [.adr] (c1 fun a12 => 0 ≤ n11 ∧ n11 < ((parts.len : Nat) : Int) ∧ parts.a = some a12) (u1 fun a13 =>
.read True (ld T.s_uint8 (Addr.add a13 (Int.toNat n11 * 1))) sL (u1 fun l14 =>
.act (app T.s_uint8 T.s_uint8 T.s_uint8 l10.v l14.v) sL (u1 fun l15 =>
.done 2 [l15.v, .int .i64 (IntKind.wrap .i64 (n11 + 1))])))) (
.done 1 [l10.v]))) (u1 fun l16 =>
.act (Instr.buildSlice T.s_s_uint8 1 #[(0, l16.v)]) sL (u1 fun l17 =>
.call F.frame_Sum [l17.v] (sI .u32) (u1 fun (n18 : Int) =>
.call F.frame_four [.int .u32 n18] sL (u1 fun l19 =>
.act (app T.s_uint8 T.s_uint8 T.s_uint8 l16.v l19.v) sL (u1 fun l20 =>
.done 0 [l20.v])))))))))
theorem frame_Seal_eq (parts : Sl) : decomp P 46 ⟨okFs, []⟩ { cnd := [], blk := [(0, [(3, .one (.int .i64))]), (2, [(6, .one .slc)])], reg := [], lps := [(0, [(3, .one (.int .i64)), (11, .one (.int .i64))]), (2, [(6, .one .slc), (32, .one (.int .i64))])] } [.tmp 2] (bodyOf Go.Proofs.Try.f56) [.val (.slice parts.a parts.len parts.cap)] = frame_Seal parts := by kernel_rfl
theorem frame_Seal_calls (parts : Sl) {w : World} {R : List Value → World → Prop} (h : (frame_Seal parts).wp P (fun _ => True) w fun e vs w' => e = 0 ∧ R vs w') :
    Calls P F.frame_Seal #[.slice parts.a parts.len parts.cap] w fun e w' => ∃ vs, e = .returned (pack vs) ∧ R vs w' :=
  decomp_sound (isFn_of Go.Proofs.Try.func56 (by kernel_rfl) (by kernel_rfl) (by kernel_rfl)) okFs_ok mix [.val (.slice parts.a parts.len parts.cap)] (by rw [frame_Seal_eq]; exact h)

def frame_First (b : Sl) : Prog :=
.ite (decide (((b.len : Nat) : Int) < 8)) (
.done 0 [.slice none 0 0, .int .i64 0, .bool false]) (
.call F.frame_number [b.v] (sI .u32) (u1 fun (n0 : Int) =>
.lt (.int .u32) (n0) fun (n1 : Int) =>
.ite (decide (n1 > 262144) || decide (IntKind.wrap .i64 n1 > IntKind.wrap .i64 (((b.len : Nat) : Int) - 8))) (
.done 0 [.slice none 0 0, .int .i64 0, .bool false]) (
.lt (.int .i64) (IntKind.wrap .i64 (IntKind.wrap .i64 n1 + 4)) fun (n2 : Int) =>
.bind 1 [.one .bool] (
.tick <|
.must (0 ≤ n2 ∧ n2 ≤ ((b.len : Nat) : Int)) <|
.must (0 ≤ n2 ∧ n2 ≤ ((b.cap : Nat) : Int)) <|
.both (
.call F.frame_number [.slice (cutA b.a 1 (Int.toNat n2) b.cap) (b.len - Int.toNat n2) (b.cap - Int.toNat n2)] (sI .u32) (u1 fun (n3 : Int) =>
.act (Instr.buildSlice T.s_s_uint8 1 #[(0, .slice b.a (Int.toNat n2) b.cap)]) sL (u1 fun l4 =>
.call F.frame_Sum [l4.v] (sI .u32) (u1 fun (n5 : Int) =>
.untick <|
.done 1 [.bool (n3 != n5)])))) (
.act (Instr.buildSlice T.s_s_uint8 1 #[(0, .slice b.a (Int.toNat n2) b.cap)]) sL (u1 fun l6 =>
.call F.frame_number [.slice (cutA b.a 1 (Int.toNat n2) b.cap) (b.len - Int.toNat n2) (b.cap - Int.toNat n2)] (sI .u32) (u1 fun (n7 : Int) =>
.call F.frame_Sum [l6.v] (sI .u32) (u1 fun (n8 : Int) =>
.untick <|
.done 1 [.bool (n7 != n8)]))))) (u1 fun b9 =>
.ite (b9) (
.done 0 [.slice none 0 0, .int .i64 0, .bool false]) (
.must ((0 : Int) ≤ 4 ∧ 4 ≤ n2 ∧ n2 ≤ ((b.cap : Nat) : Int)) <|
.call F.bytes_Clone [.slice (cutA b.a 1 4 b.cap) (Int.toNat n2 - 4) (b.cap - 4)] sL (u1 fun l10 =>
.lt (.int .i64) (IntKind.wrap .i64 (n2 + 4)) fun (n11 : Int) =>
.done 0 [l10.v, .int .i64 n11, .bool true]))))))
theorem frame_First_eq (b : Sl) : decomp P 41 ⟨okFs, []⟩ { cnd := [], blk := [], reg := [(7, [(34, .one .bool)])], lps := [] } [.tmp 2, .tmp 3, .tmp 4] (bodyOf Go.Proofs.Try.f62) [.val (.slice b.a b.len b.cap)] = frame_First b := by kernel_rfl
theorem frame_First_calls (b : Sl) {w : World} {R : List Value → World → Prop} (h : (frame_First b).wp P (fun _ => True) w fun e vs w' => e = 0 ∧ R vs w') :
    Calls P F.frame_First #[.slice b.a b.len b.cap] w fun e w' => ∃ vs, e = .returned (pack vs) ∧ R vs w' :=
  decomp_sound (isFn_of Go.Proofs.Try.func62 (by kernel_rfl) (by kernel_rfl) (by kernel_rfl)) okFs_ok mix [.val (.slice b.a b.len b.cap)] (by rw [frame_First_eq]; exact h)

def bytes_Clone (b : Sl) : Prog :=
.ite (Option.isNone b.a) (
.done 0 [.slice none 0 0]) (
.act (Instr.buildSlice T.s_uint8 0 #[]) sL (u1 fun l0 =>
.act (app T.s_uint8 T.s_uint8 T.s_uint8 l0.v b.v) sL (u1 fun l1 =>
.done 0 [l1.v])))
theorem bytes_Clone_eq (b : Sl) : decomp P 8 ⟨okFs, []⟩ { cnd := [], blk := [], reg := [], lps := [] } [.tmp 2] (bodyOf Go.Proofs.Try.f63) [.val (.slice b.a b.len b.cap)] = bytes_Clone b := by kernel_rfl
theorem bytes_Clone_calls (b : Sl) {w : World} {R : List Value → World → Prop} (h : (bytes_Clone b).wp P (fun _ => True) w fun e vs w' => e = 0 ∧ R vs w') :
    Calls P F.bytes_Clone #[.slice b.a b.len b.cap] w fun e w' => ∃ vs, e = .returned (pack vs) ∧ R vs w' :=
  decomp_sound (isFn_of Go.Proofs.Try.func63 (by kernel_rfl) (by kernel_rfl) (by kernel_rfl)) okFs_ok mix [.val (.slice b.a b.len b.cap)] (by rw [bytes_Clone_eq]; exact h)

def wire_Reader_Uint (r : Option Addr) : Prog :=
.call F.wire_Reader_good [.pointer r] sB (u1 fun b0 =>
.ite (not b0) (
.done 0 [.int .u64 0]) (
.ex [.adr] (c1 fun a1 => r = some a1) (u1 fun a2 =>
.call F.wire_place_uint [.pointer (some (Addr.add a2 0))] (sI .u64) (u1 fun (n3 : Int) =>
.lt (.int .u64) (n3) fun (n4 : Int) =>
.done 0 [.int .u64 n4]))))
theorem wire_Reader_Uint_eq (r : Option Addr) : decomp P 10 ⟨okFs, []⟩ { cnd := [], blk := [], reg := [], lps := [] } [.tmp 2] (bodyOf Go.Proofs.Try.f64) [.val (.pointer r)] = wire_Reader_Uint r := by kernel_rfl
theorem wire_Reader_Uint_calls (r : Option Addr) {w : World} {R : List Value → World → Prop} (h : (wire_Reader_Uint r).wp P (fun _ => True) w fun e vs w' => e = 0 ∧ R vs w') :
    Calls P F.wire_Reader_Uint #[.pointer r] w fun e w' => ∃ vs, e = .returned (pack vs) ∧ R vs w' :=
  decomp_sound (isFn_of Go.Proofs.Try.func64 (by kernel_rfl) (by kernel_rfl) (by kernel_rfl)) okFs_ok mix [.val (.pointer r)] (by rw [wire_Reader_Uint_eq]; exact h)

def wire_Reader_good (r : Option Addr) : Prog :=
.ex [.adr] (c1 fun a0 => not (Option.isNone r) = true → r = some a0) (u1 fun a1 =>
.read (not (Option.isNone r) = true) (ld T.api_Errno (Addr.add (Addr.add a1 0) 2)) (sI .i64) (u1 fun (n2 : Int) =>
.lt (.bool) (not (Option.isNone r) && n2 == 0) fun b3 =>
.done 0 [.bool b3]))
theorem wire_Reader_good_eq (r : Option Addr) : decomp P 13 ⟨okFs, []⟩ { cnd := [], blk := [], reg := [], lps := [] } [.tmp 2] (bodyOf Go.Proofs.Try.f65) [.val (.pointer r)] = wire_Reader_good r := by kernel_rfl
theorem wire_Reader_good_calls (r : Option Addr) {w : World} {R : List Value → World → Prop} (h : (wire_Reader_good r).wp P (fun _ => True) w fun e vs w' => e = 0 ∧ R vs w') :
    Calls P F.wire_Reader_good #[.pointer r] w fun e w' => ∃ vs, e = .returned (pack vs) ∧ R vs w' :=
  decomp_sound (isFn_of Go.Proofs.Try.func65 (by kernel_rfl) (by kernel_rfl) (by kernel_rfl)) okFs_ok mix [.val (.pointer r)] (by rw [wire_Reader_good_eq]; exact h)

def wire_Reader_Int (r : Option Addr) : Prog :=
.call F.wire_Reader_Uint [.pointer r] (sI .u64) (u1 fun (n0 : Int) =>
.lt (.int .u64) (n0) fun (n1 : Int) =>
.lt (.int .i64) (IntKind.wrap .i64 (((BitVec.toNat (BitVec.ofInt 64 (IntKind.wrap .i64 (Int.fdiv n1 2)) ^^^ BitVec.ofInt 64 (IntKind.wrap .i64 (0 - IntKind.wrap .i64 (IntKind.wrap .u64 (((BitVec.toNat (BitVec.ofInt 64 n1 &&& BitVec.ofInt 64 1) : Nat) : Int)))))) : Nat) : Int))) fun (n2 : Int) =>
.done 0 [.int .i64 n2])
theorem wire_Reader_Int_eq (r : Option Addr) : decomp P 14 ⟨okFs, []⟩ { cnd := [], blk := [], reg := [], lps := [] } [.tmp 2] (bodyOf Go.Proofs.Try.f66) [.val (.pointer r)] = wire_Reader_Int r := by kernel_rfl
theorem wire_Reader_Int_calls (r : Option Addr) {w : World} {R : List Value → World → Prop} (h : (wire_Reader_Int r).wp P (fun _ => True) w fun e vs w' => e = 0 ∧ R vs w') :
    Calls P F.wire_Reader_Int #[.pointer r] w fun e w' => ∃ vs, e = .returned (pack vs) ∧ R vs w' :=
  decomp_sound (isFn_of Go.Proofs.Try.func66 (by kernel_rfl) (by kernel_rfl) (by kernel_rfl)) okFs_ok mix [.val (.pointer r)] (by rw [wire_Reader_Int_eq]; exact h)

def wire_place_fail (p : Option Addr) (e_ : Int) : Prog :=
.ex [.adr] (c1 fun a0 => p = some a0) (u1 fun a1 =>
.read True (ld T.api_Errno (Addr.add a1 2)) (sI .i64) (u1 fun (n2 : Int) =>
.bind 1 [] (
.ite (n2 == 0) (
.ex [.adr] (c1 fun a3 => p = some a3) (u1 fun a4 =>
.actU (st T.api_Errno (Addr.add a4 2) (.int .i64 e_)) <|
.done 1 [])) (
.done 1 [])) (u0 <|
.done 0 [])))
theorem wire_place_fail_eq (p : Option Addr) (e_ : Int) : decomp P 13 ⟨okFs, []⟩ { cnd := [(31457288, [])], blk := [], reg := [], lps := [] } [] (bodyOf Go.Proofs.Try.f67) [.val (.pointer p), .val (.int .i64 e_)] = wire_place_fail p e_ := by kernel_rfl
theorem wire_place_fail_calls (p : Option Addr) (e_ : Int) {w : World} {R : List Value → World → Prop} (h : (wire_place_fail p e_).wp P (fun _ => True) w fun e vs w' => e = 0 ∧ R vs w') :
    Calls P F.wire_place_fail #[.pointer p, .int .i64 e_] w fun e w' => ∃ vs, e = .returned (pack vs) ∧ R vs w' :=
  decomp_sound (isFn_of Go.Proofs.Try.func67 (by kernel_rfl) (by kernel_rfl) (by kernel_rfl)) okFs_ok mix [.val (.pointer p), .val (.int .i64 e_)] (by rw [wire_place_fail_eq]; exact h)

def wire_place_left (p : Option Addr) : Prog :=
.tick <|
.ex [.adr] (c1 fun a0 => p = some a0) (u1 fun a1 =>
.read True (ld T.s_uint8 (Addr.add a1 0)) sL (u1 fun l2 =>
.ex [.adr] (c1 fun a3 => p = some a3) (u1 fun a4 =>
.read True (ld T.int (Addr.add a4 1)) (sI .i64) (u1 fun (n5 : Int) =>
.lt (.int .i64) (IntKind.wrap .i64 (((l2.len : Nat) : Int) - n5)) fun (n6 : Int) =>
.untick <|
.done 0 [.int .i64 n6]))))
theorem wire_place_left_eq (p : Option Addr) : decomp P 13 ⟨okFs, []⟩ { cnd := [], blk := [], reg := [], lps := [] } [.tmp 2] (bodyOf Go.Proofs.Try.f69) [.val (.pointer p)] = wire_place_left p := by kernel_rfl
theorem wire_place_left_calls (p : Option Addr) {w : World} {R : List Value → World → Prop} (h : (wire_place_left p).wp P (fun _ => True) w fun e vs w' => e = 0 ∧ R vs w') :
    Calls P F.wire_place_left #[.pointer p] w fun e w' => ∃ vs, e = .returned (pack vs) ∧ R vs w' :=
  decomp_sound (isFn_of Go.Proofs.Try.func69 (by kernel_rfl) (by kernel_rfl) (by kernel_rfl)) okFs_ok mix [.val (.pointer p)] (by rw [wire_place_left_eq]; exact h)

def towpathref01_Uint (n : Int) : Prog :=
.ite (decide (n < 128)) (
.act (Instr.buildSlice T.s_uint8 1 #[(0, .int .u8 (IntKind.wrap .u8 n))]) sL (u1 fun l0 =>
.done 0 [l0.v])) (
.act (Instr.buildSlice T.s_uint8 1 #[(0, .int .u8 (IntKind.wrap .u8 (IntKind.wrap .u64 (Int.tmod n 128 + 128))))]) sL (u1 fun l1 =>
.call F.towpathref01_Uint [.int .u64 (IntKind.wrap .u64 (Int.tdiv n 128))] sL (u1 fun l2 =>
.act (app T.s_uint8 T.s_uint8 T.s_uint8 l1.v l2.v) sL (u1 fun l3 =>
.done 0 [l3.v]))))
theorem towpathref01_Uint_eq (n : Int) : decomp P 19 ⟨okFs, []⟩ { cnd := [], blk := [], reg := [], lps := [] } [.tmp 2] (bodyOf Go.Proofs.Try.f70) [.val (.int .u64 n)] = towpathref01_Uint n := by kernel_rfl
theorem towpathref01_Uint_calls (n : Int) {w : World} {R : List Value → World → Prop} (h : (towpathref01_Uint n).wp P (fun _ => True) w fun e vs w' => e = 0 ∧ R vs w') :
    Calls P F.towpathref01_Uint #[.int .u64 n] w fun e w' => ∃ vs, e = .returned (pack vs) ∧ R vs w' :=
  decomp_sound (isFn_of Go.Proofs.Try.func70 (by kernel_rfl) (by kernel_rfl) (by kernel_rfl)) okFs_ok mix [.val (.int .u64 n)] (by rw [towpathref01_Uint_eq]; exact h)

def towpathref01_Int (n : Int) : Prog :=
.ite (decide (n ≥ 0)) (
.call F.towpathref01_Uint [.int .u64 (IntKind.wrap .u64 (2 * IntKind.wrap .u64 n))] sL (u1 fun l0 =>
.done 0 [l0.v])) (
.call F.towpathref01_Uint [.int .u64 (IntKind.wrap .u64 (IntKind.wrap .u64 (2 * IntKind.wrap .u64 (IntKind.wrap .i64 (0 - IntKind.wrap .i64 (n + 1)))) + 1))] sL (u1 fun l1 =>
.done 0 [l1.v]))
theorem towpathref01_Int_eq (n : Int) : decomp P 16 ⟨okFs, []⟩ { cnd := [], blk := [], reg := [], lps := [] } [.tmp 2] (bodyOf Go.Proofs.Try.f71) [.val (.int .i64 n)] = towpathref01_Int n := by kernel_rfl
theorem towpathref01_Int_calls (n : Int) {w : World} {R : List Value → World → Prop} (h : (towpathref01_Int n).wp P (fun _ => True) w fun e vs w' => e = 0 ∧ R vs w') :
    Calls P F.towpathref01_Int #[.int .i64 n] w fun e w' => ∃ vs, e = .returned (pack vs) ∧ R vs w' :=
  decomp_sound (isFn_of Go.Proofs.Try.func71 (by kernel_rfl) (by kernel_rfl) (by kernel_rfl)) okFs_ok mix [.val (.int .i64 n)] (by rw [towpathref01_Int_eq]; exact h)

def frame_four (n : Int) : Prog :=
.act (Instr.buildSlice T.s_uint8 4 #[(0, .int .u8 (IntKind.wrap .u8 n)), (1, .int .u8 (IntKind.wrap .u8 (Int.fdiv n 256))), (2, .int .u8 (IntKind.wrap .u8 (Int.fdiv n 65536))), (3, .int .u8 (IntKind.wrap .u8 (Int.fdiv n 16777216)))]) sL (u1 fun l0 =>
.done 0 [l0.v])
theorem frame_four_eq (n : Int) : decomp P 15 ⟨okFs, []⟩ { cnd := [], blk := [], reg := [], lps := [] } [.tmp 2] (bodyOf Go.Proofs.Try.f79) [.val (.int .u32 n)] = frame_four n := by kernel_rfl
theorem frame_four_calls (n : Int) {w : World} {R : List Value → World → Prop} (h : (frame_four n).wp P (fun _ => True) w fun e vs w' => e = 0 ∧ R vs w') :
    Calls P F.frame_four #[.int .u32 n] w fun e w' => ∃ vs, e = .returned (pack vs) ∧ R vs w' :=
  decomp_sound (isFn_of Go.Proofs.Try.func79 (by kernel_rfl) (by kernel_rfl) (by kernel_rfl)) okFs_ok mix [.val (.int .u32 n)] (by rw [frame_four_eq]; exact h)

def frame_Sum (parts : Sl) : Prog :=
.call F.frame_More [.int .u32 0, parts.v] (sI .u32) (u1 fun (n0 : Int) =>
.lt (.int .u32) (n0) fun (n1 : Int) =>
.done 0 [.int .u32 n1])
theorem frame_Sum_eq (parts : Sl) : decomp P 5 ⟨okFs, []⟩ { cnd := [], blk := [], reg := [], lps := [] } [.tmp 2] (bodyOf Go.Proofs.Try.f80) [.val (.slice parts.a parts.len parts.cap)] = frame_Sum parts := by kernel_rfl
theorem frame_Sum_calls (parts : Sl) {w : World} {R : List Value → World → Prop} (h : (frame_Sum parts).wp P (fun _ => True) w fun e vs w' => e = 0 ∧ R vs w') :
    Calls P F.frame_Sum #[.slice parts.a parts.len parts.cap] w fun e w' => ∃ vs, e = .returned (pack vs) ∧ R vs w' :=
  decomp_sound (isFn_of Go.Proofs.Try.func80 (by kernel_rfl) (by kernel_rfl) (by kernel_rfl)) okFs_ok mix [.val (.slice parts.a parts.len parts.cap)] (by rw [frame_Sum_eq]; exact h)

def frame_number (b : Sl) : Prog :=
.tick <|
.ex [.adr] (c1 fun a0 => (0 : Int) ≤ 0 ∧ 0 < ((b.len : Nat) : Int) ∧ b.a = some a0) (u1 fun a1 =>
.read True (ld T.uint8 (Addr.add a1 0)) (sI .u8) (u1 fun (n2 : Int) =>
.ex [.adr] (c1 fun a3 => (0 : Int) ≤ 1 ∧ 1 < ((b.len : Nat) : Int) ∧ b.a = some a3) (u1 fun a4 =>
.read True (ld T.uint8 (Addr.add a4 1)) (sI .u8) (u1 fun (n5 : Int) =>
.ex [.adr] (c1 fun a6 => (0 : Int) ≤ 2 ∧ 2 < ((b.len : Nat) : Int) ∧ b.a = some a6) (u1 fun a7 =>
.read True (ld T.uint8 (Addr.add a7 2)) (sI .u8) (u1 fun (n8 : Int) =>
.ex [.adr] (c1 fun a9 => (0 : Int) ≤ 3 ∧ 3 < ((b.len : Nat) : Int) ∧ b.a = some a9) (u1 fun a10 =>
.read True (ld T.uint8 (Addr.add a10 3)) (sI .u8) (u1 fun (n11 : Int) =>
.lt (.int .u32) (IntKind.wrap .u32 (((BitVec.toNat (BitVec.ofInt 32 (IntKind.wrap .u32 (((BitVec.toNat (BitVec.ofInt 32 (IntKind.wrap .u32 (((BitVec.toNat (BitVec.ofInt 32 (IntKind.wrap .u32 n2) ||| BitVec.ofInt 32 (IntKind.wrap .u32 (IntKind.wrap .u32 n5 * 256))) : Nat) : Int))) ||| BitVec.ofInt 32 (IntKind.wrap .u32 (IntKind.wrap .u32 n8 * 65536))) : Nat) : Int))) ||| BitVec.ofInt 32 (IntKind.wrap .u32 (IntKind.wrap .u32 n11 * 16777216))) : Nat) : Int))) fun (n12 : Int) =>
.untick <|
.done 0 [.int .u32 n12]))))))))
theorem frame_number_eq (b : Sl) : decomp P 25 ⟨okFs, []⟩ { cnd := [], blk := [], reg := [], lps := [] } [.tmp 2] (bodyOf Go.Proofs.Try.f92) [.val (.slice b.a b.len b.cap)] = frame_number b := by kernel_rfl
theorem frame_number_calls (b : Sl) {w : World} {R : List Value → World → Prop} (h : (frame_number b).wp P (fun _ => True) w fun e vs w' => e = 0 ∧ R vs w') :
    Calls P F.frame_number #[.slice b.a b.len b.cap] w fun e w' => ∃ vs, e = .returned (pack vs) ∧ R vs w' :=
  decomp_sound (isFn_of Go.Proofs.Try.func92 (by kernel_rfl) (by kernel_rfl) (by kernel_rfl)) okFs_ok mix [.val (.slice b.a b.len b.cap)] (by rw [frame_number_eq]; exact h)

def wire_place_uint (p : Option Addr) : Prog :=
.bind 1 [] (
.loop 2 [.one (.int .u64), .one (.int .i64)] (0, (0, ())) (u2 fun (n0 : Int) (n1 : Int) =>
.ite (decide (n1 < 10)) (
.call F.wire_place_left [.pointer p] (sI .i64) (u1 fun (n2 : Int) =>
.ite (decide (n1 ≥ n2)) (
.done 1 []) (
.tick <|
.ex [.adr] (c1 fun a3 => p = some a3) (u1 fun a4 =>
.read True (ld T.s_uint8 (Addr.add a4 0)) sL (u1 fun l5 =>
.ex [.adr] (c1 fun a6 => p = some a6) (u1 fun a7 =>
.read True (ld T.int (Addr.add a7 1)) (sI .i64) (u1 fun (n8 : Int) =>
.ex [.adr] (c1 fun a9 => 0 ≤ IntKind.wrap .i64 (n8 + n1) ∧ IntKind.wrap .i64 (n8 + n1) < ((l5.len : Nat) : Int) ∧ l5.a = some a9) (u1 fun a10 =>
.read True (ld T.uint8 (Addr.add a10 (Int.toNat (IntKind.wrap .i64 (n8 + n1)) * 1))) (sI .u8) (u1 fun (n11 : Int) =>
.lt (.int .u8) (n11) fun (n12 : Int) =>
.untick <|
.ite (n1 == 9 && decide (n12 > 1)) (
.done 1 []) (
.must (0 ≤ IntKind.wrap .i64 (7 * n1)) <|
.lt (.int .u64) (IntKind.wrap .u64 (((BitVec.toNat (BitVec.ofInt 64 n0 ||| BitVec.ofInt 64 (IntKind.wrap .u64 (IntKind.wrap .u64 (IntKind.wrap .u8 (((BitVec.toNat (BitVec.ofInt 8 n12 &&& BitVec.ofInt 8 127) : Nat) : Int))) * 2 ^ min (Int.toNat (IntKind.wrap .i64 (7 * n1))) 64))) : Nat) : Int))) fun (n13 : Int) =>
.ite (decide (n12 ≥ 128)) (
.lt (.int .i64) (IntKind.wrap .i64 (n1 + 1)) fun (n14 : Int) =>
.done 2 [.int .u64 n13, .int .i64 n14]) (
.ite (n12 == 0 && decide (n1 > 0)) (
.done 1 []) (
.ex [.adr] (c1 fun a15 => p = some a15) (u1 fun a16 =>
.read True (ld T.int (Addr.add a16 1)) (sI .i64) (u1 fun (n17 : Int) =>
.ex [.adr] (c1 fun a18 => p = some a18) (u1 fun a19 =>
.actU (st T.int (Addr.add a19 1) (.int .i64 (IntKind.wrap .i64 (n17 + IntKind.wrap .i64 (n1 + 1))))) <|
.lt (.int .u64) (n13) fun (n20 : Int) =>
.done 0 [.int .u64 n20]))))))))))))))) (
.done 1 []))) (u0 <|
.call F.wire_place_fail [.pointer p, .int .i64 6] (.tup []) (u0 <|
.done 0 [.int .u64 0]))
theorem wire_place_uint_eq (p : Option Addr) : decomp P 60 ⟨okFs, []⟩ { cnd := [], blk := [(0, [])], reg := [], lps := [(0, [(3, .one (.int .u64)), (4, .one (.int .i64))])] } [.tmp 2] (bodyOf Go.Proofs.Try.f93) [.val (.pointer p)] = wire_place_uint p := by kernel_rfl
theorem wire_place_uint_calls (p : Option Addr) {w : World} {R : List Value → World → Prop} (h : (wire_place_uint p).wp P (fun _ => True) w fun e vs w' => e = 0 ∧ R vs w') :
    Calls P F.wire_place_uint #[.pointer p] w fun e w' => ∃ vs, e = .returned (pack vs) ∧ R vs w' :=
  decomp_sound (isFn_of Go.Proofs.Try.func93 (by kernel_rfl) (by kernel_rfl) (by kernel_rfl)) okFs_ok mix [.val (.pointer p)] (by rw [wire_place_uint_eq]; exact h)

def frame_More (sum : Int) (parts : Sl) : Prog :=
.lt (.int .u32) (IntKind.wrap .u32 (((BitVec.toNat (BitVec.ofInt 32 4294967295 ^^^ BitVec.ofInt 32 sum) : Nat) : Int))) fun (n0 : Int) =>
.bind 1 [.one (.int .u32)] (
.loop 2 [.one (.int .u32), .one (.int .i64)] (n0, (0, ())) (u2 fun (n1 : Int) (n2 : Int) =>
.ite (decide (n2 < ((parts.len : Nat) : Int))) (
.bind 3 [.one (.int .u32)] (
.ex [.adr] (c1 fun a3 => 0 ≤ n2 ∧ n2 < ((parts.len : Nat) : Int) ∧ parts.a = some a3) (u1 fun a4 =>
.read True (ld T.s_uint8 (Addr.add a4 (Int.toNat n2 * 1))) sL (u1 fun l5 =>
.bind 4 [.one (.int .u32)] (
.loop 5 [.one (.int .u32), .one (.int .i64)] (n1, (0, ())) (u2 fun (n6 : Int) (n7 : Int) =>
.ite (decide (n7 < ((l5.len : Nat) : Int))) (
.bind 6 [.one (.int .u32)] (
.ex [.adr] (c1 fun a8 => 0 ≤ n7 ∧ n7 < ((l5.len : Nat) : Int) ∧ l5.a = some a8) (u1 fun a9 =>
.read True (ld T.uint8 (Addr.add a9 (Int.toNat n7 * 1))) (sI .u8) (u1 fun (n10 : Int) =>
.lt (.int .u8) (n10) fun (n11 : Int) =>
.lt (.int .u32) (IntKind.wrap .u32 (((BitVec.toNat (BitVec.ofInt 32 n6 ^^^ BitVec.ofInt 32 (IntKind.wrap .u32 n11)) : Nat) : Int))) fun (n12 : Int) =>
.bind 7 [.one (.int .u32)] (
.loop 8 [.one (.int .u32), .one (.int .i64)] (n12, (0, ())) (u2 fun (n13 : Int) (n14 : Int) =>
.ite (decide (n14 < 8)) (
.lt (.int .u32) (IntKind.wrap .u32 (((BitVec.toNat (BitVec.ofInt 32 (Int.fdiv n13 2) ^^^ BitVec.ofInt 32 (IntKind.wrap .u32 (((BitVec.toNat (BitVec.ofInt 32 3988292384 &&& BitVec.ofInt 32 (IntKind.wrap .u32 (0 - IntKind.wrap .u32 (((BitVec.toNat (BitVec.ofInt 32 n13 &&& BitVec.ofInt 32 1) : Nat) : Int))))) : Nat) : Int)))) : Nat) : Int))) fun (n15 : Int) =>
.done 8 [.int .u32 n15, .int .i64 (IntKind.wrap .i64 (n14 + 1))]) (
.done 7 [.int .u32 n13]))) (u1 fun (n16 : Int) =>
.done 6 [.int .u32 n16])))) (u1 fun (n17 : Int) =>
.done 5 [.int .u32 n17, .int .i64 (IntKind.wrap .i64 (n7 + 1))])) (
.done 4 [.int .u32 n6]))) (u1 fun (n18 : Int) =>
.done 3 [.int .u32 n18])))) (u1 fun (n19 : Int) =>
.done 2 [.int .u32 n19, .int .i64 (IntKind.wrap .i64 (n2 + 1))])) (
.done 1 [.int .u32 n1]))) (u1 fun (n20 : Int) =>
.lt (.int .u32) (IntKind.wrap .u32 (((BitVec.toNat (BitVec.ofInt 32 4294967295 ^^^ BitVec.ofInt 32 n20) : Nat) : Int))) fun (n21 : Int) =>
.done 0 [.int .u32 n21])
theorem frame_More_eq (sum : Int) (parts : Sl) : decomp P 42 ⟨okFs, []⟩ { cnd := [], blk := [(0, [(5, .one (.int .u32))]), (1, [(5, .one (.int .u32))]), (2, [(5, .one (.int .u32))]), (3, [(5, .one (.int .u32))]), (4, [(5, .one (.int .u32))])], reg := [], lps := [(0, [(5, .one (.int .u32)), (14, .one (.int .i64))]), (2, [(5, .one (.int .u32)), (20, .one (.int .i64))]), (4, [(5, .one (.int .u32)), (28, .one (.int .i64))])] } [.tmp 4] (bodyOf Go.Proofs.Try.f104) [.val (.int .u32 sum), .val (.slice parts.a parts.len parts.cap)] = frame_More sum parts := by kernel_rfl
theorem frame_More_calls (sum : Int) (parts : Sl) {w : World} {R : List Value → World → Prop} (h : (frame_More sum parts).wp P (fun _ => True) w fun e vs w' => e = 0 ∧ R vs w') :
    Calls P F.frame_More #[.int .u32 sum, .slice parts.a parts.len parts.cap] w fun e w' => ∃ vs, e = .returned (pack vs) ∧ R vs w' :=
  decomp_sound (isFn_of Go.Proofs.Try.func104 (by kernel_rfl) (by kernel_rfl) (by kernel_rfl)) okFs_ok mix [.val (.int .u32 sum), .val (.slice parts.a parts.len parts.cap)] (by rw [frame_More_eq]; exact h)
end Go.Dec
