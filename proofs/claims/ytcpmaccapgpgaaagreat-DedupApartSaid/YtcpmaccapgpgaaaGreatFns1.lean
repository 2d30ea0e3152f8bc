/- Functions of this seat, decompiled by a program of ours; each is held to the code by the kernel. -/
import Derived.Test.YtcpmaccapgpgaaaGreatNames
namespace Go.Dec
set_option linter.unusedVariables false

def towpathlaw07_DedupPlays (most : Int) (l : Sl) : Prog :=
.call F.towpathlaw07_some [.int .i64 most] (sI .i64) (u1 fun (n0 : Int) =>
.lt (.int .i64) (n0) fun (n1 : Int) =>
.call F.dedup_New [.int .i64 n1] (.tup [.one .ptr, .one (.int .i64)]) (u2 fun p2 (n3 : Int) =>
.lt (.int .i64) (n3) fun (n4 : Int) =>
.act (Instr.box T.towpathref07_Table (.agg #[.int .i64 n1, .int .i64 0, .slice none 0 0])) sA (u1 fun a5 =>
.bind 1 [.one .bool] (
.ite (n4 == 0) (
.call F.towpathlaw07_same [.pointer p2, .pointer (some a5)] sB (u1 fun b6 =>
.lt (.bool) (b6) fun b7 =>
.done 1 [.bool b7])) (
.done 1 [.bool false])) (u1 fun b8 =>
.bind 1 [.one .bool] (
.loop 2 [.one .ptr, .one .bool, .one (.int .i64)] (p2, (b8, (0, ()))) (u3 fun p9 b10 (n11 : Int) =>
.ite (decide (n11 < ((l.len : Nat) : Int))) (
.ex [.adr] (c1 fun a12 => 0 ≤ n11 ∧ n11 < ((l.len : Nat) : Int) ∧ l.a = some a12) (u1 fun a13 =>
.read True (ld T.towpathlaw07_Op (Addr.add a13 (Int.toNat n11 * 10))) (sG [.int .i64, .int .i64, .int .i64, .int .i64, .int .i64, .int .i64, .int .i64, .slc, .bool, .int .i64]) (u10 fun (n14 : Int) (n15 : Int) (n16 : Int) (n17 : Int) (n18 : Int) (n19 : Int) (n20 : Int) l21 b22 (n23 : Int) =>
.act (new T.towpathlaw07_Op) sA (u1 fun a24 =>
.lt (.int .i64) (n11) fun (n25 : Int) =>
.actU (st T.towpathlaw07_Op a24 (.agg #[.int .i64 n14, .int .i64 n15, .int .i64 n16, .int .i64 n17, .int .i64 n18, .int .i64 n19, .int .i64 n20, l21.v, .bool b22, .int .i64 n23])) <|
.ite (decide (n25 ≥ 60) || not b10) (
.done 1 [.bool b10]) (
.read True (ld T.towpathlaw07_Op a24) (sG [.int .i64, .int .i64, .int .i64, .int .i64, .int .i64, .int .i64, .int .i64, .slc, .bool, .int .i64]) (u10 fun (n26 : Int) (n27 : Int) (n28 : Int) (n29 : Int) (n30 : Int) (n31 : Int) (n32 : Int) l33 b34 (n35 : Int) =>
.call F.towpathlaw07_step [.pointer p9, .pointer (some a5), .agg #[.int .i64 n26, .int .i64 n27, .int .i64 n28, .int .i64 n29, .int .i64 n30, .int .i64 n31, .int .i64 n32, l33.v, .bool b34, .int .i64 n35]] (.tup [.one .ptr, .one .bool]) (u2 fun p36 b37 =>
.lt (.bool) (b37) fun b38 =>
.bind 3 [.one .bool] (
.ite (b38) (
.call F.towpathlaw07_same [.pointer p36, .pointer (some a5)] sB (u1 fun b39 =>
.lt (.bool) (b39) fun b40 =>
.done 3 [.bool b40])) (
.done 3 [.bool false])) (u1 fun b41 =>
.done 2 [.pointer p36, .bool b41, .int .i64 (IntKind.wrap .i64 (n11 + 1))])))))))) (
.done 1 [.bool b10]))) (u1 fun b42 =>
.bind 1 [.one .bool] (
.ite (b42) (
.call F.towpathlaw07_awake [] sB (u1 fun b43 =>
.lt (.bool) (b43) fun b44 =>
.done 1 [.bool b44])) (
.done 1 [.bool false])) (u1 fun b45 =>
.done 0 [.bool b45]))))))
theorem towpathlaw07_DedupPlays_eq (most : Int) (l : Sl) : decomp P 59 ⟨okFs, []⟩ { cnd := [], blk := [(0, [(8, .one .bool)])], reg := [(4, [(8, .one .bool)]), (10, [(8, .one .bool)]), (12, [(4, .one .bool)])], lps := [(0, [(5, .one .ptr), (8, .one .bool), (30, .one (.int .i64))])] } [.tmp 4] (bodyOf Go.Proofs.Tryz.f3) [.val (.int .i64 most), .val (.slice l.a l.len l.cap)] = towpathlaw07_DedupPlays most l := by kernel_rfl
theorem towpathlaw07_DedupPlays_calls (most : Int) (l : Sl) {w : World} {R : List Value → World → Prop} (h : (towpathlaw07_DedupPlays most l).wp P (fun _ => True) w fun e vs w' => e = 0 ∧ R vs w') :
    Calls P F.towpathlaw07_DedupPlays #[.int .i64 most, .slice l.a l.len l.cap] w fun e w' => ∃ vs, e = .returned (pack vs) ∧ R vs w' :=
  decomp_sound (isFn_of Go.Proofs.Tryz.func3 (by kernel_rfl) (by kernel_rfl) (by kernel_rfl)) okFs_ok mix [.val (.int .i64 most), .val (.slice l.a l.len l.cap)] (by rw [towpathlaw07_DedupPlays_eq]; exact h)

def towpathlaw07_DedupApart (l : Sl) (on : Sl) (off : Sl) : Prog :=
.call F.dedup_New [.int .i64 6] (.tup [.one .ptr, .one (.int .i64)]) (u2 fun p0 (n1 : Int) =>
.lt (.int .i64) (n1) fun (n2 : Int) =>
.act (Instr.box T.towpathref07_Table (.agg #[.int .i64 6, .int .i64 0, .slice none 0 0])) sA (u1 fun a3 =>
.lt (.bool) (n2 == 0) fun b4 =>
.bind 1 [.one .ptr, .one .bool] (
.loop 2 [.one .ptr, .one .bool, .one (.int .i64)] (p0, (b4, (0, ()))) (u3 fun p5 b6 (n7 : Int) =>
.ite (decide (n7 < ((l.len : Nat) : Int)) && decide (n7 < 20) && b6) (
.ex [.adr] (c1 fun a8 => 0 ≤ n7 ∧ n7 < ((l.len : Nat) : Int) ∧ l.a = some a8) (u1 fun a9 =>
.read True (ld T.towpathlaw07_Op (Addr.add a9 (Int.toNat n7 * 10))) (sG [.int .i64, .int .i64, .int .i64, .int .i64, .int .i64, .int .i64, .int .i64, .slc, .bool, .int .i64]) (u10 fun (n10 : Int) (n11 : Int) (n12 : Int) (n13 : Int) (n14 : Int) (n15 : Int) (n16 : Int) l17 b18 (n19 : Int) =>
.call F.towpathlaw07_step [.pointer p5, .pointer (some a3), .agg #[.int .i64 n10, .int .i64 n11, .int .i64 n12, .int .i64 n13, .int .i64 n14, .int .i64 n15, .int .i64 n16, l17.v, .bool b18, .int .i64 n19]] (.tup [.one .ptr, .one .bool]) (u2 fun p20 b21 =>
.lt (.bool) (b21) fun b22 =>
.lt (.int .i64) (IntKind.wrap .i64 (n7 + 1)) fun (n23 : Int) =>
.done 2 [.pointer p20, .bool b22, .int .i64 n23])))) (
.done 1 [.pointer p5, .bool b6]))) (u2 fun p24 b25 =>
.ite (not b25) (
.done 0 [.bool false]) (
.call F.dedup_Table_Copy [.pointer p24] sP (u1 fun p26 =>
.call F.towpathref07_Table_Copy [.pointer (some a3)] sP (u1 fun p27 =>
.bind 1 [.one .bool] (
.loop 2 [.one .ptr, .one .bool, .one .ptr, .one (.int .i64)] (p24, (b25, (p26, (0, ())))) (u4 fun p28 b29 p30 (n31 : Int) =>
.ite (decide (n31 < 20) && b29) (
.bind 3 [.one .ptr, .one .bool] (
.ite (decide (n31 < ((on.len : Nat) : Int))) (
.ex [.adr] (c1 fun a32 => 0 ≤ n31 ∧ n31 < ((on.len : Nat) : Int) ∧ on.a = some a32) (u1 fun a33 =>
.read True (ld T.towpathlaw07_Op (Addr.add a33 (Int.toNat n31 * 10))) (sG [.int .i64, .int .i64, .int .i64, .int .i64, .int .i64, .int .i64, .int .i64, .slc, .bool, .int .i64]) (u10 fun (n34 : Int) (n35 : Int) (n36 : Int) (n37 : Int) (n38 : Int) (n39 : Int) (n40 : Int) l41 b42 (n43 : Int) =>
.call F.towpathlaw07_step [.pointer p28, .pointer (some a3), .agg #[.int .i64 n34, .int .i64 n35, .int .i64 n36, .int .i64 n37, .int .i64 n38, .int .i64 n39, .int .i64 n40, l41.v, .bool b42, .int .i64 n43]] (.tup [.one .ptr, .one .bool]) (u2 fun p44 b45 =>
.lt (.bool) (b45) fun b46 =>
.done 3 [.pointer p44, .bool b46])))) (
.done 3 [.pointer p28, .bool b29])) (u2 fun p47 b48 =>
.bind 3 [.one .bool, .one .ptr] (
.ite (b48 && decide (n31 < ((off.len : Nat) : Int))) (
.ex [.adr] (c1 fun a49 => 0 ≤ n31 ∧ n31 < ((off.len : Nat) : Int) ∧ off.a = some a49) (u1 fun a50 =>
.read True (ld T.towpathlaw07_Op (Addr.add a50 (Int.toNat n31 * 10))) (sG [.int .i64, .int .i64, .int .i64, .int .i64, .int .i64, .int .i64, .int .i64, .slc, .bool, .int .i64]) (u10 fun (n51 : Int) (n52 : Int) (n53 : Int) (n54 : Int) (n55 : Int) (n56 : Int) (n57 : Int) l58 b59 (n60 : Int) =>
.call F.towpathlaw07_step [.pointer p30, .pointer p27, .agg #[.int .i64 n51, .int .i64 n52, .int .i64 n53, .int .i64 n54, .int .i64 n55, .int .i64 n56, .int .i64 n57, l58.v, .bool b59, .int .i64 n60]] (.tup [.one .ptr, .one .bool]) (u2 fun p61 b62 =>
.lt (.bool) (b62) fun b63 =>
.done 3 [.bool b63, .pointer p61])))) (
.done 3 [.bool b48, .pointer p30])) (u2 fun b64 p65 =>
.bind 3 [.one .bool] (
.ite (b64) (
.call F.towpathlaw07_same [.pointer p47, .pointer (some a3)] sB (u1 fun b66 =>
.ite (b66) (
.call F.towpathlaw07_same [.pointer p65, .pointer p27] sB (u1 fun b67 =>
.lt (.bool) (b67) fun b68 =>
.done 3 [.bool b68])) (
.done 3 [.bool false]))) (
.done 3 [.bool false])) (u1 fun b69 =>
.lt (.int .i64) (IntKind.wrap .i64 (n31 + 1)) fun (n70 : Int) =>
.done 2 [.pointer p47, .bool b69, .pointer p65, .int .i64 n70])))) (
.done 1 [.bool b29]))) (u1 fun b71 =>
.bind 1 [.one .bool] (
.ite (b71) (
.call F.towpathlaw07_awake [] sB (u1 fun b72 =>
.lt (.bool) (b72) fun b73 =>
.done 1 [.bool b73])) (
.done 1 [.bool false])) (u1 fun b74 =>
.done 0 [.bool b74]))))))))
theorem towpathlaw07_DedupApart_eq (l : Sl) (on : Sl) (off : Sl) : decomp P 105 ⟨okFs, []⟩ { cnd := [(38647847295805176433606718, [(7, .one .ptr), (10, .one .bool)]), (5065650640755776084887237296207, [(10, .one .bool), (12, .one .ptr)])], blk := [(0, [(7, .one .ptr), (10, .one .bool)]), (2, [(10, .one .bool)])], reg := [(18, [(10, .one .bool)]), (19, [(6, .one .bool)])], lps := [(0, [(7, .one .ptr), (10, .one .bool), (11, .one (.int .i64))]), (2, [(7, .one .ptr), (10, .one .bool), (12, .one .ptr), (14, .one (.int .i64))])] } [.tmp 6] (bodyOf Go.Proofs.Tryz.f4) [.val (.slice l.a l.len l.cap), .val (.slice on.a on.len on.cap), .val (.slice off.a off.len off.cap)] = towpathlaw07_DedupApart l on off := by kernel_rfl
theorem towpathlaw07_DedupApart_calls (l : Sl) (on : Sl) (off : Sl) {w : World} {R : List Value → World → Prop} (h : (towpathlaw07_DedupApart l on off).wp P (fun _ => True) w fun e vs w' => e = 0 ∧ R vs w') :
    Calls P F.towpathlaw07_DedupApart #[.slice l.a l.len l.cap, .slice on.a on.len on.cap, .slice off.a off.len off.cap] w fun e w' => ∃ vs, e = .returned (pack vs) ∧ R vs w' :=
  decomp_sound (isFn_of Go.Proofs.Tryz.func4 (by kernel_rfl) (by kernel_rfl) (by kernel_rfl)) okFs_ok mix [.val (.slice l.a l.len l.cap), .val (.slice on.a on.len on.cap), .val (.slice off.a off.len off.cap)] (by rw [towpathlaw07_DedupApart_eq]; exact h)

def towpathlaw07_some (most : Int) : Prog :=
.lt (.int .i64) (Int.tmod most 6) fun (n0 : Int) =>
.bind 1 [.one (.int .i64)] (
.ite (decide (n0 < 0)) (
.lt (.int .i64) (IntKind.wrap .i64 (0 - n0)) fun (n1 : Int) =>
.done 1 [.int .i64 n1]) (
.done 1 [.int .i64 n0])) (u1 fun (n2 : Int) =>
.lt (.int .i64) (IntKind.wrap .i64 (n2 + 1)) fun (n3 : Int) =>
.done 0 [.int .i64 n3])
theorem towpathlaw07_some_eq (most : Int) : decomp P 11 ⟨okFs, []⟩ { cnd := [(1576966, [(0, .one (.int .i64))])], blk := [], reg := [], lps := [] } [.tmp 2] (bodyOf Go.Proofs.Tryz.f5) [.val (.int .i64 most)] = towpathlaw07_some most := by kernel_rfl
theorem towpathlaw07_some_calls (most : Int) {w : World} {R : List Value → World → Prop} (h : (towpathlaw07_some most).wp P (fun _ => True) w fun e vs w' => e = 0 ∧ R vs w') :
    Calls P F.towpathlaw07_some #[.int .i64 most] w fun e w' => ∃ vs, e = .returned (pack vs) ∧ R vs w' :=
  decomp_sound (isFn_of Go.Proofs.Tryz.func5 (by kernel_rfl) (by kernel_rfl) (by kernel_rfl)) okFs_ok mix [.val (.int .i64 most)] (by rw [towpathlaw07_some_eq]; exact h)

def towpathlaw07_same (t : Option Addr) (r : Option Addr) : Prog :=
.bind 1 [.one .bool] (
.tick <|
.ex [.adr] (c1 fun a0 => Option.isNone t = false → r = some a0) (u1 fun a1 =>
.hold (Option.isNone t = false) (ld T.s_towpathref07_Row (Addr.add a1 2)) sL (u1 fun l2 =>
.ite (Option.isNone t) (
.untick <|
.untick <|
.done 1 [.bool true]) (
.call F.dedup_Table_Rows [.pointer t] sL (u1 fun l3 =>
.untick <|
.call F.towpathlaw07_rows [l3.v, l2.v] sB (u1 fun b4 =>
.ite (not b4) (
.untick <|
.done 1 [.bool true]) (
.call F.dedup_Table_Open [.pointer t] sL (u1 fun l5 =>
.call F.towpathref07_Table_Open [.pointer r] sL (u1 fun l6 =>
.call F.towpathlaw07_rows [l5.v, l6.v] sB (u1 fun b7 =>
.ite (not b7) (
.untick <|
.done 1 [.bool true]) (
.call F.dedup_Table_Stable [.pointer t] (sI .i64) (u1 fun (n8 : Int) =>
.call F.towpathref07_Table_Stable [.pointer r] (sI .i64) (u1 fun (n9 : Int) =>
.ex [.adr] (c1 fun a10 => (n8 != n9) = false → r = some a10) (u1 fun a11 =>
.hold ((n8 != n9) = false) (ld T.int64 (Addr.add a11 1)) (sI .i64) (u1 fun (n12 : Int) =>
.ite (n8 != n9) (
.untick <|
.done 1 [.bool true]) (
.call F.dedup_Table_Next [.pointer t] (sI .i64) (u1 fun (n13 : Int) =>
.untick <|
.done 1 [.bool (n13 != n12)]))))))))))))))))) (u1 fun b14 =>
.ite (b14) (
.done 0 [.bool false]) (
.ex [.adr] (c1 fun a15 => r = some a15) (u1 fun a16 =>
.read True (ld T.s_towpathref07_Row (Addr.add a16 2)) sL (u1 fun l17 =>
.bind 1 [] (
.loop 2 [.one (.int .i64)] (0, ()) (u1 fun (n18 : Int) =>
.ite (decide (n18 < ((l17.len : Nat) : Int))) (
.ex [.adr] (c1 fun a19 => 0 ≤ n18 ∧ n18 < ((l17.len : Nat) : Int) ∧ l17.a = some a19) (u1 fun a20 =>
.read True (ld T.towpathref07_Row (Addr.add a20 (Int.toNat n18 * 7))) (sG [.int .i64, .int .i64, .int .i64, .int .i64, .int .i64, .int .i64, .int .i64]) (u7 fun (n21 : Int) (n22 : Int) (n23 : Int) (n24 : Int) (n25 : Int) (n26 : Int) (n27 : Int) =>
.act (new T.towpathref07_Row) sA (u1 fun a28 =>
.actU (st T.towpathref07_Row a28 (.agg #[.int .i64 n21, .int .i64 n22, .int .i64 n23, .int .i64 n24, .int .i64 n25, .int .i64 n26, .int .i64 n27])) <|
.read True (ld T.int64 (Addr.add a28 0)) (sI .i64) (u1 fun (n29 : Int) =>
.call F.dedup_Table_Row [.pointer t, .int .i64 n29] (.tup [.agg [.int .i64, .int .i64, .int .i64, .int .i64, .int .i64, .int .i64, .int .i64], .one .bool]) (u8 fun (n30 : Int) (n31 : Int) (n32 : Int) (n33 : Int) (n34 : Int) (n35 : Int) (n36 : Int) b37 =>
.act (new T.dedup_Row) sA (u1 fun a38 =>
.actU (st T.dedup_Row a38 (.agg #[.int .i64 n30, .int .i64 n31, .int .i64 n32, .int .i64 n33, .int .i64 n34, .int .i64 n35, .int .i64 n36])) <|
.lt (.bool) (b37) fun b39 =>
.bind 3 [.one .bool] (
.read (not b39 = false) (ld T.dedup_Row a38) (sG [.int .i64, .int .i64, .int .i64, .int .i64, .int .i64, .int .i64, .int .i64]) (u7 fun (n40 : Int) (n41 : Int) (n42 : Int) (n43 : Int) (n44 : Int) (n45 : Int) (n46 : Int) =>
.read (not b39 = false) (ld T.towpathref07_Row a28) (sG [.int .i64, .int .i64, .int .i64, .int .i64, .int .i64, .int .i64, .int .i64]) (u7 fun (n47 : Int) (n48 : Int) (n49 : Int) (n50 : Int) (n51 : Int) (n52 : Int) (n53 : Int) =>
.ite (not b39) (
.done 3 [.bool true]) (
.call F.towpathlaw07_alike [.agg #[.int .i64 n40, .int .i64 n41, .int .i64 n42, .int .i64 n43, .int .i64 n44, .int .i64 n45, .int .i64 n46], .agg #[.int .i64 n47, .int .i64 n48, .int .i64 n49, .int .i64 n50, .int .i64 n51, .int .i64 n52, .int .i64 n53]] sB (u1 fun b54 =>
.done 3 [.bool (not b54)]))))) (u1 fun b55 =>
.ite (b55) (
.done 0 [.bool false]) (
.done 2 [.int .i64 (IntKind.wrap .i64 (n18 + 1))]))))))))) (
.done 1 []))) (u0 <|
.call F.dedup_Table_Row [.pointer t, .int .i64 (-3)] (.tup [.agg [.int .i64, .int .i64, .int .i64, .int .i64, .int .i64, .int .i64, .int .i64], .one .bool]) (u8 fun (n56 : Int) (n57 : Int) (n58 : Int) (n59 : Int) (n60 : Int) (n61 : Int) (n62 : Int) b63 =>
.act (new T.dedup_Row) sA (u1 fun a64 =>
.actU (st T.dedup_Row a64 (.agg #[.int .i64 n56, .int .i64 n57, .int .i64 n58, .int .i64 n59, .int .i64 n60, .int .i64 n61, .int .i64 n62])) <|
.lt (.bool) (b63) fun b65 =>
.bind 1 [.one .bool] (
.tick <|
.ite (not b65) (
.call F.dedup_Table_Bytes [.pointer t] sL (u1 fun l66 =>
.hold True (convert T.s_uint8 T.string l66.v) sS (u1 fun s67 =>
.call F.towpathref07_Table_Bytes [.pointer r] sL (u1 fun l68 =>
.read True (convert T.s_uint8 T.string l68.v) sS (u1 fun s69 =>
.lt (.bool) (ByteArray.toList s67 == ByteArray.toList s69) fun b70 =>
.untick <|
.done 1 [.bool b70]))))) (
.untick <|
.done 1 [.bool false])) (u1 fun b71 =>
.done 0 [.bool b71]))))))))
theorem towpathlaw07_same_eq (t : Option Addr) (r : Option Addr) : decomp P 88 ⟨okFs, []⟩ { cnd := [], blk := [(0, [])], reg := [(1, [(46, .one .bool)]), (7, [(70, .one .bool)]), (11, [(4, .one .bool)])], lps := [(0, [(52, .one (.int .i64))])] } [.tmp 4] (bodyOf Go.Proofs.Tryz.f7) [.val (.pointer t), .val (.pointer r)] = towpathlaw07_same t r := by kernel_rfl
theorem towpathlaw07_same_calls (t : Option Addr) (r : Option Addr) {w : World} {R : List Value → World → Prop} (h : (towpathlaw07_same t r).wp P (fun _ => True) w fun e vs w' => e = 0 ∧ R vs w') :
    Calls P F.towpathlaw07_same #[.pointer t, .pointer r] w fun e w' => ∃ vs, e = .returned (pack vs) ∧ R vs w' :=
  decomp_sound (isFn_of Go.Proofs.Tryz.func7 (by kernel_rfl) (by kernel_rfl) (by kernel_rfl)) okFs_ok mix [.val (.pointer t), .val (.pointer r)] (by rw [towpathlaw07_same_eq]; exact h)

def towpathlaw07_step (t : Option Addr) (r : Option Addr) (o_0 : Int) (o_1 : Int) (o_2 : Int) (o_3 : Int) (o_4 : Int) (o_5 : Int) (o_6 : Int) (o_7 : Sl) (o_8 : Bool) (o_9 : Int) : Prog :=
.act (Instr.box T.towpathlaw07_Op (.agg #[.int .i64 o_0, .int .i64 o_1, .int .i64 o_2, .int .i64 o_3, .int .i64 o_4, .int .i64 o_5, .int .i64 o_6, o_7.v, .bool o_8, .int .i64 o_9])) sA (u1 fun a0 =>
.read True (ld T.int (Addr.add a0 0)) (sI .i64) (u1 fun (n1 : Int) =>
.bind 1 [] (
.lt (.bool) (n1 == 0) fun b2 =>
.bind 2 [.one .bool] (
.ite (b2) (
.done 2 [.bool b2]) (
.lt (.bool) (n1 == 1) fun b3 =>
.bind 3 [.one .bool] (
.ite (b3) (
.done 3 [.bool b3]) (
.lt (.bool) (n1 == 2) fun b4 =>
.bind 4 [.one .bool] (
.ite (b4) (
.done 4 [.bool b4]) (
.lt (.bool) (n1 == 3) fun b5 =>
.done 4 [.bool b5])) (u1 fun b6 =>
.done 3 [.bool b6]))) (u1 fun b7 =>
.done 2 [.bool b7]))) (u1 fun b8 =>
.ite (b8) (
.bind 2 [.one .adr] (
.tick <|
.hold True (ld T.towpathlaw07_Op a0) (sG [.int .i64, .int .i64, .int .i64, .int .i64, .int .i64, .int .i64, .int .i64, .slc, .bool, .int .i64]) (u10 fun (n9 : Int) (n10 : Int) (n11 : Int) (n12 : Int) (n13 : Int) (n14 : Int) (n15 : Int) l16 b17 (n18 : Int) =>
.ex [.adr] (c1 fun a19 => r = some a19) (u1 fun a20 =>
.hold True (ld T.int64 (Addr.add a20 1)) (sI .i64) (u1 fun (n21 : Int) =>
.both (
.untick <|
.call F.towpathlaw07_small [.agg #[.int .i64 n9, .int .i64 n10, .int .i64 n11, .int .i64 n12, .int .i64 n13, .int .i64 n14, .int .i64 n15, l16.v, .bool b17, .int .i64 n18], .int .i64 n21] (sG [.int .i64, .int .i64, .int .i64, .int .i64, .int .i64, .int .i64, .slc]) (u7 fun (n22 : Int) (n23 : Int) (n24 : Int) (n25 : Int) (n26 : Int) (n27 : Int) l28 =>
.act (new T.api_Batch) sA (u1 fun a29 =>
.actU (st T.api_Batch a29 (.agg #[.int .i64 n22, .int .i64 n23, .int .i64 n24, .int .i64 n25, .int .i64 n26, .int .i64 n27, l28.v])) <|
.untick <|
.done 2 [.pointer (some a29)]))) (
.act (new T.api_Batch) sA (u1 fun a30 =>
.untick <|
.call F.towpathlaw07_small [.agg #[.int .i64 n9, .int .i64 n10, .int .i64 n11, .int .i64 n12, .int .i64 n13, .int .i64 n14, .int .i64 n15, l16.v, .bool b17, .int .i64 n18], .int .i64 n21] (sG [.int .i64, .int .i64, .int .i64, .int .i64, .int .i64, .int .i64, .slc]) (u7 fun (n31 : Int) (n32 : Int) (n33 : Int) (n34 : Int) (n35 : Int) (n36 : Int) l37 =>
.actU (st T.api_Batch a30 (.agg #[.int .i64 n31, .int .i64 n32, .int .i64 n33, .int .i64 n34, .int .i64 n35, .int .i64 n36, l37.v])) <|
.untick <|
.done 2 [.pointer (some a30)]))))))) (u1 fun a38 =>
.bind 2 [.one .ptr, .one .bool] (
.tick <|
.read True (ld T.api_Batch a38) (sG [.int .i64, .int .i64, .int .i64, .int .i64, .int .i64, .int .i64, .slc]) (u7 fun (n39 : Int) (n40 : Int) (n41 : Int) (n42 : Int) (n43 : Int) (n44 : Int) l45 =>
.call F.towpathlaw07_judged [.pointer t, .pointer r, .agg #[.int .i64 n39, .int .i64 n40, .int .i64 n41, .int .i64 n42, .int .i64 n43, .int .i64 n44, l45.v]] sB (u1 fun b46 =>
.read (b46 = true) (ld T.api_Batch a38) (sG [.int .i64, .int .i64, .int .i64, .int .i64, .int .i64, .int .i64, .slc]) (u7 fun (n47 : Int) (n48 : Int) (n49 : Int) (n50 : Int) (n51 : Int) (n52 : Int) l53 =>
.hold (b46 = true) (ld T.api_Batch a38) (sG [.int .i64, .int .i64, .int .i64, .int .i64, .int .i64, .int .i64, .slc]) (u7 fun (n54 : Int) (n55 : Int) (n56 : Int) (n57 : Int) (n58 : Int) (n59 : Int) l60 =>
.ite (b46) (
.call F.dedup_Table_Take [.pointer t, .agg #[.int .i64 n47, .int .i64 n48, .int .i64 n49, .int .i64 n50, .int .i64 n51, .int .i64 n52, l53.v]] (sI .i64) (u1 fun (n61 : Int) =>
.untick <|
.call F.towpathref07_Table_Take [.pointer r, .agg #[.int .i64 n54, .int .i64 n55, .int .i64 n56, .int .i64 n57, .int .i64 n58, .int .i64 n59, l60.v]] (sI .i64) (u1 fun (n62 : Int) =>
.lt (.bool) (n61 == n62) fun b63 =>
.untick <|
.done 2 [.pointer t, .bool b63]))) (
.untick <|
.untick <|
.done 2 [.pointer t, .bool false])))))) (u2 fun p64 b65 =>
.done 0 [.pointer p64, .bool b65]))) (
.lt (.bool) (n1 == 4) fun b66 =>
.bind 2 [] (
.ite (b66) (
.bind 3 [.one .slc, .one .slc] (
.tick <|
.read True (ld T.int64 (Addr.add a0 9)) (sI .i64) (u1 fun (n67 : Int) =>
.hold True (ld T.int64 (Addr.add a0 9)) (sI .i64) (u1 fun (n68 : Int) =>
.call F.dedup_Table_Expire [.pointer t, .int .i64 n67] sL (u1 fun l69 =>
.untick <|
.call F.towpathref07_Table_Expire [.pointer r, .int .i64 n68] sL (u1 fun l70 =>
.untick <|
.done 3 [l69.v, l70.v]))))) (u2 fun l71 l72 =>
.ite (((l71.len : Nat) : Int) != ((l72.len : Nat) : Int)) (
.done 0 [.pointer t, .bool false]) (
.bind 3 [] (
.loop 4 [.one (.int .i64)] (0, ()) (u1 fun (n73 : Int) =>
.ite (decide (n73 < ((l71.len : Nat) : Int))) (
.lt (.int .i64) (n73) fun (n74 : Int) =>
.tick <|
.ex [.adr] (c1 fun a75 => 0 ≤ n74 ∧ n74 < ((l71.len : Nat) : Int) ∧ l71.a = some a75) (u1 fun a76 =>
.read True (ld T.int64 (Addr.add a76 (Int.toNat n74 * 1))) (sI .i64) (u1 fun (n77 : Int) =>
.ex [.adr] (c1 fun a78 => 0 ≤ n74 ∧ n74 < ((l72.len : Nat) : Int) ∧ l72.a = some a78) (u1 fun a79 =>
.read True (ld T.int64 (Addr.add a79 (Int.toNat n74 * 1))) (sI .i64) (u1 fun (n80 : Int) =>
.untick <|
.ite (n77 != n80) (
.done 0 [.pointer t, .bool false]) (
.done 4 [.int .i64 (IntKind.wrap .i64 (n73 + 1))])))))) (
.done 3 []))) (u0 <|
.done 2 [])))) (
.lt (.bool) (n1 == 5) fun b81 =>
.ite (b81) (
.bind 3 [.one .ptr, .one (.int .i64)] (
.tick <|
.ex [.adr] (c1 fun a82 => r = some a82) (u1 fun a83 =>
.hold True (ld T.int (Addr.add a83 0)) (sI .i64) (u1 fun (n84 : Int) =>
.call F.dedup_Table_Bytes [.pointer t] sL (u1 fun l85 =>
.untick <|
.call F.dedup_Load [l85.v, .int .i64 n84] (.tup [.one .ptr, .one (.int .i64)]) (u2 fun p86 (n87 : Int) =>
.lt (.int .i64) (n87) fun (n88 : Int) =>
.untick <|
.done 3 [.pointer p86, .int .i64 n88]))))) (u2 fun p89 (n90 : Int) =>
.lt (.bool) (n90 == 0 && not (Option.isNone p89)) fun b91 =>
.done 0 [.pointer p89, .bool b91])) (
.done 2 []))) (u0 <|
.done 1 [])))) (u0 <|
.done 0 [.pointer t, .bool true])))
theorem towpathlaw07_step_eq (t : Option Addr) (r : Option Addr) (o_0 : Int) (o_1 : Int) (o_2 : Int) (o_3 : Int) (o_4 : Int) (o_5 : Int) (o_6 : Int) (o_7 : Sl) (o_8 : Bool) (o_9 : Int) : decomp P 93 ⟨okFs, []⟩ { cnd := [(4563402768, [(16, .one .bool)]), (6710886416, [(16, .one .bool)]), (7784628240, [(16, .one .bool)]), (20282409603651634395150298120233, [])], blk := [(0, []), (1, [])], reg := [(6, [(8, .one .adr)]), (7, [(6, .one .ptr), (7, .one .bool)]), (9, [(9, .one .slc), (10, .one .slc)]), (19, [(12, .one .ptr), (13, .one (.int .i64))])], lps := [(1, [(59, .one (.int .i64))])] } [.tmp 6, .tmp 7] (bodyOf Go.Proofs.Tryz.f8) [.val (.pointer t), .val (.pointer r), .val (.agg #[.int .i64 o_0, .int .i64 o_1, .int .i64 o_2, .int .i64 o_3, .int .i64 o_4, .int .i64 o_5, .int .i64 o_6, .slice o_7.a o_7.len o_7.cap, .bool o_8, .int .i64 o_9])] = towpathlaw07_step t r o_0 o_1 o_2 o_3 o_4 o_5 o_6 o_7 o_8 o_9 := by kernel_rfl
theorem towpathlaw07_step_calls (t : Option Addr) (r : Option Addr) (o_0 : Int) (o_1 : Int) (o_2 : Int) (o_3 : Int) (o_4 : Int) (o_5 : Int) (o_6 : Int) (o_7 : Sl) (o_8 : Bool) (o_9 : Int) {w : World} {R : List Value → World → Prop} (h : (towpathlaw07_step t r o_0 o_1 o_2 o_3 o_4 o_5 o_6 o_7 o_8 o_9).wp P (fun _ => True) w fun e vs w' => e = 0 ∧ R vs w') :
    Calls P F.towpathlaw07_step #[.pointer t, .pointer r, .agg #[.int .i64 o_0, .int .i64 o_1, .int .i64 o_2, .int .i64 o_3, .int .i64 o_4, .int .i64 o_5, .int .i64 o_6, .slice o_7.a o_7.len o_7.cap, .bool o_8, .int .i64 o_9]] w fun e w' => ∃ vs, e = .returned (pack vs) ∧ R vs w' :=
  decomp_sound (isFn_of Go.Proofs.Tryz.func8 (by kernel_rfl) (by kernel_rfl) (by kernel_rfl)) okFs_ok mix [.val (.pointer t), .val (.pointer r), .val (.agg #[.int .i64 o_0, .int .i64 o_1, .int .i64 o_2, .int .i64 o_3, .int .i64 o_4, .int .i64 o_5, .int .i64 o_6, .slice o_7.a o_7.len o_7.cap, .bool o_8, .int .i64 o_9])] (by rw [towpathlaw07_step_eq]; exact h)

def dedup_Table_Copy (t : Option Addr) : Prog :=
.ite (Option.isNone t) (
.done 0 [.pointer none]) (
.bind 1 [.one .ptr] (
.tick <|
.ex [.adr] (c1 fun a0 => t = some a0) (u1 fun a1 =>
.hold True (ld T.int (Addr.add a1 0)) (sI .i64) (u1 fun (n2 : Int) =>
.ex [.adr] (c1 fun a3 => t = some a3) (u1 fun a4 =>
.hold True (ld T.int64 (Addr.add a4 1)) (sI .i64) (u1 fun (n5 : Int) =>
.ex [.adr] (c1 fun a6 => t = some a6) (u1 fun a7 =>
.read True (ld T.m_int64_dedup_Row (Addr.add a7 2)) sM (u1 fun m8 =>
.call F.maps_Clone_map_int64_dedup_Row_int64_dedup_Row [.map m8] sM (u1 fun m9 =>
.untick <|
.act (Instr.box T.dedup_Table (.agg #[.int .i64 n2, .int .i64 n5, .map m9])) sA (u1 fun a10 =>
.untick <|
.done 1 [.pointer (some a10)]))))))))) (u1 fun p11 =>
.done 0 [.pointer p11]))
theorem dedup_Table_Copy_eq (t : Option Addr) : decomp P 20 ⟨okFs, []⟩ { cnd := [], blk := [], reg := [(3, [(2, .one .ptr)])], lps := [] } [.tmp 2] (bodyOf Go.Proofs.Tryz.f10) [.val (.pointer t)] = dedup_Table_Copy t := by kernel_rfl
theorem dedup_Table_Copy_calls (t : Option Addr) {w : World} {R : List Value → World → Prop} (h : (dedup_Table_Copy t).wp P (fun _ => True) w fun e vs w' => e = 0 ∧ R vs w') :
    Calls P F.dedup_Table_Copy #[.pointer t] w fun e w' => ∃ vs, e = .returned (pack vs) ∧ R vs w' :=
  decomp_sound (isFn_of Go.Proofs.Tryz.func10 (by kernel_rfl) (by kernel_rfl) (by kernel_rfl)) okFs_ok mix [.val (.pointer t)] (by rw [dedup_Table_Copy_eq]; exact h)

def towpathref07_Table_Copy (t : Option Addr) : Prog :=
.tick <|
.ex [.adr] (c1 fun a0 => t = some a0) (u1 fun a1 =>
.read True (ld T.int (Addr.add a1 0)) (sI .i64) (u1 fun (n2 : Int) =>
.ex [.adr] (c1 fun a3 => t = some a3) (u1 fun a4 =>
.read True (ld T.int64 (Addr.add a4 1)) (sI .i64) (u1 fun (n5 : Int) =>
.act (Instr.box T.towpathref07_Table (.agg #[.int .i64 n2, .int .i64 n5, .slice none 0 0])) sA (u1 fun a6 =>
.untick <|
.bind 1 [] (
.tick <|
.read True (ld T.s_towpathref07_Row (Addr.add a6 2)) sL (u1 fun l7 =>
.ex [.adr] (c1 fun a8 => t = some a8) (u1 fun a9 =>
.read True (ld T.s_towpathref07_Row (Addr.add a9 2)) sL (u1 fun l10 =>
.act (app T.s_towpathref07_Row T.s_towpathref07_Row T.s_towpathref07_Row l7.v l10.v) sL (u1 fun l11 =>
.actU (st T.s_towpathref07_Row (Addr.add a6 2) l11.v) <|
.untick <|
.done 1 []))))) (u0 <|
.done 0 [.pointer (some a6)]))))))
theorem towpathref07_Table_Copy_eq (t : Option Addr) : decomp P 27 ⟨okFs, []⟩ { cnd := [], blk := [], reg := [(2, [])], lps := [] } [.tmp 2] (bodyOf Go.Proofs.Tryz.f11) [.val (.pointer t)] = towpathref07_Table_Copy t := by kernel_rfl
theorem towpathref07_Table_Copy_calls (t : Option Addr) {w : World} {R : List Value → World → Prop} (h : (towpathref07_Table_Copy t).wp P (fun _ => True) w fun e vs w' => e = 0 ∧ R vs w') :
    Calls P F.towpathref07_Table_Copy #[.pointer t] w fun e w' => ∃ vs, e = .returned (pack vs) ∧ R vs w' :=
  decomp_sound (isFn_of Go.Proofs.Tryz.func11 (by kernel_rfl) (by kernel_rfl) (by kernel_rfl)) okFs_ok mix [.val (.pointer t)] (by rw [towpathref07_Table_Copy_eq]; exact h)

def towpathlaw07_rows (a : Sl) (b : Sl) : Prog :=
.ite (((a.len : Nat) : Int) != ((b.len : Nat) : Int)) (
.done 0 [.bool false]) (
.bind 1 [] (
.loop 2 [.one (.int .i64)] (0, ()) (u1 fun (n0 : Int) =>
.ite (decide (n0 < ((a.len : Nat) : Int))) (
.lt (.int .i64) (n0) fun (n1 : Int) =>
.tick <|
.ex [.adr] (c1 fun a2 => 0 ≤ n1 ∧ n1 < ((a.len : Nat) : Int) ∧ a.a = some a2) (u1 fun a3 =>
.read True (ld T.dedup_Row (Addr.add a3 (Int.toNat n1 * 7))) (sG [.int .i64, .int .i64, .int .i64, .int .i64, .int .i64, .int .i64, .int .i64]) (u7 fun (n4 : Int) (n5 : Int) (n6 : Int) (n7 : Int) (n8 : Int) (n9 : Int) (n10 : Int) =>
.ex [.adr] (c1 fun a11 => 0 ≤ n1 ∧ n1 < ((b.len : Nat) : Int) ∧ b.a = some a11) (u1 fun a12 =>
.read True (ld T.towpathref07_Row (Addr.add a12 (Int.toNat n1 * 7))) (sG [.int .i64, .int .i64, .int .i64, .int .i64, .int .i64, .int .i64, .int .i64]) (u7 fun (n13 : Int) (n14 : Int) (n15 : Int) (n16 : Int) (n17 : Int) (n18 : Int) (n19 : Int) =>
.call F.towpathlaw07_alike [.agg #[.int .i64 n4, .int .i64 n5, .int .i64 n6, .int .i64 n7, .int .i64 n8, .int .i64 n9, .int .i64 n10], .agg #[.int .i64 n13, .int .i64 n14, .int .i64 n15, .int .i64 n16, .int .i64 n17, .int .i64 n18, .int .i64 n19]] sB (u1 fun b20 =>
.untick <|
.ite (not b20) (
.done 0 [.bool false]) (
.ex [.adr] (c1 fun a21 => 0 ≤ n1 ∧ n1 < ((a.len : Nat) : Int) ∧ a.a = some a21) (u1 fun a22 =>
.actU (st T.dedup_Row (Addr.add a22 (Int.toNat n1 * 7)) (.agg #[.int .i64 (-1), .int .i64 0, .int .i64 0, .int .i64 0, .int .i64 0, .int .i64 0, .int .i64 0])) <|
.done 2 [.int .i64 (IntKind.wrap .i64 (n0 + 1))])))))))) (
.done 1 []))) (u0 <|
.done 0 [.bool true]))
theorem towpathlaw07_rows_eq (a : Sl) (b : Sl) : decomp P 31 ⟨okFs, []⟩ { cnd := [], blk := [(0, [])], reg := [], lps := [(0, [(13, .one (.int .i64))])] } [.tmp 4] (bodyOf Go.Proofs.Tryz.f12) [.val (.slice a.a a.len a.cap), .val (.slice b.a b.len b.cap)] = towpathlaw07_rows a b := by kernel_rfl
theorem towpathlaw07_rows_calls (a : Sl) (b : Sl) {w : World} {R : List Value → World → Prop} (h : (towpathlaw07_rows a b).wp P (fun _ => True) w fun e vs w' => e = 0 ∧ R vs w') :
    Calls P F.towpathlaw07_rows #[.slice a.a a.len a.cap, .slice b.a b.len b.cap] w fun e w' => ∃ vs, e = .returned (pack vs) ∧ R vs w' :=
  decomp_sound (isFn_of Go.Proofs.Tryz.func12 (by kernel_rfl) (by kernel_rfl) (by kernel_rfl)) okFs_ok mix [.val (.slice a.a a.len a.cap), .val (.slice b.a b.len b.cap)] (by rw [towpathlaw07_rows_eq]; exact h)

def towpathref07_Table_Open (t : Option Addr) : Prog :=
.loop 1 [.one .slc, .one (.int .i64)] (⟨none, 0, 0⟩, (-1, ())) (u2 fun l0 (n1 : Int) =>
.bind 2 [.one .slc, .one (.int .i64)] (
.ex [.adr] (c1 fun a2 => t = some a2) (u1 fun a3 =>
.read True (ld T.s_towpathref07_Row (Addr.add a3 2)) sL (u1 fun l4 =>
.bind 3 [.one (.int .i64)] (
.loop 4 [.one (.int .i64), .one (.int .i64)] (-1, (0, ())) (u2 fun (n5 : Int) (n6 : Int) =>
.ite (decide (n6 < ((l4.len : Nat) : Int))) (
.ex [.adr] (c1 fun a7 => 0 ≤ n6 ∧ n6 < ((l4.len : Nat) : Int) ∧ l4.a = some a7) (u1 fun a8 =>
.read True (ld T.towpathref07_Row (Addr.add a8 (Int.toNat n6 * 7))) (sG [.int .i64, .int .i64, .int .i64, .int .i64, .int .i64, .int .i64, .int .i64]) (u7 fun (n9 : Int) (n10 : Int) (n11 : Int) (n12 : Int) (n13 : Int) (n14 : Int) (n15 : Int) =>
.act (new T.towpathref07_Row) sA (u1 fun a16 =>
.lt (.int .i64) (n6) fun (n17 : Int) =>
.actU (st T.towpathref07_Row a16 (.agg #[.int .i64 n9, .int .i64 n10, .int .i64 n11, .int .i64 n12, .int .i64 n13, .int .i64 n14, .int .i64 n15])) <|
.tick <|
.read True (ld T.int64 (Addr.add a16 5)) (sI .i64) (u1 fun (n18 : Int) =>
.read (decide (n18 > n1) = true ∧ decide (n5 < 0) = false) (ld T.int64 (Addr.add a16 5)) (sI .i64) (u1 fun (n19 : Int) =>
.ex [.adr] (c1 fun a20 => decide (n18 > n1) = true ∧ decide (n5 < 0) = false → t = some a20) (u1 fun a21 =>
.read (decide (n18 > n1) = true ∧ decide (n5 < 0) = false) (ld T.s_towpathref07_Row (Addr.add a21 2)) sL (u1 fun l22 =>
.ex [.adr] (c1 fun a23 => decide (n18 > n1) = true ∧ decide (n5 < 0) = false → 0 ≤ n5 ∧ n5 < ((l22.len : Nat) : Int) ∧ l22.a = some a23) (u1 fun a24 =>
.read (decide (n18 > n1) = true ∧ decide (n5 < 0) = false) (ld T.int64 (Addr.add (Addr.add a24 (Int.toNat n5 * 7)) 5)) (sI .i64) (u1 fun (n25 : Int) =>
.untick <|
.bind 5 [.one (.int .i64)] (
.ite (decide (n18 > n1) && (decide (n5 < 0) || decide (n19 < n25))) (
.lt (.int .i64) (n17) fun (n26 : Int) =>
.done 5 [.int .i64 n26]) (
.done 5 [.int .i64 n5])) (u1 fun (n27 : Int) =>
.done 4 [.int .i64 n27, .int .i64 (IntKind.wrap .i64 (n6 + 1))]))))))))))) (
.done 3 [.int .i64 n5]))) (u1 fun (n28 : Int) =>
.ite (decide (n28 < 0)) (
.done 0 [l0.v]) (
.ex [.adr] (c1 fun a29 => t = some a29) (u1 fun a30 =>
.read True (ld T.s_towpathref07_Row (Addr.add a30 2)) sL (u1 fun l31 =>
.ex [.adr] (c1 fun a32 => 0 ≤ n28 ∧ n28 < ((l31.len : Nat) : Int) ∧ l31.a = some a32) (u1 fun a33 =>
.read True (ld T.towpathref07_Row (Addr.add a33 (Int.toNat n28 * 7))) (sG [.int .i64, .int .i64, .int .i64, .int .i64, .int .i64, .int .i64, .int .i64]) (u7 fun (n34 : Int) (n35 : Int) (n36 : Int) (n37 : Int) (n38 : Int) (n39 : Int) (n40 : Int) =>
.act (Instr.buildSlice T.s_towpathref07_Row 1 #[(0, .agg #[.int .i64 n34, .int .i64 n35, .int .i64 n36, .int .i64 n37, .int .i64 n38, .int .i64 n39, .int .i64 n40])]) sL (u1 fun l41 =>
.act (app T.s_towpathref07_Row T.s_towpathref07_Row T.s_towpathref07_Row l0.v l41.v) sL (u1 fun l42 =>
.ex [.adr] (c1 fun a43 => t = some a43) (u1 fun a44 =>
.read True (ld T.s_towpathref07_Row (Addr.add a44 2)) sL (u1 fun l45 =>
.ex [.adr] (c1 fun a46 => 0 ≤ n28 ∧ n28 < ((l45.len : Nat) : Int) ∧ l45.a = some a46) (u1 fun a47 =>
.read True (ld T.int64 (Addr.add (Addr.add a47 (Int.toNat n28 * 7)) 5)) (sI .i64) (u1 fun (n48 : Int) =>
.lt (.int .i64) (n48) fun (n49 : Int) =>
.done 2 [l42.v, .int .i64 n49]))))))))))))))) (u2 fun l50 (n51 : Int) =>
.done 1 [l50.v, .int .i64 n51]))
theorem towpathref07_Table_Open_eq (t : Option Addr) : decomp P 62 ⟨okFs, []⟩ { cnd := [(2251799813816358, [(5, .one (.int .i64))])], blk := [(1, [(3, .one .slc), (4, .one (.int .i64))]), (2, [(5, .one (.int .i64))])], reg := [], lps := [(0, [(3, .one .slc), (4, .one (.int .i64))]), (2, [(5, .one (.int .i64)), (13, .one (.int .i64))])] } [.tmp 2] (bodyOf Go.Proofs.Tryz.f15) [.val (.pointer t)] = towpathref07_Table_Open t := by kernel_rfl
theorem towpathref07_Table_Open_calls (t : Option Addr) {w : World} {R : List Value → World → Prop} (h : (towpathref07_Table_Open t).wp P (fun _ => True) w fun e vs w' => e = 0 ∧ R vs w') :
    Calls P F.towpathref07_Table_Open #[.pointer t] w fun e w' => ∃ vs, e = .returned (pack vs) ∧ R vs w' :=
  decomp_sound (isFn_of Go.Proofs.Tryz.func15 (by kernel_rfl) (by kernel_rfl) (by kernel_rfl)) okFs_ok mix [.val (.pointer t)] (by rw [towpathref07_Table_Open_eq]; exact h)

def towpathref07_Table_Stable (t : Option Addr) : Prog :=
.ex [.adr] (c1 fun a0 => t = some a0) (u1 fun a1 =>
.read True (ld T.int64 (Addr.add a1 1)) (sI .i64) (u1 fun (n2 : Int) =>
.lt (.int .i64) (n2) fun (n3 : Int) =>
.ex [.adr] (c1 fun a4 => t = some a4) (u1 fun a5 =>
.read True (ld T.s_towpathref07_Row (Addr.add a5 2)) sL (u1 fun l6 =>
.bind 1 [.one (.int .i64)] (
.loop 2 [.one (.int .i64), .one (.int .i64)] (n3, (0, ())) (u2 fun (n7 : Int) (n8 : Int) =>
.ite (decide (n8 < ((l6.len : Nat) : Int))) (
.ex [.adr] (c1 fun a9 => 0 ≤ n8 ∧ n8 < ((l6.len : Nat) : Int) ∧ l6.a = some a9) (u1 fun a10 =>
.read True (ld T.towpathref07_Row (Addr.add a10 (Int.toNat n8 * 7))) (sG [.int .i64, .int .i64, .int .i64, .int .i64, .int .i64, .int .i64, .int .i64]) (u7 fun (n11 : Int) (n12 : Int) (n13 : Int) (n14 : Int) (n15 : Int) (n16 : Int) (n17 : Int) =>
.act (new T.towpathref07_Row) sA (u1 fun a18 =>
.actU (st T.towpathref07_Row a18 (.agg #[.int .i64 n11, .int .i64 n12, .int .i64 n13, .int .i64 n14, .int .i64 n15, .int .i64 n16, .int .i64 n17])) <|
.read True (ld T.int64 (Addr.add a18 5)) (sI .i64) (u1 fun (n19 : Int) =>
.read (decide (n19 ≥ 0) = true) (ld T.int64 (Addr.add a18 5)) (sI .i64) (u1 fun (n20 : Int) =>
.bind 3 [.one (.int .i64)] (
.ite (decide (n19 ≥ 0) && decide (n20 < n7)) (
.read True (ld T.int64 (Addr.add a18 5)) (sI .i64) (u1 fun (n21 : Int) =>
.lt (.int .i64) (n21) fun (n22 : Int) =>
.done 3 [.int .i64 n22])) (
.done 3 [.int .i64 n7])) (u1 fun (n23 : Int) =>
.done 2 [.int .i64 n23, .int .i64 (IntKind.wrap .i64 (n8 + 1))]))))))) (
.done 1 [.int .i64 n7]))) (u1 fun (n24 : Int) =>
.lt (.int .i64) (n24) fun (n25 : Int) =>
.done 0 [.int .i64 n25])))))
theorem towpathref07_Table_Stable_eq (t : Option Addr) : decomp P 32 ⟨okFs, []⟩ { cnd := [(3298534916123, [(3, .one (.int .i64))])], blk := [(0, [(3, .one (.int .i64))])], reg := [], lps := [(0, [(3, .one (.int .i64)), (15, .one (.int .i64))])] } [.tmp 2] (bodyOf Go.Proofs.Tryz.f17) [.val (.pointer t)] = towpathref07_Table_Stable t := by kernel_rfl
theorem towpathref07_Table_Stable_calls (t : Option Addr) {w : World} {R : List Value → World → Prop} (h : (towpathref07_Table_Stable t).wp P (fun _ => True) w fun e vs w' => e = 0 ∧ R vs w') :
    Calls P F.towpathref07_Table_Stable #[.pointer t] w fun e w' => ∃ vs, e = .returned (pack vs) ∧ R vs w' :=
  decomp_sound (isFn_of Go.Proofs.Tryz.func17 (by kernel_rfl) (by kernel_rfl) (by kernel_rfl)) okFs_ok mix [.val (.pointer t)] (by rw [towpathref07_Table_Stable_eq]; exact h)

def towpathlaw07_alike (a_0 : Int) (a_1 : Int) (a_2 : Int) (a_3 : Int) (a_4 : Int) (a_5 : Int) (a_6 : Int) (b_0 : Int) (b_1 : Int) (b_2 : Int) (b_3 : Int) (b_4 : Int) (b_5 : Int) (b_6 : Int) : Prog :=
.act (Instr.box T.dedup_Row (.agg #[.int .i64 a_0, .int .i64 a_1, .int .i64 a_2, .int .i64 a_3, .int .i64 a_4, .int .i64 a_5, .int .i64 a_6])) sA (u1 fun a0 =>
.act (Instr.box T.towpathref07_Row (.agg #[.int .i64 b_0, .int .i64 b_1, .int .i64 b_2, .int .i64 b_3, .int .i64 b_4, .int .i64 b_5, .int .i64 b_6])) sA (u1 fun a1 =>
.read True (ld T.int64 (Addr.add a0 0)) (sI .i64) (u1 fun (n2 : Int) =>
.read True (ld T.int64 (Addr.add a1 0)) (sI .i64) (u1 fun (n3 : Int) =>
.read ((n2 == n3) = true) (ld T.int (Addr.add a0 1)) (sI .i64) (u1 fun (n4 : Int) =>
.read ((n2 == n3) = true) (ld T.int (Addr.add a1 1)) (sI .i64) (u1 fun (n5 : Int) =>
.read ((n2 == n3 && n4 == n5) = true) (ld T.int (Addr.add a0 2)) (sI .i64) (u1 fun (n6 : Int) =>
.read ((n2 == n3 && n4 == n5) = true) (ld T.int (Addr.add a1 2)) (sI .i64) (u1 fun (n7 : Int) =>
.read ((n2 == n3 && n4 == n5 && n6 == n7) = true) (ld T.int (Addr.add a0 3)) (sI .i64) (u1 fun (n8 : Int) =>
.read ((n2 == n3 && n4 == n5 && n6 == n7) = true) (ld T.int (Addr.add a1 3)) (sI .i64) (u1 fun (n9 : Int) =>
.read ((n2 == n3 && n4 == n5 && n6 == n7 && n8 == n9) = true) (ld T.int64 (Addr.add a0 4)) (sI .i64) (u1 fun (n10 : Int) =>
.read ((n2 == n3 && n4 == n5 && n6 == n7 && n8 == n9) = true) (ld T.int64 (Addr.add a1 4)) (sI .i64) (u1 fun (n11 : Int) =>
.read ((n2 == n3 && n4 == n5 && n6 == n7 && n8 == n9 && n10 == n11) = true) (ld T.int64 (Addr.add a0 5)) (sI .i64) (u1 fun (n12 : Int) =>
.read ((n2 == n3 && n4 == n5 && n6 == n7 && n8 == n9 && n10 == n11) = true) (ld T.int64 (Addr.add a1 5)) (sI .i64) (u1 fun (n13 : Int) =>
.read ((n2 == n3 && n4 == n5 && n6 == n7 && n8 == n9 && n10 == n11 && n12 == n13) = true) (ld T.int64 (Addr.add a0 6)) (sI .i64) (u1 fun (n14 : Int) =>
.read ((n2 == n3 && n4 == n5 && n6 == n7 && n8 == n9 && n10 == n11 && n12 == n13) = true) (ld T.int64 (Addr.add a1 6)) (sI .i64) (u1 fun (n15 : Int) =>
.lt (.bool) (n2 == n3 && n4 == n5 && n6 == n7 && n8 == n9 && n10 == n11 && n12 == n13 && n14 == n15) fun b16 =>
.done 0 [.bool b16]))))))))))))))))
theorem towpathlaw07_alike_eq (a_0 : Int) (a_1 : Int) (a_2 : Int) (a_3 : Int) (a_4 : Int) (a_5 : Int) (a_6 : Int) (b_0 : Int) (b_1 : Int) (b_2 : Int) (b_3 : Int) (b_4 : Int) (b_5 : Int) (b_6 : Int) : decomp P 52 ⟨okFs, []⟩ { cnd := [], blk := [], reg := [], lps := [] } [.tmp 4] (bodyOf Go.Proofs.Tryz.f20) [.val (.agg #[.int .i64 a_0, .int .i64 a_1, .int .i64 a_2, .int .i64 a_3, .int .i64 a_4, .int .i64 a_5, .int .i64 a_6]), .val (.agg #[.int .i64 b_0, .int .i64 b_1, .int .i64 b_2, .int .i64 b_3, .int .i64 b_4, .int .i64 b_5, .int .i64 b_6])] = towpathlaw07_alike a_0 a_1 a_2 a_3 a_4 a_5 a_6 b_0 b_1 b_2 b_3 b_4 b_5 b_6 := by kernel_rfl
theorem towpathlaw07_alike_calls (a_0 : Int) (a_1 : Int) (a_2 : Int) (a_3 : Int) (a_4 : Int) (a_5 : Int) (a_6 : Int) (b_0 : Int) (b_1 : Int) (b_2 : Int) (b_3 : Int) (b_4 : Int) (b_5 : Int) (b_6 : Int) {w : World} {R : List Value → World → Prop} (h : (towpathlaw07_alike a_0 a_1 a_2 a_3 a_4 a_5 a_6 b_0 b_1 b_2 b_3 b_4 b_5 b_6).wp P (fun _ => True) w fun e vs w' => e = 0 ∧ R vs w') :
    Calls P F.towpathlaw07_alike #[.agg #[.int .i64 a_0, .int .i64 a_1, .int .i64 a_2, .int .i64 a_3, .int .i64 a_4, .int .i64 a_5, .int .i64 a_6], .agg #[.int .i64 b_0, .int .i64 b_1, .int .i64 b_2, .int .i64 b_3, .int .i64 b_4, .int .i64 b_5, .int .i64 b_6]] w fun e w' => ∃ vs, e = .returned (pack vs) ∧ R vs w' :=
  decomp_sound (isFn_of Go.Proofs.Tryz.func20 (by kernel_rfl) (by kernel_rfl) (by kernel_rfl)) okFs_ok mix [.val (.agg #[.int .i64 a_0, .int .i64 a_1, .int .i64 a_2, .int .i64 a_3, .int .i64 a_4, .int .i64 a_5, .int .i64 a_6]), .val (.agg #[.int .i64 b_0, .int .i64 b_1, .int .i64 b_2, .int .i64 b_3, .int .i64 b_4, .int .i64 b_5, .int .i64 b_6])] (by rw [towpathlaw07_alike_eq]; exact h)

def dedup_Table_Bytes (t : Option Addr) : Prog :=
.ite (Option.isNone t) (
.done 0 [.slice none 0 0]) (
.bind 1 [.one .slc] (
.tick <|
.ex [.adr] (c1 fun a0 => t = some a0) (u1 fun a1 =>
.read True (ld T.int64 (Addr.add a1 1)) (sI .i64) (u1 fun (n2 : Int) =>
.ex [.adr] (c1 fun a3 => t = some a3) (u1 fun a4 =>
.hold True (ld T.m_int64_dedup_Row (Addr.add a4 2)) sM (u1 fun m5 =>
.call F.wire_Uint [.int .u64 (IntKind.wrap .u64 n2)] sL (u1 fun l6 =>
.read True (Builtin.len_ #[T.m_int64_dedup_Row] T.int #[.map m5]) (sI .i64) (u1 fun (n7 : Int) =>
.untick <|
.call F.wire_Uint [.int .u64 (IntKind.wrap .u64 n7)] sL (u1 fun l8 =>
.act (Instr.buildSlice T.s_s_uint8 2 #[(0, l6.v), (1, l8.v)]) sL (u1 fun l9 =>
.call F.wire_Join [l9.v] sL (u1 fun l10 =>
.untick <|
.done 1 [l10.v])))))))))) (u1 fun l11 =>
.call F.dedup_Table_Rows [.pointer t] sL (u1 fun l12 =>
.bind 1 [.one .slc] (
.loop 2 [.one .slc, .one (.int .i64)] ({ a := l11.a, len := l11.len, cap := l11.cap }, (0, ())) (u2 fun l13 (n14 : Int) =>
.ite (decide (n14 < ((l12.len : Nat) : Int))) (
.bind 3 [.one .slc] (
.ex [.adr] (c1 fun a15 => 0 ≤ n14 ∧ n14 < ((l12.len : Nat) : Int) ∧ l12.a = some a15) (u1 fun a16 =>
.read True (ld T.dedup_Row (Addr.add a16 (Int.toNat n14 * 7))) (sG [.int .i64, .int .i64, .int .i64, .int .i64, .int .i64, .int .i64, .int .i64]) (u7 fun (n17 : Int) (n18 : Int) (n19 : Int) (n20 : Int) (n21 : Int) (n22 : Int) (n23 : Int) =>
.act (new T.dedup_Row) sA (u1 fun a24 =>
.actU (st T.dedup_Row a24 (.agg #[.int .i64 n17, .int .i64 n18, .int .i64 n19, .int .i64 n20, .int .i64 n21, .int .i64 n22, .int .i64 n23])) <|
.read True (ld T.int64 (Addr.add a24 0)) (sI .i64) (u1 fun (n25 : Int) =>
.read True (ld T.int (Addr.add a24 1)) (sI .i64) (u1 fun (n26 : Int) =>
.read True (ld T.int (Addr.add a24 2)) (sI .i64) (u1 fun (n27 : Int) =>
.read True (ld T.int (Addr.add a24 3)) (sI .i64) (u1 fun (n28 : Int) =>
.read True (ld T.int64 (Addr.add a24 4)) (sI .i64) (u1 fun (n29 : Int) =>
.act (Instr.buildSlice T.s_int64 5 #[(0, .int .i64 n25), (1, .int .i64 n26), (2, .int .i64 n27), (3, .int .i64 n28), (4, .int .i64 n29)]) sL (u1 fun l30 =>
.bind 4 [.one .slc] (
.loop 5 [.one .slc, .one (.int .i64)] ({ a := l13.a, len := l13.len, cap := l13.cap }, (0, ())) (u2 fun l31 (n32 : Int) =>
.ite (decide (n32 < ((l30.len : Nat) : Int))) (
.ex [.adr] (c1 fun a33 => 0 ≤ n32 ∧ n32 < ((l30.len : Nat) : Int) ∧ l30.a = some a33) (u1 fun a34 =>
.read True (ld T.int64 (Addr.add a34 (Int.toNat n32 * 1))) (sI .i64) (u1 fun (n35 : Int) =>
.lt (.int .i64) (n35) fun (n36 : Int) =>
.call F.wire_Uint [.int .u64 (IntKind.wrap .u64 n36)] sL (u1 fun l37 =>
.act (app T.s_uint8 T.s_uint8 T.s_uint8 l31.v l37.v) sL (u1 fun l38 =>
.done 5 [l38.v, .int .i64 (IntKind.wrap .i64 (n32 + 1))]))))) (
.done 4 [l31.v]))) (u1 fun l39 =>
.bind 4 [.one .slc] (
.tick <|
.read True (ld T.int64 (Addr.add a24 5)) (sI .i64) (u1 fun (n40 : Int) =>
.hold True (ld T.int64 (Addr.add a24 6)) (sI .i64) (u1 fun (n41 : Int) =>
.call F.wire_Int [.int .i64 n40] sL (u1 fun l42 =>
.untick <|
.call F.wire_Uint [.int .u64 (IntKind.wrap .u64 n41)] sL (u1 fun l43 =>
.act (Instr.buildSlice T.s_s_uint8 2 #[(0, l42.v), (1, l43.v)]) sL (u1 fun l44 =>
.call F.wire_Join [l44.v] sL (u1 fun l45 =>
.act (app T.s_uint8 T.s_uint8 T.s_uint8 l39.v l45.v) sL (u1 fun l46 =>
.untick <|
.done 4 [l46.v])))))))) (u1 fun l47 =>
.done 3 [l47.v])))))))))))) (u1 fun l48 =>
.done 2 [l48.v, .int .i64 (IntKind.wrap .i64 (n14 + 1))])) (
.done 1 [l13.v]))) (u1 fun l49 =>
.act (Instr.buildSlice T.s_s_uint8 1 #[(0, l49.v)]) sL (u1 fun l50 =>
.call F.frame_Seal [l50.v] sL (u1 fun l51 =>
.done 0 [l51.v]))))))
theorem dedup_Table_Bytes_eq (t : Option Addr) : decomp P 69 ⟨okFs, []⟩ { cnd := [], blk := [(0, [(3, .one .slc)]), (1, [(3, .one .slc)]), (2, [(3, .one .slc)])], reg := [(3, [(3, .one .slc)]), (12, [(3, .one .slc)])], lps := [(0, [(3, .one .slc), (28, .one (.int .i64))]), (2, [(3, .one .slc), (44, .one (.int .i64))])] } [.tmp 2] (bodyOf Go.Proofs.Tryz.f21) [.val (.pointer t)] = dedup_Table_Bytes t := by kernel_rfl
theorem dedup_Table_Bytes_calls (t : Option Addr) {w : World} {R : List Value → World → Prop} (h : (dedup_Table_Bytes t).wp P (fun _ => True) w fun e vs w' => e = 0 ∧ R vs w') :
    Calls P F.dedup_Table_Bytes #[.pointer t] w fun e w' => ∃ vs, e = .returned (pack vs) ∧ R vs w' :=
  decomp_sound (isFn_of Go.Proofs.Tryz.func21 (by kernel_rfl) (by kernel_rfl) (by kernel_rfl)) okFs_ok mix [.val (.pointer t)] (by rw [dedup_Table_Bytes_eq]; exact h)

def towpathref07_Table_Bytes (t : Option Addr) : Prog :=
.ex [.adr] (c1 fun a0 => t = some a0) (u1 fun a1 =>
.read True (ld T.int64 (Addr.add a1 1)) (sI .i64) (u1 fun (n2 : Int) =>
.call F.towpathref01_Uint [.int .u64 (IntKind.wrap .u64 n2)] sL (u1 fun l3 =>
.ex [.adr] (c1 fun a4 => t = some a4) (u1 fun a5 =>
.read True (ld T.s_towpathref07_Row (Addr.add a5 2)) sL (u1 fun l6 =>
.call F.towpathref01_Uint [.int .u64 (IntKind.wrap .u64 (((l6.len : Nat) : Int)))] sL (u1 fun l7 =>
.act (app T.s_uint8 T.s_uint8 T.s_uint8 l3.v l7.v) sL (u1 fun l8 =>
.ex [.adr] (c1 fun a9 => t = some a9) (u1 fun a10 =>
.read True (ld T.s_towpathref07_Row (Addr.add a10 2)) sL (u1 fun l11 =>
.bind 1 [.one .slc] (
.loop 2 [.one .slc, .one (.int .i64)] ({ a := l8.a, len := l8.len, cap := l8.cap }, (0, ())) (u2 fun l12 (n13 : Int) =>
.ite (decide (n13 < ((l11.len : Nat) : Int))) (
.ex [.adr] (c1 fun a14 => 0 ≤ n13 ∧ n13 < ((l11.len : Nat) : Int) ∧ l11.a = some a14) (u1 fun a15 =>
.read True (ld T.towpathref07_Row (Addr.add a15 (Int.toNat n13 * 7))) (sG [.int .i64, .int .i64, .int .i64, .int .i64, .int .i64, .int .i64, .int .i64]) (u7 fun (n16 : Int) (n17 : Int) (n18 : Int) (n19 : Int) (n20 : Int) (n21 : Int) (n22 : Int) =>
.act (new T.towpathref07_Row) sA (u1 fun a23 =>
.actU (st T.towpathref07_Row a23 (.agg #[.int .i64 n16, .int .i64 n17, .int .i64 n18, .int .i64 n19, .int .i64 n20, .int .i64 n21, .int .i64 n22])) <|
.read True (ld T.int64 (Addr.add a23 0)) (sI .i64) (u1 fun (n24 : Int) =>
.call F.towpathref01_Uint [.int .u64 (IntKind.wrap .u64 n24)] sL (u1 fun l25 =>
.act (app T.s_uint8 T.s_uint8 T.s_uint8 l12.v l25.v) sL (u1 fun l26 =>
.read True (ld T.int (Addr.add a23 1)) (sI .i64) (u1 fun (n27 : Int) =>
.call F.towpathref01_Uint [.int .u64 (IntKind.wrap .u64 n27)] sL (u1 fun l28 =>
.act (app T.s_uint8 T.s_uint8 T.s_uint8 l26.v l28.v) sL (u1 fun l29 =>
.read True (ld T.int (Addr.add a23 2)) (sI .i64) (u1 fun (n30 : Int) =>
.call F.towpathref01_Uint [.int .u64 (IntKind.wrap .u64 n30)] sL (u1 fun l31 =>
.act (app T.s_uint8 T.s_uint8 T.s_uint8 l29.v l31.v) sL (u1 fun l32 =>
.read True (ld T.int (Addr.add a23 3)) (sI .i64) (u1 fun (n33 : Int) =>
.call F.towpathref01_Uint [.int .u64 (IntKind.wrap .u64 n33)] sL (u1 fun l34 =>
.act (app T.s_uint8 T.s_uint8 T.s_uint8 l32.v l34.v) sL (u1 fun l35 =>
.read True (ld T.int64 (Addr.add a23 4)) (sI .i64) (u1 fun (n36 : Int) =>
.call F.towpathref01_Uint [.int .u64 (IntKind.wrap .u64 n36)] sL (u1 fun l37 =>
.act (app T.s_uint8 T.s_uint8 T.s_uint8 l35.v l37.v) sL (u1 fun l38 =>
.read True (ld T.int64 (Addr.add a23 5)) (sI .i64) (u1 fun (n39 : Int) =>
.call F.towpathref01_Int [.int .i64 n39] sL (u1 fun l40 =>
.act (app T.s_uint8 T.s_uint8 T.s_uint8 l38.v l40.v) sL (u1 fun l41 =>
.read True (ld T.int64 (Addr.add a23 6)) (sI .i64) (u1 fun (n42 : Int) =>
.call F.towpathref01_Uint [.int .u64 (IntKind.wrap .u64 n42)] sL (u1 fun l43 =>
.act (app T.s_uint8 T.s_uint8 T.s_uint8 l41.v l43.v) sL (u1 fun l44 =>
.done 2 [l44.v, .int .i64 (IntKind.wrap .i64 (n13 + 1))]))))))))))))))))))))))))) (
.done 1 [l12.v]))) (u1 fun l45 =>
.call F.towpathref02_Seal [l45.v] sL (u1 fun l46 =>
.done 0 [l46.v])))))))))))
theorem towpathref07_Table_Bytes_eq (t : Option Addr) : decomp P 74 ⟨okFs, []⟩ { cnd := [], blk := [(0, [(3, .one .slc)])], reg := [], lps := [(0, [(3, .one .slc), (26, .one (.int .i64))])] } [.tmp 2] (bodyOf Go.Proofs.Tryz.f22) [.val (.pointer t)] = towpathref07_Table_Bytes t := by kernel_rfl
theorem towpathref07_Table_Bytes_calls (t : Option Addr) {w : World} {R : List Value → World → Prop} (h : (towpathref07_Table_Bytes t).wp P (fun _ => True) w fun e vs w' => e = 0 ∧ R vs w') :
    Calls P F.towpathref07_Table_Bytes #[.pointer t] w fun e w' => ∃ vs, e = .returned (pack vs) ∧ R vs w' :=
  decomp_sound (isFn_of Go.Proofs.Tryz.func22 (by kernel_rfl) (by kernel_rfl) (by kernel_rfl)) okFs_ok mix [.val (.pointer t)] (by rw [towpathref07_Table_Bytes_eq]; exact h)

def towpathlaw07_judged (t : Option Addr) (r : Option Addr) (b_0 : Int) (b_1 : Int) (b_2 : Int) (b_3 : Int) (b_4 : Int) (b_5 : Int) (b_6 : Sl) : Prog :=
.act (Instr.box T.api_Batch (.agg #[.int .i64 b_0, .int .i64 b_1, .int .i64 b_2, .int .i64 b_3, .int .i64 b_4, .int .i64 b_5, b_6.v])) sA (u1 fun a0 =>
.read True (ld T.api_Batch a0) (sG [.int .i64, .int .i64, .int .i64, .int .i64, .int .i64, .int .i64, .slc]) (u7 fun (n1 : Int) (n2 : Int) (n3 : Int) (n4 : Int) (n5 : Int) (n6 : Int) l7 =>
.call F.dedup_Table_Judge [.pointer t, .agg #[.int .i64 n1, .int .i64 n2, .int .i64 n3, .int .i64 n4, .int .i64 n5, .int .i64 n6, l7.v]] (.tup [.agg [.bool, .int .i64], .one (.int .i64)]) (u3 fun b8 (n9 : Int) (n10 : Int) =>
.act (new T.dedup_Verdict) sA (u1 fun a11 =>
.actU (st T.dedup_Verdict a11 (.agg #[.bool b8, .int .i64 n9])) <|
.lt (.int .i64) (n10) fun (n12 : Int) =>
.read True (ld T.api_Batch a0) (sG [.int .i64, .int .i64, .int .i64, .int .i64, .int .i64, .int .i64, .slc]) (u7 fun (n13 : Int) (n14 : Int) (n15 : Int) (n16 : Int) (n17 : Int) (n18 : Int) l19 =>
.call F.towpathref07_Table_Judge [.pointer r, .agg #[.int .i64 n13, .int .i64 n14, .int .i64 n15, .int .i64 n16, .int .i64 n17, .int .i64 n18, l19.v]] (.tup [.one .bool, .one (.int .i64), .one (.int .i64)]) (u3 fun b20 (n21 : Int) (n22 : Int) =>
.lt (.bool) (b20) fun b23 =>
.lt (.int .i64) (n21) fun (n24 : Int) =>
.lt (.int .i64) (n22) fun (n25 : Int) =>
.read ((n12 == n25) = true) (ld T.bool (Addr.add a11 0)) sB (u1 fun b26 =>
.read ((n12 == n25 && b26 == b23) = true) (ld T.int64 (Addr.add a11 1)) (sI .i64) (u1 fun (n27 : Int) =>
.lt (.bool) (n12 == n25 && b26 == b23 && n27 == n24) fun b28 =>
.done 0 [.bool b28]))))))))
theorem towpathlaw07_judged_eq (t : Option Addr) (r : Option Addr) (b_0 : Int) (b_1 : Int) (b_2 : Int) (b_3 : Int) (b_4 : Int) (b_5 : Int) (b_6 : Sl) : decomp P 40 ⟨okFs, []⟩ { cnd := [], blk := [], reg := [], lps := [] } [.tmp 6] (bodyOf Go.Proofs.Tryz.f24) [.val (.pointer t), .val (.pointer r), .val (.agg #[.int .i64 b_0, .int .i64 b_1, .int .i64 b_2, .int .i64 b_3, .int .i64 b_4, .int .i64 b_5, .slice b_6.a b_6.len b_6.cap])] = towpathlaw07_judged t r b_0 b_1 b_2 b_3 b_4 b_5 b_6 := by kernel_rfl
theorem towpathlaw07_judged_calls (t : Option Addr) (r : Option Addr) (b_0 : Int) (b_1 : Int) (b_2 : Int) (b_3 : Int) (b_4 : Int) (b_5 : Int) (b_6 : Sl) {w : World} {R : List Value → World → Prop} (h : (towpathlaw07_judged t r b_0 b_1 b_2 b_3 b_4 b_5 b_6).wp P (fun _ => True) w fun e vs w' => e = 0 ∧ R vs w') :
    Calls P F.towpathlaw07_judged #[.pointer t, .pointer r, .agg #[.int .i64 b_0, .int .i64 b_1, .int .i64 b_2, .int .i64 b_3, .int .i64 b_4, .int .i64 b_5, .slice b_6.a b_6.len b_6.cap]] w fun e w' => ∃ vs, e = .returned (pack vs) ∧ R vs w' :=
  decomp_sound (isFn_of Go.Proofs.Tryz.func24 (by kernel_rfl) (by kernel_rfl) (by kernel_rfl)) okFs_ok mix [.val (.pointer t), .val (.pointer r), .val (.agg #[.int .i64 b_0, .int .i64 b_1, .int .i64 b_2, .int .i64 b_3, .int .i64 b_4, .int .i64 b_5, .slice b_6.a b_6.len b_6.cap])] (by rw [towpathlaw07_judged_eq]; exact h)

def towpathref07_Table_Take (t : Option Addr) (b_0 : Int) (b_1 : Int) (b_2 : Int) (b_3 : Int) (b_4 : Int) (b_5 : Int) (b_6 : Sl) : Prog :=
.act (Instr.box T.api_Batch (.agg #[.int .i64 b_0, .int .i64 b_1, .int .i64 b_2, .int .i64 b_3, .int .i64 b_4, .int .i64 b_5, b_6.v])) sA (u1 fun a0 =>
.read True (ld T.api_Batch a0) (sG [.int .i64, .int .i64, .int .i64, .int .i64, .int .i64, .int .i64, .slc]) (u7 fun (n1 : Int) (n2 : Int) (n3 : Int) (n4 : Int) (n5 : Int) (n6 : Int) l7 =>
.call F.towpathref07_Table_Judge [.pointer t, .agg #[.int .i64 n1, .int .i64 n2, .int .i64 n3, .int .i64 n4, .int .i64 n5, .int .i64 n6, l7.v]] (.tup [.one .bool, .one (.int .i64), .one (.int .i64)]) (u3 fun b8 (n9 : Int) (n10 : Int) =>
.lt (.bool) (b8) fun b11 =>
.lt (.int .i64) (n9) fun (n12 : Int) =>
.lt (.int .i64) (n10) fun (n13 : Int) =>
.ite (n13 != 0) (
.lt (.int .i64) (n13) fun (n14 : Int) =>
.done 0 [.int .i64 n14]) (
.ite (b11) (
.done 0 [.int .i64 4]) (
.tick <|
.read True (ld T.int64 (Addr.add a0 0)) (sI .i64) (u1 fun (n15 : Int) =>
.ex [.adr] (c1 fun a16 => t = some a16) (u1 fun a17 =>
.read True (ld T.int64 (Addr.add a17 1)) (sI .i64) (u1 fun (n18 : Int) =>
.untick <|
.ite (decide (n15 < n18)) (
.done 0 [.int .i64 8]) (
.bind 1 [] (
.tick <|
.hold True (ld T.int64 (Addr.add a0 0)) (sI .i64) (u1 fun (n19 : Int) =>
.read True (ld T.api_Batch a0) (sG [.int .i64, .int .i64, .int .i64, .int .i64, .int .i64, .int .i64, .slc]) (u7 fun (n20 : Int) (n21 : Int) (n22 : Int) (n23 : Int) (n24 : Int) (n25 : Int) l26 =>
.call F.towpathref03_Span [.agg #[.int .i64 n20, .int .i64 n21, .int .i64 n22, .int .i64 n23, .int .i64 n24, .int .i64 n25, l26.v]] (sI .i64) (u1 fun (n27 : Int) =>
.ex [.adr] (c1 fun a28 => t = some a28) (u1 fun a29 =>
.untick <|
.actU (st T.int64 (Addr.add a29 1) (.int .i64 (IntKind.wrap .i64 (n19 + n27)))) <|
.untick <|
.done 1 []))))) (u0 <|
.read True (ld T.int64 (Addr.add a0 1)) (sI .i64) (u1 fun (n30 : Int) =>
.ite (n30 == 0) (
.done 0 [.int .i64 0]) (
.read True (ld T.int64 (Addr.add a0 1)) (sI .i64) (u1 fun (n31 : Int) =>
.call F.towpathref07_Table_Row [.pointer t, .int .i64 n31] (.tup [.agg [.int .i64, .int .i64, .int .i64, .int .i64, .int .i64, .int .i64, .int .i64], .one .bool]) (u8 fun (n32 : Int) (n33 : Int) (n34 : Int) (n35 : Int) (n36 : Int) (n37 : Int) (n38 : Int) b39 =>
.act (new T.towpathref07_Row) sA (u1 fun a40 =>
.actU (st T.towpathref07_Row a40 (.agg #[.int .i64 n32, .int .i64 n33, .int .i64 n34, .int .i64 n35, .int .i64 n36, .int .i64 n37, .int .i64 n38])) <|
.lt (.bool) (b39) fun b41 =>
.read True (ld T.int64 (Addr.add a0 1)) (sI .i64) (u1 fun (n42 : Int) =>
.read True (ld T.int (Addr.add a0 2)) (sI .i64) (u1 fun (n43 : Int) =>
.read True (ld T.int (Addr.add a0 3)) (sI .i64) (u1 fun (n44 : Int) =>
.read True (ld T.s_api_Record (Addr.add a0 6)) sL (u1 fun l45 =>
.read True (ld T.int64 (Addr.add a0 0)) (sI .i64) (u1 fun (n46 : Int) =>
.read True (ld T.int64 (Addr.add a40 5)) (sI .i64) (u1 fun (n47 : Int) =>
.read True (ld T.int64 (Addr.add a0 5)) (sI .i64) (u1 fun (n48 : Int) =>
.act (new T.towpathref07_Row) sA (u1 fun a49 =>
.actU (st T.towpathref07_Row a49 (.agg #[.int .i64 n42, .int .i64 n43, .int .i64 n44, .int .i64 (((l45.len : Nat) : Int)), .int .i64 n46, .int .i64 n47, .int .i64 n48])) <|
.read True (ld T.int (Addr.add a0 4)) (sI .i64) (u1 fun (n50 : Int) =>
.read ((n50 == 1) = true) (ld T.int64 (Addr.add a40 5)) (sI .i64) (u1 fun (n51 : Int) =>
.bind 1 [] (
.ite (n50 == 1 && decide (n51 < 0)) (
.read True (ld T.int64 (Addr.add a0 0)) (sI .i64) (u1 fun (n52 : Int) =>
.actU (st T.int64 (Addr.add a49 5) (.int .i64 n52)) <|
.done 1 [])) (
.done 1 [])) (u0 <|
.read True (ld T.api_Batch a0) (sG [.int .i64, .int .i64, .int .i64, .int .i64, .int .i64, .int .i64, .slc]) (u7 fun (n53 : Int) (n54 : Int) (n55 : Int) (n56 : Int) (n57 : Int) (n58 : Int) l59 =>
.call F.towpathref03_Mark [.agg #[.int .i64 n53, .int .i64 n54, .int .i64 n55, .int .i64 n56, .int .i64 n57, .int .i64 n58, l59.v]] sB (u1 fun b60 =>
.bind 1 [] (
.ite (b60) (
.read True (ld T.int64 (Addr.add a0 1)) (sI .i64) (u1 fun (n61 : Int) =>
.read True (ld T.int (Addr.add a0 2)) (sI .i64) (u1 fun (n62 : Int) =>
.read True (ld T.int64 (Addr.add a0 5)) (sI .i64) (u1 fun (n63 : Int) =>
.actU (st T.towpathref07_Row a49 (.agg #[.int .i64 n61, .int .i64 (IntKind.wrap .i64 (n62 + 1)), .int .i64 0, .int .i64 0, .int .i64 0, .int .i64 (-1), .int .i64 n63])) <|
.done 1 [])))) (
.done 1 [])) (u0 <|
.read (b41 = true) (ld T.int64 (Addr.add a40 6)) (sI .i64) (u1 fun (n64 : Int) =>
.read (b41 = true) (ld T.int64 (Addr.add a49 6)) (sI .i64) (u1 fun (n65 : Int) =>
.bind 1 [] (
.ite (b41 && decide (n64 > n65)) (
.read True (ld T.int64 (Addr.add a40 6)) (sI .i64) (u1 fun (n66 : Int) =>
.actU (st T.int64 (Addr.add a49 6) (.int .i64 n66)) <|
.done 1 [])) (
.done 1 [])) (u0 <|
.read True (ld T.towpathref07_Row a49) (sG [.int .i64, .int .i64, .int .i64, .int .i64, .int .i64, .int .i64, .int .i64]) (u7 fun (n67 : Int) (n68 : Int) (n69 : Int) (n70 : Int) (n71 : Int) (n72 : Int) (n73 : Int) =>
.call F.towpathref07_Table_put [.pointer t, .agg #[.int .i64 n67, .int .i64 n68, .int .i64 n69, .int .i64 n70, .int .i64 n71, .int .i64 n72, .int .i64 n73]] (.tup []) (u0 <|
.done 0 [.int .i64 0]))))))))))))))))))))))))))))))))))
theorem towpathref07_Table_Take_eq (t : Option Addr) (b_0 : Int) (b_1 : Int) (b_2 : Int) (b_3 : Int) (b_4 : Int) (b_5 : Int) (b_6 : Sl) : decomp P 98 ⟨okFs, []⟩ { cnd := [(67699845898419233783545926, []), (78918677504442992524819169355, []), (141976867225561692967630759002203, [])], blk := [], reg := [(8, [])], lps := [] } [.tmp 4] (bodyOf Go.Proofs.Tryz.f26) [.val (.pointer t), .val (.agg #[.int .i64 b_0, .int .i64 b_1, .int .i64 b_2, .int .i64 b_3, .int .i64 b_4, .int .i64 b_5, .slice b_6.a b_6.len b_6.cap])] = towpathref07_Table_Take t b_0 b_1 b_2 b_3 b_4 b_5 b_6 := by kernel_rfl
theorem towpathref07_Table_Take_calls (t : Option Addr) (b_0 : Int) (b_1 : Int) (b_2 : Int) (b_3 : Int) (b_4 : Int) (b_5 : Int) (b_6 : Sl) {w : World} {R : List Value → World → Prop} (h : (towpathref07_Table_Take t b_0 b_1 b_2 b_3 b_4 b_5 b_6).wp P (fun _ => True) w fun e vs w' => e = 0 ∧ R vs w') :
    Calls P F.towpathref07_Table_Take #[.pointer t, .agg #[.int .i64 b_0, .int .i64 b_1, .int .i64 b_2, .int .i64 b_3, .int .i64 b_4, .int .i64 b_5, .slice b_6.a b_6.len b_6.cap]] w fun e w' => ∃ vs, e = .returned (pack vs) ∧ R vs w' :=
  decomp_sound (isFn_of Go.Proofs.Tryz.func26 (by kernel_rfl) (by kernel_rfl) (by kernel_rfl)) okFs_ok mix [.val (.pointer t), .val (.agg #[.int .i64 b_0, .int .i64 b_1, .int .i64 b_2, .int .i64 b_3, .int .i64 b_4, .int .i64 b_5, .slice b_6.a b_6.len b_6.cap])] (by rw [towpathref07_Table_Take_eq]; exact h)

def towpathref07_Table_Expire (t : Option Addr) (time : Int) : Prog :=
.ex [.adr] (c1 fun a0 => t = some a0) (u1 fun a1 =>
.read True (ld T.s_towpathref07_Row (Addr.add a1 2)) sL (u1 fun l2 =>
.bind 1 [.one .slc, .one .slc] (
.loop 2 [.one .slc, .one .slc, .one (.int .i64)] (⟨none, 0, 0⟩, (⟨none, 0, 0⟩, (0, ()))) (u3 fun l3 l4 (n5 : Int) =>
.ite (decide (n5 < ((l2.len : Nat) : Int))) (
.ex [.adr] (c1 fun a6 => 0 ≤ n5 ∧ n5 < ((l2.len : Nat) : Int) ∧ l2.a = some a6) (u1 fun a7 =>
.read True (ld T.towpathref07_Row (Addr.add a7 (Int.toNat n5 * 7))) (sG [.int .i64, .int .i64, .int .i64, .int .i64, .int .i64, .int .i64, .int .i64]) (u7 fun (n8 : Int) (n9 : Int) (n10 : Int) (n11 : Int) (n12 : Int) (n13 : Int) (n14 : Int) =>
.act (new T.towpathref07_Row) sA (u1 fun a15 =>
.actU (st T.towpathref07_Row a15 (.agg #[.int .i64 n8, .int .i64 n9, .int .i64 n10, .int .i64 n11, .int .i64 n12, .int .i64 n13, .int .i64 n14])) <|
.read True (ld T.int64 (Addr.add a15 5)) (sI .i64) (u1 fun (n16 : Int) =>
.read (decide (n16 < 0) = true) (ld T.int64 (Addr.add a15 6)) (sI .i64) (u1 fun (n17 : Int) =>
.bind 3 [.one .slc, .one .slc] (
.ite (decide (n16 < 0) && decide (n17 < time)) (
.read True (ld T.int64 (Addr.add a15 0)) (sI .i64) (u1 fun (n18 : Int) =>
.act (Instr.buildSlice T.s_int64 1 #[(0, .int .i64 n18)]) sL (u1 fun l19 =>
.act (app T.s_int64 T.s_int64 T.s_int64 l3.v l19.v) sL (u1 fun l20 =>
.done 3 [l20.v, l4.v])))) (
.read True (ld T.towpathref07_Row a15) (sG [.int .i64, .int .i64, .int .i64, .int .i64, .int .i64, .int .i64, .int .i64]) (u7 fun (n21 : Int) (n22 : Int) (n23 : Int) (n24 : Int) (n25 : Int) (n26 : Int) (n27 : Int) =>
.act (Instr.buildSlice T.s_towpathref07_Row 1 #[(0, .agg #[.int .i64 n21, .int .i64 n22, .int .i64 n23, .int .i64 n24, .int .i64 n25, .int .i64 n26, .int .i64 n27])]) sL (u1 fun l28 =>
.act (app T.s_towpathref07_Row T.s_towpathref07_Row T.s_towpathref07_Row l4.v l28.v) sL (u1 fun l29 =>
.done 3 [l3.v, l29.v]))))) (u2 fun l30 l31 =>
.done 2 [l30.v, l31.v, .int .i64 (IntKind.wrap .i64 (n5 + 1))]))))))) (
.done 1 [l3.v, l4.v]))) (u2 fun l32 l33 =>
.ex [.adr] (c1 fun a34 => t = some a34) (u1 fun a35 =>
.actU (st T.s_towpathref07_Row (Addr.add a35 2) l33.v) <|
.done 0 [l32.v]))))
theorem towpathref07_Table_Expire_eq (t : Option Addr) (time : Int) : decomp P 42 ⟨okFs, []⟩ { cnd := [(280925221290010, [(5, .one .slc), (6, .one .slc)])], blk := [(0, [(5, .one .slc), (6, .one .slc)])], reg := [], lps := [(0, [(5, .one .slc), (6, .one .slc), (14, .one (.int .i64))])] } [.tmp 4] (bodyOf Go.Proofs.Tryz.f28) [.val (.pointer t), .val (.int .i64 time)] = towpathref07_Table_Expire t time := by kernel_rfl
theorem towpathref07_Table_Expire_calls (t : Option Addr) (time : Int) {w : World} {R : List Value → World → Prop} (h : (towpathref07_Table_Expire t time).wp P (fun _ => True) w fun e vs w' => e = 0 ∧ R vs w') :
    Calls P F.towpathref07_Table_Expire #[.pointer t, .int .i64 time] w fun e w' => ∃ vs, e = .returned (pack vs) ∧ R vs w' :=
  decomp_sound (isFn_of Go.Proofs.Tryz.func28 (by kernel_rfl) (by kernel_rfl) (by kernel_rfl)) okFs_ok mix [.val (.pointer t), .val (.int .i64 time)] (by rw [towpathref07_Table_Expire_eq]; exact h)

def dedup_Load (raw : Sl) (most : Int) : Prog :=
.call F.dedup_New [.int .i64 most] (.tup [.one .ptr, .one (.int .i64)]) (u2 fun p0 (n1 : Int) =>
.lt (.int .i64) (n1) fun (n2 : Int) =>
.ite (n2 != 0) (
.lt (.int .i64) (n2) fun (n3 : Int) =>
.done 0 [.pointer none, .int .i64 n3]) (
.call F.frame_Open [raw.v] (.tup [.one .slc, .one .bool]) (u2 fun l4 b5 =>
.lt (.bool) (b5) fun b6 =>
.ite (not b6) (
.done 0 [.pointer none, .int .i64 6]) (
.call F.wire_NewReader [l4.v] sP (u1 fun p7 =>
.call F.dedup_upto [.pointer p7, .int .i64 1099511627777] (sI .i64) (u1 fun (n8 : Int) =>
.ex [.adr] (c1 fun a9 => p0 = some a9) (u1 fun a10 =>
.actU (st T.int64 (Addr.add a10 1) (.int .i64 n8)) <|
.call F.dedup_upto [.pointer p7, .int .i64 4096] (sI .i64) (u1 fun (n11 : Int) =>
.lt (.int .i64) (n11) fun (n12 : Int) =>
.ex [.adr] (c1 fun a13 => p0 = some a13) (u1 fun a14 =>
.read True (ld T.int64 (Addr.add a14 1)) (sI .i64) (u1 fun (n15 : Int) =>
.ite (decide (n15 > 1099511627777) || decide (n12 > most)) (
.done 0 [.pointer none, .int .i64 6]) (
.bind 1 [] (
.loop 2 [.one (.int .i64), .one (.int .i64)] (0, (0, ())) (u2 fun (n16 : Int) (n17 : Int) =>
.ite (decide (n17 < n12)) (
.call F.dedup_upto [.pointer p7, .int .i64 1048576] (sI .i64) (u1 fun (n18 : Int) =>
.call F.dedup_upto [.pointer p7, .int .i64 32768] (sI .i64) (u1 fun (n19 : Int) =>
.call F.dedup_upto [.pointer p7, .int .i64 2147483647] (sI .i64) (u1 fun (n20 : Int) =>
.call F.dedup_upto [.pointer p7, .int .i64 64] (sI .i64) (u1 fun (n21 : Int) =>
.call F.dedup_upto [.pointer p7, .int .i64 1099511627776] (sI .i64) (u1 fun (n22 : Int) =>
.call F.wire_Reader_Within [.pointer p7, .int .i64 (-1), .int .i64 1099511627776] (sI .i64) (u1 fun (n23 : Int) =>
.call F.dedup_upto [.pointer p7, .int .i64 1099511627776] (sI .i64) (u1 fun (n24 : Int) =>
.act (new T.dedup_Row) sA (u1 fun a25 =>
.actU (st T.dedup_Row a25 (.agg #[.int .i64 n18, .int .i64 n19, .int .i64 n20, .int .i64 n21, .int .i64 n22, .int .i64 n23, .int .i64 n24])) <|
.bind 3 [.one .bool] (
.tick <|
.call F.wire_Reader_Err [.pointer p7] (sI .i64) (u1 fun (n26 : Int) =>
.read ((n26 != 0) = false) (ld T.dedup_Row a25) (sG [.int .i64, .int .i64, .int .i64, .int .i64, .int .i64, .int .i64, .int .i64]) (u7 fun (n27 : Int) (n28 : Int) (n29 : Int) (n30 : Int) (n31 : Int) (n32 : Int) (n33 : Int) =>
.ex [.adr] (c1 fun a34 => (n26 != 0) = false → p0 = some a34) (u1 fun a35 =>
.read ((n26 != 0) = false) (ld T.int64 (Addr.add a35 1)) (sI .i64) (u1 fun (n36 : Int) =>
.ite (n26 != 0) (
.untick <|
.done 3 [.bool true]) (
.call F.dedup_may [.agg #[.int .i64 n27, .int .i64 n28, .int .i64 n29, .int .i64 n30, .int .i64 n31, .int .i64 n32, .int .i64 n33], .int .i64 n36] sB (u1 fun b37 =>
.read (not b37 = false) (ld T.int64 (Addr.add a25 0)) (sI .i64) (u1 fun (n38 : Int) =>
.untick <|
.done 3 [.bool (not b37 || decide (n38 ≤ n16))])))))))) (u1 fun b39 =>
.ite (b39) (
.done 0 [.pointer none, .int .i64 6]) (
.tick <|
.ex [.adr] (c1 fun a40 => p0 = some a40) (u1 fun a41 =>
.read True (ld T.m_int64_dedup_Row (Addr.add a41 2)) sM (u1 fun m42 =>
.read True (ld T.int64 (Addr.add a25 0)) (sI .i64) (u1 fun (n43 : Int) =>
.read True (ld T.dedup_Row a25) (sG [.int .i64, .int .i64, .int .i64, .int .i64, .int .i64, .int .i64, .int .i64]) (u7 fun (n44 : Int) (n45 : Int) (n46 : Int) (n47 : Int) (n48 : Int) (n49 : Int) (n50 : Int) =>
.actU (Instr.mapUpdate T.m_int64_dedup_Row (.map m42) (.int .i64 n43) (.agg #[.int .i64 n44, .int .i64 n45, .int .i64 n46, .int .i64 n47, .int .i64 n48, .int .i64 n49, .int .i64 n50])) <|
.untick <|
.read True (ld T.int64 (Addr.add a25 0)) (sI .i64) (u1 fun (n51 : Int) =>
.lt (.int .i64) (n51) fun (n52 : Int) =>
.done 2 [.int .i64 n52, .int .i64 (IntKind.wrap .i64 (n17 + 1))])))))))))))))))) (
.done 1 []))) (u0 <|
.call F.wire_Reader_End [.pointer p7] (sI .i64) (u1 fun (n53 : Int) =>
.ite (n53 != 0) (
.done 0 [.pointer none, .int .i64 6]) (
.done 0 [.pointer p0, .int .i64 0]))))))))))))))
theorem dedup_Load_eq (raw : Sl) (most : Int) : decomp P 98 ⟨okFs, []⟩ { cnd := [], blk := [(0, [])], reg := [(16, [(83, .one .bool)])], lps := [(0, [(12, .one (.int .i64)), (49, .one (.int .i64))])] } [.tmp 4, .tmp 5] (bodyOf Go.Proofs.Tryz.f29) [.val (.slice raw.a raw.len raw.cap), .val (.int .i64 most)] = dedup_Load raw most := by kernel_rfl
theorem dedup_Load_calls (raw : Sl) (most : Int) {w : World} {R : List Value → World → Prop} (h : (dedup_Load raw most).wp P (fun _ => True) w fun e vs w' => e = 0 ∧ R vs w') :
    Calls P F.dedup_Load #[.slice raw.a raw.len raw.cap, .int .i64 most] w fun e w' => ∃ vs, e = .returned (pack vs) ∧ R vs w' :=
  decomp_sound (isFn_of Go.Proofs.Tryz.func29 (by kernel_rfl) (by kernel_rfl) (by kernel_rfl)) okFs_ok mix [.val (.slice raw.a raw.len raw.cap), .val (.int .i64 most)] (by rw [dedup_Load_eq]; exact h)

def wire_Join (parts : Sl) : Prog :=
.bind 1 [.one (.int .i64)] (
.loop 2 [.one (.int .i64), .one (.int .i64)] (0, (0, ())) (u2 fun (n0 : Int) (n1 : Int) =>
.ite (decide (n1 < ((parts.len : Nat) : Int))) (
.ex [.adr] (c1 fun a2 => 0 ≤ n1 ∧ n1 < ((parts.len : Nat) : Int) ∧ parts.a = some a2) (u1 fun a3 =>
.read True (ld T.s_uint8 (Addr.add a3 (Int.toNat n1 * 1))) sL (u1 fun l4 =>
.lt (.int .i64) (IntKind.wrap .i64 (n0 + ((l4.len : Nat) : Int))) fun (n5 : Int) =>
.done 2 [.int .i64 n5, .int .i64 (IntKind.wrap .i64 (n1 + 1))]))) (
.done 1 [.int .i64 n0]))) (u1 fun (n6 : Int) =>
.act (Instr.makeSlice T.s_uint8 (.int .i64 0) (.int .i64 n6)) sL (u1 fun l7 =>
.bind 1 [.one .slc] (
.loop 2 [.one .slc, .one (.int .i64)] ({ a := l7.a, len := l7.len, cap := l7.cap }, (0, ())) (u2 fun l8 (n9 : Int) =>
.ite (decide (n9 < ((parts.len : Nat) : Int))) (
.ex [.adr] (c1 fun a10 => 0 ≤ n9 ∧ n9 < ((parts.len : Nat) : Int) ∧ parts.a = some a10) (u1 fun a11 =>
.read True (ld T.s_uint8 (Addr.add a11 (Int.toNat n9 * 1))) sL (u1 fun l12 =>
.act (app T.s_uint8 T.s_uint8 T.s_uint8 l8.v l12.v) sL (u1 fun l13 =>
.done 2 [l13.v, .int .i64 (IntKind.wrap .i64 (n9 + 1))])))) (
.done 1 [l8.v]))) (u1 fun l14 =>
.done 0 [l14.v])))
theorem wire_Join_eq (parts : Sl) : decomp P 33 ⟨okFs, []⟩ { cnd := [], blk := [(0, [(3, .one (.int .i64))]), (2, [(6, .one .slc)])], reg := [], lps := [(0, [(3, .one (.int .i64)), (11, .one (.int .i64))]), (2, [(6, .one .slc), (24, .one (.int .i64))])] } [.tmp 2] (bodyOf Go.Proofs.Tryz.f40) [.val (.slice parts.a parts.len parts.cap)] = wire_Join parts := by kernel_rfl
theorem wire_Join_calls (parts : Sl) {w : World} {R : List Value → World → Prop} (h : (wire_Join parts).wp P (fun _ => True) w fun e vs w' => e = 0 ∧ R vs w') :
    Calls P F.wire_Join #[.slice parts.a parts.len parts.cap] w fun e w' => ∃ vs, e = .returned (pack vs) ∧ R vs w' :=
  decomp_sound (isFn_of Go.Proofs.Tryz.func40 (by kernel_rfl) (by kernel_rfl) (by kernel_rfl)) okFs_ok mix [.val (.slice parts.a parts.len parts.cap)] (by rw [wire_Join_eq]; exact h)

def wire_Uint (n : Int) : Prog :=
.bind 1 [.one (.int .u64), .one .slc] (
.loop 2 [.one (.int .u64), .one .slc] (n, (⟨none, 0, 0⟩, ())) (u2 fun (n0 : Int) l1 =>
.ite (decide (n0 ≥ 128)) (
.act (Instr.buildSlice T.s_uint8 1 #[(0, .int .u8 (IntKind.wrap .u8 (((BitVec.toNat (BitVec.ofInt 8 (IntKind.wrap .u8 n0) ||| BitVec.ofInt 8 128) : Nat) : Int))))]) sL (u1 fun l2 =>
.act (app T.s_uint8 T.s_uint8 T.s_uint8 l1.v l2.v) sL (u1 fun l3 =>
.lt (.int .u64) (Int.fdiv n0 128) fun (n4 : Int) =>
.done 2 [.int .u64 n4, l3.v]))) (
.done 1 [.int .u64 n0, l1.v]))) (u2 fun (n5 : Int) l6 =>
.act (Instr.buildSlice T.s_uint8 1 #[(0, .int .u8 (IntKind.wrap .u8 n5))]) sL (u1 fun l7 =>
.act (app T.s_uint8 T.s_uint8 T.s_uint8 l6.v l7.v) sL (u1 fun l8 =>
.done 0 [l8.v])))
theorem wire_Uint_eq (n : Int) : decomp P 19 ⟨okFs, []⟩ { cnd := [], blk := [(0, [(0, .one (.int .u64)), (3, .one .slc)])], reg := [], lps := [(0, [(0, .one (.int .u64)), (3, .one .slc)])] } [.tmp 2] (bodyOf Go.Proofs.Tryz.f41) [.val (.int .u64 n)] = wire_Uint n := by kernel_rfl
theorem wire_Uint_calls (n : Int) {w : World} {R : List Value → World → Prop} (h : (wire_Uint n).wp P (fun _ => True) w fun e vs w' => e = 0 ∧ R vs w') :
    Calls P F.wire_Uint #[.int .u64 n] w fun e w' => ∃ vs, e = .returned (pack vs) ∧ R vs w' :=
  decomp_sound (isFn_of Go.Proofs.Tryz.func41 (by kernel_rfl) (by kernel_rfl) (by kernel_rfl)) okFs_ok mix [.val (.int .u64 n)] (by rw [wire_Uint_eq]; exact h)

def wire_Int (n : Int) : Prog :=
.call F.wire_Uint [.int .u64 (IntKind.wrap .u64 (((BitVec.toNat (BitVec.ofInt 64 (IntKind.wrap .u64 (IntKind.wrap .u64 n * 2)) ^^^ BitVec.ofInt 64 (IntKind.wrap .u64 (Int.fdiv n 9223372036854775808))) : Nat) : Int)))] sL (u1 fun l0 =>
.done 0 [l0.v])
theorem wire_Int_eq (n : Int) : decomp P 11 ⟨okFs, []⟩ { cnd := [], blk := [], reg := [], lps := [] } [.tmp 2] (bodyOf Go.Proofs.Tryz.f42) [.val (.int .i64 n)] = wire_Int n := by kernel_rfl
theorem wire_Int_calls (n : Int) {w : World} {R : List Value → World → Prop} (h : (wire_Int n).wp P (fun _ => True) w fun e vs w' => e = 0 ∧ R vs w') :
    Calls P F.wire_Int #[.int .i64 n] w fun e w' => ∃ vs, e = .returned (pack vs) ∧ R vs w' :=
  decomp_sound (isFn_of Go.Proofs.Tryz.func42 (by kernel_rfl) (by kernel_rfl) (by kernel_rfl)) okFs_ok mix [.val (.int .i64 n)] (by rw [wire_Int_eq]; exact h)

def frame_Seal (parts : Sl) : Prog :=
.bind 1 [.one (.int .i64)] (
.loop 2 [.one (.int .i64), .one (.int .i64)] (0, (0, ())) (u2 fun (n0 : Int) (n1 : Int) =>
.ite (decide (n1 < ((parts.len : Nat) : Int))) (
.ex [.adr] (c1 fun a2 => 0 ≤ n1 ∧ n1 < ((parts.len : Nat) : Int) ∧ parts.a = some a2) (u1 fun a3 =>
.read True (ld T.s_uint8 (Addr.add a3 (Int.toNat n1 * 1))) sL (u1 fun l4 =>
.lt (.int .i64) (IntKind.wrap .i64 (n0 + ((l4.len : Nat) : Int))) fun (n5 : Int) =>
.ite (decide (n5 > 262144)) (
.done 0 [.slice none 0 0]) (
.done 2 [.int .i64 n5, .int .i64 (IntKind.wrap .i64 (n1 + 1))])))) (
.done 1 [.int .i64 n0]))) (u1 fun (n6 : Int) =>
.act (Instr.makeSlice T.s_uint8 (.int .i64 0) (.int .i64 (IntKind.wrap .i64 (n6 + 8)))) sL (u1 fun l7 =>
.call F.frame_four [.int .u32 (IntKind.wrap .u32 n6)] sL (u1 fun l8 =>
.act (app T.s_uint8 T.s_uint8 T.s_uint8 l7.v l8.v) sL (u1 fun l9 =>
.bind 1 [.one .slc] (
.loop 2 [.one .slc, .one (.int .i64)] ({ a := l9.a, len := l9.len, cap := l9.cap }, (0, ())) (u2 fun l10 (n11 : Int) =>
.ite (decide (n11 < ((parts.len : Nat) : Int))) (
.ex [.adr] (c1 fun a12 => 0 ≤ n11 ∧ n11 < ((parts.len : Nat) : Int) ∧ parts.a = some a12) (u1 fun a13 =>
.read True (ld T.s_uint8 (Addr.add a13 (Int.toNat n11 * 1))) sL (u1 fun l14 =>
.act (app T.s_uint8 T.s_uint8 T.s_uint8 l10.v l14.v) sL (u1 fun l15 =>
.done 2 [l15.v, .int .i64 (IntKind.wrap .i64 (n11 + 1))])))) (
.done 1 [l10.v]))) (u1 fun l16 =>
.act (Instr.buildSlice T.s_s_uint8 1 #[(0, l16.v)]) sL (u1 fun l17 =>
.call F.frame_Sum [l17.v] (sI .u32) (u1 fun (n18 : Int) =>
.call F.frame_four [.int .u32 n18] sL (u1 fun l19 =>
.act (app T.s_uint8 T.s_uint8 T.s_uint8 l16.v l19.v) sL (u1 fun l20 =>
.done 0 [l20.v])))))))))
theorem frame_Seal_eq (parts : Sl) : decomp P 46 ⟨okFs, []⟩ { cnd := [], blk := [(0, [(3, .one (.int .i64))]), (2, [(6, .one .slc)])], reg := [], lps := [(0, [(3, .one (.int .i64)), (11, .one (.int .i64))]), (2, [(6, .one .slc), (32, .one (.int .i64))])] } [.tmp 2] (bodyOf Go.Proofs.Tryz.f43) [.val (.slice parts.a parts.len parts.cap)] = frame_Seal parts := by kernel_rfl
theorem frame_Seal_calls (parts : Sl) {w : World} {R : List Value → World → Prop} (h : (frame_Seal parts).wp P (fun _ => True) w fun e vs w' => e = 0 ∧ R vs w') :
    Calls P F.frame_Seal #[.slice parts.a parts.len parts.cap] w fun e w' => ∃ vs, e = .returned (pack vs) ∧ R vs w' :=
  decomp_sound (isFn_of Go.Proofs.Tryz.func43 (by kernel_rfl) (by kernel_rfl) (by kernel_rfl)) okFs_ok mix [.val (.slice parts.a parts.len parts.cap)] (by rw [frame_Seal_eq]; exact h)

def towpathref01_Uint (n : Int) : Prog :=
.ite (decide (n < 128)) (
.act (Instr.buildSlice T.s_uint8 1 #[(0, .int .u8 (IntKind.wrap .u8 n))]) sL (u1 fun l0 =>
.done 0 [l0.v])) (
.act (Instr.buildSlice T.s_uint8 1 #[(0, .int .u8 (IntKind.wrap .u8 (IntKind.wrap .u64 (Int.tmod n 128 + 128))))]) sL (u1 fun l1 =>
.call F.towpathref01_Uint [.int .u64 (IntKind.wrap .u64 (Int.tdiv n 128))] sL (u1 fun l2 =>
.act (app T.s_uint8 T.s_uint8 T.s_uint8 l1.v l2.v) sL (u1 fun l3 =>
.done 0 [l3.v]))))
theorem towpathref01_Uint_eq (n : Int) : decomp P 19 ⟨okFs, []⟩ { cnd := [], blk := [], reg := [], lps := [] } [.tmp 2] (bodyOf Go.Proofs.Tryz.f44) [.val (.int .u64 n)] = towpathref01_Uint n := by kernel_rfl
theorem towpathref01_Uint_calls (n : Int) {w : World} {R : List Value → World → Prop} (h : (towpathref01_Uint n).wp P (fun _ => True) w fun e vs w' => e = 0 ∧ R vs w') :
    Calls P F.towpathref01_Uint #[.int .u64 n] w fun e w' => ∃ vs, e = .returned (pack vs) ∧ R vs w' :=
  decomp_sound (isFn_of Go.Proofs.Tryz.func44 (by kernel_rfl) (by kernel_rfl) (by kernel_rfl)) okFs_ok mix [.val (.int .u64 n)] (by rw [towpathref01_Uint_eq]; exact h)

def towpathref01_Int (n : Int) : Prog :=
.ite (decide (n ≥ 0)) (
.call F.towpathref01_Uint [.int .u64 (IntKind.wrap .u64 (2 * IntKind.wrap .u64 n))] sL (u1 fun l0 =>
.done 0 [l0.v])) (
.call F.towpathref01_Uint [.int .u64 (IntKind.wrap .u64 (IntKind.wrap .u64 (2 * IntKind.wrap .u64 (IntKind.wrap .i64 (0 - IntKind.wrap .i64 (n + 1)))) + 1))] sL (u1 fun l1 =>
.done 0 [l1.v]))
theorem towpathref01_Int_eq (n : Int) : decomp P 16 ⟨okFs, []⟩ { cnd := [], blk := [], reg := [], lps := [] } [.tmp 2] (bodyOf Go.Proofs.Tryz.f45) [.val (.int .i64 n)] = towpathref01_Int n := by kernel_rfl
theorem towpathref01_Int_calls (n : Int) {w : World} {R : List Value → World → Prop} (h : (towpathref01_Int n).wp P (fun _ => True) w fun e vs w' => e = 0 ∧ R vs w') :
    Calls P F.towpathref01_Int #[.int .i64 n] w fun e w' => ∃ vs, e = .returned (pack vs) ∧ R vs w' :=
  decomp_sound (isFn_of Go.Proofs.Tryz.func45 (by kernel_rfl) (by kernel_rfl) (by kernel_rfl)) okFs_ok mix [.val (.int .i64 n)] (by rw [towpathref01_Int_eq]; exact h)

def towpathref02_Seal (body : Sl) : Prog :=
.ite (decide (((body.len : Nat) : Int) > 262144)) (
.done 0 [.slice none 0 0]) (
.call F.towpathref02_four [.int .u32 (IntKind.wrap .u32 (((body.len : Nat) : Int)))] sL (u1 fun l0 =>
.act (app T.s_uint8 T.s_uint8 T.s_uint8 l0.v body.v) sL (u1 fun l1 =>
.call F.towpathref02_Sum [l1.v] (sI .u32) (u1 fun (n2 : Int) =>
.call F.towpathref02_four [.int .u32 n2] sL (u1 fun l3 =>
.act (app T.s_uint8 T.s_uint8 T.s_uint8 l1.v l3.v) sL (u1 fun l4 =>
.done 0 [l4.v]))))))
theorem towpathref02_Seal_eq (body : Sl) : decomp P 19 ⟨okFs, []⟩ { cnd := [], blk := [], reg := [], lps := [] } [.tmp 2] (bodyOf Go.Proofs.Tryz.f46) [.val (.slice body.a body.len body.cap)] = towpathref02_Seal body := by kernel_rfl
theorem towpathref02_Seal_calls (body : Sl) {w : World} {R : List Value → World → Prop} (h : (towpathref02_Seal body).wp P (fun _ => True) w fun e vs w' => e = 0 ∧ R vs w') :
    Calls P F.towpathref02_Seal #[.slice body.a body.len body.cap] w fun e w' => ∃ vs, e = .returned (pack vs) ∧ R vs w' :=
  decomp_sound (isFn_of Go.Proofs.Tryz.func46 (by kernel_rfl) (by kernel_rfl) (by kernel_rfl)) okFs_ok mix [.val (.slice body.a body.len body.cap)] (by rw [towpathref02_Seal_eq]; exact h)

def towpathref07_Table_Judge (t : Option Addr) (b_0 : Int) (b_1 : Int) (b_2 : Int) (b_3 : Int) (b_4 : Int) (b_5 : Int) (b_6 : Sl) : Prog :=
.act (Instr.box T.api_Batch (.agg #[.int .i64 b_0, .int .i64 b_1, .int .i64 b_2, .int .i64 b_3, .int .i64 b_4, .int .i64 b_5, b_6.v])) sA (u1 fun a0 =>
.read True (ld T.api_Batch a0) (sG [.int .i64, .int .i64, .int .i64, .int .i64, .int .i64, .int .i64, .slc]) (u7 fun (n1 : Int) (n2 : Int) (n3 : Int) (n4 : Int) (n5 : Int) (n6 : Int) l7 =>
.call F.towpathref03_Valid [.agg #[.int .i64 n1, .int .i64 n2, .int .i64 n3, .int .i64 n4, .int .i64 n5, .int .i64 n6, l7.v]] (sI .i64) (u1 fun (n8 : Int) =>
.lt (.int .i64) (n8) fun (n9 : Int) =>
.read ((n9 != 0) = false) (ld T.int64 (Addr.add a0 1)) (sI .i64) (u1 fun (n10 : Int) =>
.ite (n9 != 0 || n10 == 0) (
.lt (.int .i64) (n9) fun (n11 : Int) =>
.done 0 [.bool false, .int .i64 0, .int .i64 n11]) (
.read True (ld T.int64 (Addr.add a0 1)) (sI .i64) (u1 fun (n12 : Int) =>
.call F.towpathref07_Table_Row [.pointer t, .int .i64 n12] (.tup [.agg [.int .i64, .int .i64, .int .i64, .int .i64, .int .i64, .int .i64, .int .i64], .one .bool]) (u8 fun (n13 : Int) (n14 : Int) (n15 : Int) (n16 : Int) (n17 : Int) (n18 : Int) (n19 : Int) b20 =>
.act (new T.towpathref07_Row) sA (u1 fun a21 =>
.actU (st T.towpathref07_Row a21 (.agg #[.int .i64 n13, .int .i64 n14, .int .i64 n15, .int .i64 n16, .int .i64 n17, .int .i64 n18, .int .i64 n19])) <|
.lt (.bool) (b20) fun b22 =>
.read True (ld T.api_Batch a0) (sG [.int .i64, .int .i64, .int .i64, .int .i64, .int .i64, .int .i64, .slc]) (u7 fun (n23 : Int) (n24 : Int) (n25 : Int) (n26 : Int) (n27 : Int) (n28 : Int) l29 =>
.call F.towpathref03_Mark [.agg #[.int .i64 n23, .int .i64 n24, .int .i64 n25, .int .i64 n26, .int .i64 n27, .int .i64 n28, l29.v]] sB (u1 fun b30 =>
.lt (.bool) (b30) fun b31 =>
.read True (ld T.int (Addr.add a0 2)) (sI .i64) (u1 fun (n32 : Int) =>
.read True (ld T.int (Addr.add a21 1)) (sI .i64) (u1 fun (n33 : Int) =>
.ite (decide (n32 < n33) && b31) (
.done 0 [.bool true, .int .i64 (-1), .int .i64 0]) (
.read True (ld T.int (Addr.add a0 2)) (sI .i64) (u1 fun (n34 : Int) =>
.read True (ld T.int (Addr.add a21 1)) (sI .i64) (u1 fun (n35 : Int) =>
.ite (decide (n34 < n35)) (
.done 0 [.bool false, .int .i64 0, .int .i64 20]) (
.read (not b31 = true) (ld T.int (Addr.add a0 2)) (sI .i64) (u1 fun (n36 : Int) =>
.read (not b31 = true) (ld T.int (Addr.add a21 1)) (sI .i64) (u1 fun (n37 : Int) =>
.read ((not b31 && n36 == n37) = true) (ld T.int (Addr.add a0 3)) (sI .i64) (u1 fun (n38 : Int) =>
.read ((not b31 && n36 == n37) = true) (ld T.s_api_Record (Addr.add a0 6)) sL (u1 fun l39 =>
.read ((not b31 && n36 == n37) = true) (ld T.int (Addr.add a21 2)) (sI .i64) (u1 fun (n40 : Int) =>
.read ((not b31 && n36 == n37) = true) (ld T.int (Addr.add a21 3)) (sI .i64) (u1 fun (n41 : Int) =>
.ite (not b31 && n36 == n37 && decide (IntKind.wrap .i64 (n38 + ((l39.len : Nat) : Int)) ≤ IntKind.wrap .i64 (n40 + n41))) (
.read True (ld T.int (Addr.add a0 3)) (sI .i64) (u1 fun (n42 : Int) =>
.read True (ld T.int (Addr.add a21 2)) (sI .i64) (u1 fun (n43 : Int) =>
.read ((n42 == n43) = true) (ld T.s_api_Record (Addr.add a0 6)) sL (u1 fun l44 =>
.read ((n42 == n43) = true) (ld T.int (Addr.add a21 3)) (sI .i64) (u1 fun (n45 : Int) =>
.ite (n42 == n43 && ((l44.len : Nat) : Int) == n45) (
.tick <|
.read True (ld T.int64 (Addr.add a21 4)) (sI .i64) (u1 fun (n46 : Int) =>
.lt (.int .i64) (n46) fun (n47 : Int) =>
.untick <|
.done 0 [.bool true, .int .i64 n47, .int .i64 0])) (
.done 0 [.bool true, .int .i64 (-1), .int .i64 0])))))) (
.read True (ld T.int64 (Addr.add a21 5)) (sI .i64) (u1 fun (n48 : Int) =>
.read (decide (n48 ≥ 0) = true) (ld T.int (Addr.add a0 2)) (sI .i64) (u1 fun (n49 : Int) =>
.read (decide (n48 ≥ 0) = true) (ld T.int (Addr.add a21 1)) (sI .i64) (u1 fun (n50 : Int) =>
.read (decide (n48 ≥ 0) = true ∧ decide (n49 > n50) = false) (ld T.int (Addr.add a0 4)) (sI .i64) (u1 fun (n51 : Int) =>
.ite (decide (n48 ≥ 0) && (decide (n49 > n50) || n51 == 0)) (
.done 0 [.bool false, .int .i64 0, .int .i64 22]) (
.read (not b31 = true) (ld T.int (Addr.add a0 2)) (sI .i64) (u1 fun (n52 : Int) =>
.read (not b31 = true) (ld T.int (Addr.add a21 1)) (sI .i64) (u1 fun (n53 : Int) =>
.read (not b31 = true ∧ (n52 == n53) = true) (ld T.int (Addr.add a0 3)) (sI .i64) (u1 fun (n54 : Int) =>
.read (not b31 = true ∧ (n52 == n53) = true) (ld T.int (Addr.add a21 2)) (sI .i64) (u1 fun (n55 : Int) =>
.read (not b31 = true ∧ (n52 == n53) = true) (ld T.int (Addr.add a21 3)) (sI .i64) (u1 fun (n56 : Int) =>
.read (not b31 = true ∧ (n52 == n53 && n54 != IntKind.wrap .i64 (n55 + n56)) = false) (ld T.int (Addr.add a0 2)) (sI .i64) (u1 fun (n57 : Int) =>
.read (not b31 = true ∧ (n52 == n53 && n54 != IntKind.wrap .i64 (n55 + n56)) = false) (ld T.int (Addr.add a21 1)) (sI .i64) (u1 fun (n58 : Int) =>
.read ((not b31 = true ∧ (n52 == n53 && n54 != IntKind.wrap .i64 (n55 + n56)) = false) ∧ decide (n57 > n58) = true) (ld T.int (Addr.add a0 3)) (sI .i64) (u1 fun (n59 : Int) =>
.ite (not b31 && (n52 == n53 && n54 != IntKind.wrap .i64 (n55 + n56) || decide (n57 > n58) && n59 != 0)) (
.done 0 [.bool false, .int .i64 0, .int .i64 21]) (
.tick <|
.ex [.adr] (c1 fun a60 => not b22 = true → t = some a60) (u1 fun a61 =>
.read (not b22 = true) (ld T.s_towpathref07_Row (Addr.add a61 2)) sL (u1 fun l62 =>
.ex [.adr] (c1 fun a63 => not b22 = true → t = some a63) (u1 fun a64 =>
.read (not b22 = true) (ld T.int (Addr.add a64 0)) (sI .i64) (u1 fun (n65 : Int) =>
.untick <|
.ite (not b22 && decide (((l62.len : Nat) : Int) ≥ n65)) (
.done 0 [.bool false, .int .i64 0, .int .i64 5]) (
.done 0 [.bool false, .int .i64 0, .int .i64 0]))))))))))))))))))))))))))))))))))))))))))
theorem towpathref07_Table_Judge_eq (t : Option Addr) (b_0 : Int) (b_1 : Int) (b_2 : Int) (b_3 : Int) (b_4 : Int) (b_5 : Int) (b_6 : Sl) : decomp P 141 ⟨okFs, []⟩ { cnd := [], blk := [], reg := [], lps := [] } [.tmp 4, .tmp 5, .tmp 6] (bodyOf Go.Proofs.Tryz.f47) [.val (.pointer t), .val (.agg #[.int .i64 b_0, .int .i64 b_1, .int .i64 b_2, .int .i64 b_3, .int .i64 b_4, .int .i64 b_5, .slice b_6.a b_6.len b_6.cap])] = towpathref07_Table_Judge t b_0 b_1 b_2 b_3 b_4 b_5 b_6 := by kernel_rfl
theorem towpathref07_Table_Judge_calls (t : Option Addr) (b_0 : Int) (b_1 : Int) (b_2 : Int) (b_3 : Int) (b_4 : Int) (b_5 : Int) (b_6 : Sl) {w : World} {R : List Value → World → Prop} (h : (towpathref07_Table_Judge t b_0 b_1 b_2 b_3 b_4 b_5 b_6).wp P (fun _ => True) w fun e vs w' => e = 0 ∧ R vs w') :
    Calls P F.towpathref07_Table_Judge #[.pointer t, .agg #[.int .i64 b_0, .int .i64 b_1, .int .i64 b_2, .int .i64 b_3, .int .i64 b_4, .int .i64 b_5, .slice b_6.a b_6.len b_6.cap]] w fun e w' => ∃ vs, e = .returned (pack vs) ∧ R vs w' :=
  decomp_sound (isFn_of Go.Proofs.Tryz.func47 (by kernel_rfl) (by kernel_rfl) (by kernel_rfl)) okFs_ok mix [.val (.pointer t), .val (.agg #[.int .i64 b_0, .int .i64 b_1, .int .i64 b_2, .int .i64 b_3, .int .i64 b_4, .int .i64 b_5, .slice b_6.a b_6.len b_6.cap])] (by rw [towpathref07_Table_Judge_eq]; exact h)

def towpathref03_Span (b_0 : Int) (b_1 : Int) (b_2 : Int) (b_3 : Int) (b_4 : Int) (b_5 : Int) (b_6 : Sl) : Prog :=
.act (Instr.box T.api_Batch (.agg #[.int .i64 b_0, .int .i64 b_1, .int .i64 b_2, .int .i64 b_3, .int .i64 b_4, .int .i64 b_5, b_6.v])) sA (u1 fun a0 =>
.read True (ld T.api_Batch a0) (sG [.int .i64, .int .i64, .int .i64, .int .i64, .int .i64, .int .i64, .slc]) (u7 fun (n1 : Int) (n2 : Int) (n3 : Int) (n4 : Int) (n5 : Int) (n6 : Int) l7 =>
.call F.towpathref03_Mark [.agg #[.int .i64 n1, .int .i64 n2, .int .i64 n3, .int .i64 n4, .int .i64 n5, .int .i64 n6, l7.v]] sB (u1 fun b8 =>
.ite (b8) (
.done 0 [.int .i64 1]) (
.read True (ld T.s_api_Record (Addr.add a0 6)) sL (u1 fun l9 =>
.lt (.int .i64) (((l9.len : Nat) : Int)) fun (n10 : Int) =>
.done 0 [.int .i64 n10])))))
theorem towpathref03_Span_eq (b_0 : Int) (b_1 : Int) (b_2 : Int) (b_3 : Int) (b_4 : Int) (b_5 : Int) (b_6 : Sl) : decomp P 8 ⟨okFs, []⟩ { cnd := [], blk := [], reg := [], lps := [] } [.tmp 2] (bodyOf Go.Proofs.Tryz.f50) [.val (.agg #[.int .i64 b_0, .int .i64 b_1, .int .i64 b_2, .int .i64 b_3, .int .i64 b_4, .int .i64 b_5, .slice b_6.a b_6.len b_6.cap])] = towpathref03_Span b_0 b_1 b_2 b_3 b_4 b_5 b_6 := by kernel_rfl
theorem towpathref03_Span_calls (b_0 : Int) (b_1 : Int) (b_2 : Int) (b_3 : Int) (b_4 : Int) (b_5 : Int) (b_6 : Sl) {w : World} {R : List Value → World → Prop} (h : (towpathref03_Span b_0 b_1 b_2 b_3 b_4 b_5 b_6).wp P (fun _ => True) w fun e vs w' => e = 0 ∧ R vs w') :
    Calls P F.towpathref03_Span #[.agg #[.int .i64 b_0, .int .i64 b_1, .int .i64 b_2, .int .i64 b_3, .int .i64 b_4, .int .i64 b_5, .slice b_6.a b_6.len b_6.cap]] w fun e w' => ∃ vs, e = .returned (pack vs) ∧ R vs w' :=
  decomp_sound (isFn_of Go.Proofs.Tryz.func50 (by kernel_rfl) (by kernel_rfl) (by kernel_rfl)) okFs_ok mix [.val (.agg #[.int .i64 b_0, .int .i64 b_1, .int .i64 b_2, .int .i64 b_3, .int .i64 b_4, .int .i64 b_5, .slice b_6.a b_6.len b_6.cap])] (by rw [towpathref03_Span_eq]; exact h)

def towpathref07_Table_Row (t : Option Addr) (pid : Int) : Prog :=
.act (new T.towpathref07_Row) sA (u1 fun a0 =>
.call F.towpathref07_Table_find [.pointer t, .int .i64 pid] (sI .i64) (u1 fun (n1 : Int) =>
.lt (.int .i64) (n1) fun (n2 : Int) =>
.ite (decide (n2 < 0)) (
.actU (st T.towpathref07_Row a0 (.agg #[.int .i64 pid, .int .i64 (-1), .int .i64 0, .int .i64 0, .int .i64 0, .int .i64 (-1), .int .i64 0])) <|
.read True (ld T.towpathref07_Row a0) (sG [.int .i64, .int .i64, .int .i64, .int .i64, .int .i64, .int .i64, .int .i64]) (u7 fun (n3 : Int) (n4 : Int) (n5 : Int) (n6 : Int) (n7 : Int) (n8 : Int) (n9 : Int) =>
.done 0 [.agg #[.int .i64 n3, .int .i64 n4, .int .i64 n5, .int .i64 n6, .int .i64 n7, .int .i64 n8, .int .i64 n9], .bool false])) (
.ex [.adr] (c1 fun a10 => t = some a10) (u1 fun a11 =>
.read True (ld T.s_towpathref07_Row (Addr.add a11 2)) sL (u1 fun l12 =>
.ex [.adr] (c1 fun a13 => 0 ≤ n2 ∧ n2 < ((l12.len : Nat) : Int) ∧ l12.a = some a13) (u1 fun a14 =>
.read True (ld T.towpathref07_Row (Addr.add a14 (Int.toNat n2 * 7))) (sG [.int .i64, .int .i64, .int .i64, .int .i64, .int .i64, .int .i64, .int .i64]) (u7 fun (n15 : Int) (n16 : Int) (n17 : Int) (n18 : Int) (n19 : Int) (n20 : Int) (n21 : Int) =>
.actU (st T.towpathref07_Row a0 (.agg #[.int .i64 n15, .int .i64 n16, .int .i64 n17, .int .i64 n18, .int .i64 n19, .int .i64 n20, .int .i64 n21])) <|
.read True (ld T.towpathref07_Row a0) (sG [.int .i64, .int .i64, .int .i64, .int .i64, .int .i64, .int .i64, .int .i64]) (u7 fun (n22 : Int) (n23 : Int) (n24 : Int) (n25 : Int) (n26 : Int) (n27 : Int) (n28 : Int) =>
.done 0 [.agg #[.int .i64 n22, .int .i64 n23, .int .i64 n24, .int .i64 n25, .int .i64 n26, .int .i64 n27, .int .i64 n28], .bool true]))))))))
theorem towpathref07_Table_Row_eq (t : Option Addr) (pid : Int) : decomp P 21 ⟨okFs, []⟩ { cnd := [], blk := [], reg := [], lps := [] } [.cell 4 54, .tmp 5] (bodyOf Go.Proofs.Tryz.f51) [.val (.pointer t), .val (.int .i64 pid)] = towpathref07_Table_Row t pid := by kernel_rfl
theorem towpathref07_Table_Row_calls (t : Option Addr) (pid : Int) {w : World} {R : List Value → World → Prop} (h : (towpathref07_Table_Row t pid).wp P (fun _ => True) w fun e vs w' => e = 0 ∧ R vs w') :
    Calls P F.towpathref07_Table_Row #[.pointer t, .int .i64 pid] w fun e w' => ∃ vs, e = .returned (pack vs) ∧ R vs w' :=
  decomp_sound (isFn_of Go.Proofs.Tryz.func51 (by kernel_rfl) (by kernel_rfl) (by kernel_rfl)) okFs_ok mix [.val (.pointer t), .val (.int .i64 pid)] (by rw [towpathref07_Table_Row_eq]; exact h)

def towpathref03_Mark (b_0 : Int) (b_1 : Int) (b_2 : Int) (b_3 : Int) (b_4 : Int) (b_5 : Int) (b_6 : Sl) : Prog :=
.act (Instr.box T.api_Batch (.agg #[.int .i64 b_0, .int .i64 b_1, .int .i64 b_2, .int .i64 b_3, .int .i64 b_4, .int .i64 b_5, b_6.v])) sA (u1 fun a0 =>
.read True (ld T.int (Addr.add a0 4)) (sI .i64) (u1 fun (n1 : Int) =>
.read ((n1 == 2) = false) (ld T.int (Addr.add a0 4)) (sI .i64) (u1 fun (n2 : Int) =>
.lt (.bool) (n1 == 2 || n2 == 3) fun b3 =>
.done 0 [.bool b3])))
theorem towpathref03_Mark_eq (b_0 : Int) (b_1 : Int) (b_2 : Int) (b_3 : Int) (b_4 : Int) (b_5 : Int) (b_6 : Sl) : decomp P 11 ⟨okFs, []⟩ { cnd := [], blk := [], reg := [], lps := [] } [.tmp 2] (bodyOf Go.Proofs.Tryz.f52) [.val (.agg #[.int .i64 b_0, .int .i64 b_1, .int .i64 b_2, .int .i64 b_3, .int .i64 b_4, .int .i64 b_5, .slice b_6.a b_6.len b_6.cap])] = towpathref03_Mark b_0 b_1 b_2 b_3 b_4 b_5 b_6 := by kernel_rfl
theorem towpathref03_Mark_calls (b_0 : Int) (b_1 : Int) (b_2 : Int) (b_3 : Int) (b_4 : Int) (b_5 : Int) (b_6 : Sl) {w : World} {R : List Value → World → Prop} (h : (towpathref03_Mark b_0 b_1 b_2 b_3 b_4 b_5 b_6).wp P (fun _ => True) w fun e vs w' => e = 0 ∧ R vs w') :
    Calls P F.towpathref03_Mark #[.agg #[.int .i64 b_0, .int .i64 b_1, .int .i64 b_2, .int .i64 b_3, .int .i64 b_4, .int .i64 b_5, .slice b_6.a b_6.len b_6.cap]] w fun e w' => ∃ vs, e = .returned (pack vs) ∧ R vs w' :=
  decomp_sound (isFn_of Go.Proofs.Tryz.func52 (by kernel_rfl) (by kernel_rfl) (by kernel_rfl)) okFs_ok mix [.val (.agg #[.int .i64 b_0, .int .i64 b_1, .int .i64 b_2, .int .i64 b_3, .int .i64 b_4, .int .i64 b_5, .slice b_6.a b_6.len b_6.cap])] (by rw [towpathref03_Mark_eq]; exact h)

def towpathref07_Table_put (t : Option Addr) (x_0 : Int) (x_1 : Int) (x_2 : Int) (x_3 : Int) (x_4 : Int) (x_5 : Int) (x_6 : Int) : Prog :=
.act (Instr.box T.towpathref07_Row (.agg #[.int .i64 x_0, .int .i64 x_1, .int .i64 x_2, .int .i64 x_3, .int .i64 x_4, .int .i64 x_5, .int .i64 x_6])) sA (u1 fun a0 =>
.ex [.adr] (c1 fun a1 => t = some a1) (u1 fun a2 =>
.read True (ld T.s_towpathref07_Row (Addr.add a2 2)) sL (u1 fun l3 =>
.bind 1 [.one .slc, .one .bool] (
.loop 2 [.one .slc, .one .bool, .one (.int .i64)] (⟨none, 0, 0⟩, (false, (0, ()))) (u3 fun l4 b5 (n6 : Int) =>
.ite (decide (n6 < ((l3.len : Nat) : Int))) (
.ex [.adr] (c1 fun a7 => 0 ≤ n6 ∧ n6 < ((l3.len : Nat) : Int) ∧ l3.a = some a7) (u1 fun a8 =>
.read True (ld T.towpathref07_Row (Addr.add a8 (Int.toNat n6 * 7))) (sG [.int .i64, .int .i64, .int .i64, .int .i64, .int .i64, .int .i64, .int .i64]) (u7 fun (n9 : Int) (n10 : Int) (n11 : Int) (n12 : Int) (n13 : Int) (n14 : Int) (n15 : Int) =>
.act (new T.towpathref07_Row) sA (u1 fun a16 =>
.actU (st T.towpathref07_Row a16 (.agg #[.int .i64 n9, .int .i64 n10, .int .i64 n11, .int .i64 n12, .int .i64 n13, .int .i64 n14, .int .i64 n15])) <|
.read (not b5 = true) (ld T.int64 (Addr.add a16 0)) (sI .i64) (u1 fun (n17 : Int) =>
.read (not b5 = true) (ld T.int64 (Addr.add a0 0)) (sI .i64) (u1 fun (n18 : Int) =>
.bind 3 [.one .slc, .one .bool] (
.ite (not b5 && decide (n17 ≥ n18)) (
.read True (ld T.towpathref07_Row a0) (sG [.int .i64, .int .i64, .int .i64, .int .i64, .int .i64, .int .i64, .int .i64]) (u7 fun (n19 : Int) (n20 : Int) (n21 : Int) (n22 : Int) (n23 : Int) (n24 : Int) (n25 : Int) =>
.act (Instr.buildSlice T.s_towpathref07_Row 1 #[(0, .agg #[.int .i64 n19, .int .i64 n20, .int .i64 n21, .int .i64 n22, .int .i64 n23, .int .i64 n24, .int .i64 n25])]) sL (u1 fun l26 =>
.act (app T.s_towpathref07_Row T.s_towpathref07_Row T.s_towpathref07_Row l4.v l26.v) sL (u1 fun l27 =>
.done 3 [l27.v, .bool true])))) (
.done 3 [l4.v, .bool b5])) (u2 fun l28 b29 =>
.read True (ld T.int64 (Addr.add a16 0)) (sI .i64) (u1 fun (n30 : Int) =>
.read True (ld T.int64 (Addr.add a0 0)) (sI .i64) (u1 fun (n31 : Int) =>
.bind 3 [.one .slc] (
.ite (n30 != n31) (
.read True (ld T.towpathref07_Row a16) (sG [.int .i64, .int .i64, .int .i64, .int .i64, .int .i64, .int .i64, .int .i64]) (u7 fun (n32 : Int) (n33 : Int) (n34 : Int) (n35 : Int) (n36 : Int) (n37 : Int) (n38 : Int) =>
.act (Instr.buildSlice T.s_towpathref07_Row 1 #[(0, .agg #[.int .i64 n32, .int .i64 n33, .int .i64 n34, .int .i64 n35, .int .i64 n36, .int .i64 n37, .int .i64 n38])]) sL (u1 fun l39 =>
.act (app T.s_towpathref07_Row T.s_towpathref07_Row T.s_towpathref07_Row l28.v l39.v) sL (u1 fun l40 =>
.done 3 [l40.v])))) (
.done 3 [l28.v])) (u1 fun l41 =>
.done 2 [l41.v, .bool b29, .int .i64 (IntKind.wrap .i64 (n6 + 1))])))))))))) (
.done 1 [l4.v, .bool b5]))) (u2 fun l42 b43 =>
.bind 1 [.one .slc] (
.ite (not b43) (
.read True (ld T.towpathref07_Row a0) (sG [.int .i64, .int .i64, .int .i64, .int .i64, .int .i64, .int .i64, .int .i64]) (u7 fun (n44 : Int) (n45 : Int) (n46 : Int) (n47 : Int) (n48 : Int) (n49 : Int) (n50 : Int) =>
.act (Instr.buildSlice T.s_towpathref07_Row 1 #[(0, .agg #[.int .i64 n44, .int .i64 n45, .int .i64 n46, .int .i64 n47, .int .i64 n48, .int .i64 n49, .int .i64 n50])]) sL (u1 fun l51 =>
.act (app T.s_towpathref07_Row T.s_towpathref07_Row T.s_towpathref07_Row l42.v l51.v) sL (u1 fun l52 =>
.done 1 [l52.v])))) (
.done 1 [l42.v])) (u1 fun l53 =>
.ex [.adr] (c1 fun a54 => t = some a54) (u1 fun a55 =>
.actU (st T.s_towpathref07_Row (Addr.add a55 2) l53.v) <|
.done 0 []))))))
theorem towpathref07_Table_put_eq (t : Option Addr) (x_0 : Int) (x_1 : Int) (x_2 : Int) (x_3 : Int) (x_4 : Int) (x_5 : Int) (x_6 : Int) : decomp P 50 ⟨okFs, []⟩ { cnd := [(4123168800793, [(4, .one .slc), (5, .one .bool)]), (2111062325395490, [(4, .one .slc)]), (270215977642295337, [(4, .one .slc)])], blk := [(0, [(4, .one .slc), (5, .one .bool)])], reg := [], lps := [(0, [(4, .one .slc), (5, .one .bool), (13, .one (.int .i64))])] } [] (bodyOf Go.Proofs.Tryz.f53) [.val (.pointer t), .val (.agg #[.int .i64 x_0, .int .i64 x_1, .int .i64 x_2, .int .i64 x_3, .int .i64 x_4, .int .i64 x_5, .int .i64 x_6])] = towpathref07_Table_put t x_0 x_1 x_2 x_3 x_4 x_5 x_6 := by kernel_rfl
theorem towpathref07_Table_put_calls (t : Option Addr) (x_0 : Int) (x_1 : Int) (x_2 : Int) (x_3 : Int) (x_4 : Int) (x_5 : Int) (x_6 : Int) {w : World} {R : List Value → World → Prop} (h : (towpathref07_Table_put t x_0 x_1 x_2 x_3 x_4 x_5 x_6).wp P (fun _ => True) w fun e vs w' => e = 0 ∧ R vs w') :
    Calls P F.towpathref07_Table_put #[.pointer t, .agg #[.int .i64 x_0, .int .i64 x_1, .int .i64 x_2, .int .i64 x_3, .int .i64 x_4, .int .i64 x_5, .int .i64 x_6]] w fun e w' => ∃ vs, e = .returned (pack vs) ∧ R vs w' :=
  decomp_sound (isFn_of Go.Proofs.Tryz.func53 (by kernel_rfl) (by kernel_rfl) (by kernel_rfl)) okFs_ok mix [.val (.pointer t), .val (.agg #[.int .i64 x_0, .int .i64 x_1, .int .i64 x_2, .int .i64 x_3, .int .i64 x_4, .int .i64 x_5, .int .i64 x_6])] (by rw [towpathref07_Table_put_eq]; exact h)

def frame_Open (b : Sl) : Prog :=
.call F.frame_First [b.v] (.tup [.one .slc, .one (.int .i64), .one .bool]) (u3 fun l0 (n1 : Int) b2 =>
.lt (.int .i64) (n1) fun (n3 : Int) =>
.lt (.bool) (b2) fun b4 =>
.ite (not b4 || n3 != ((b.len : Nat) : Int)) (
.done 0 [.slice none 0 0, .bool false]) (
.done 0 [l0.v, .bool true]))
theorem frame_Open_eq (b : Sl) : decomp P 22 ⟨okFs, []⟩ { cnd := [], blk := [], reg := [], lps := [] } [.tmp 2, .tmp 3] (bodyOf Go.Proofs.Tryz.f55) [.val (.slice b.a b.len b.cap)] = frame_Open b := by kernel_rfl
theorem frame_Open_calls (b : Sl) {w : World} {R : List Value → World → Prop} (h : (frame_Open b).wp P (fun _ => True) w fun e vs w' => e = 0 ∧ R vs w') :
    Calls P F.frame_Open #[.slice b.a b.len b.cap] w fun e w' => ∃ vs, e = .returned (pack vs) ∧ R vs w' :=
  decomp_sound (isFn_of Go.Proofs.Tryz.func55 (by kernel_rfl) (by kernel_rfl) (by kernel_rfl)) okFs_ok mix [.val (.slice b.a b.len b.cap)] (by rw [frame_Open_eq]; exact h)

def wire_NewReader (b : Sl) : Prog :=
.call F.bytes_Clone [b.v] sL (u1 fun l0 =>
.act (Instr.box T.wire_Reader (.agg #[l0.v, .int .i64 0, .int .i64 0])) sA (u1 fun a1 =>
.done 0 [.pointer (some a1)]))
theorem wire_NewReader_eq (b : Sl) : decomp P 8 ⟨okFs, []⟩ { cnd := [], blk := [], reg := [], lps := [] } [.tmp 2] (bodyOf Go.Proofs.Tryz.f56) [.val (.slice b.a b.len b.cap)] = wire_NewReader b := by kernel_rfl
theorem wire_NewReader_calls (b : Sl) {w : World} {R : List Value → World → Prop} (h : (wire_NewReader b).wp P (fun _ => True) w fun e vs w' => e = 0 ∧ R vs w') :
    Calls P F.wire_NewReader #[.slice b.a b.len b.cap] w fun e w' => ∃ vs, e = .returned (pack vs) ∧ R vs w' :=
  decomp_sound (isFn_of Go.Proofs.Tryz.func56 (by kernel_rfl) (by kernel_rfl) (by kernel_rfl)) okFs_ok mix [.val (.slice b.a b.len b.cap)] (by rw [wire_NewReader_eq]; exact h)

def dedup_upto (r : Option Addr) (most : Int) : Prog :=
.call F.wire_Reader_Uint [.pointer r] (sI .u64) (u1 fun (n0 : Int) =>
.lt (.int .u64) (n0) fun (n1 : Int) =>
.ite (decide (n1 > IntKind.wrap .u64 most)) (
.lt (.int .i64) (IntKind.wrap .i64 (most + 1)) fun (n2 : Int) =>
.done 0 [.int .i64 n2]) (
.lt (.int .i64) (IntKind.wrap .i64 n1) fun (n3 : Int) =>
.done 0 [.int .i64 n3]))
theorem dedup_upto_eq (r : Option Addr) (most : Int) : decomp P 16 ⟨okFs, []⟩ { cnd := [], blk := [], reg := [], lps := [] } [.tmp 4] (bodyOf Go.Proofs.Tryz.f57) [.val (.pointer r), .val (.int .i64 most)] = dedup_upto r most := by kernel_rfl
theorem dedup_upto_calls (r : Option Addr) (most : Int) {w : World} {R : List Value → World → Prop} (h : (dedup_upto r most).wp P (fun _ => True) w fun e vs w' => e = 0 ∧ R vs w') :
    Calls P F.dedup_upto #[.pointer r, .int .i64 most] w fun e w' => ∃ vs, e = .returned (pack vs) ∧ R vs w' :=
  decomp_sound (isFn_of Go.Proofs.Tryz.func57 (by kernel_rfl) (by kernel_rfl) (by kernel_rfl)) okFs_ok mix [.val (.pointer r), .val (.int .i64 most)] (by rw [dedup_upto_eq]; exact h)

def wire_Reader_Within (r : Option Addr) (lo : Int) (hi : Int) : Prog :=
.call F.wire_Reader_good [.pointer r] sB (u1 fun b0 =>
.ite (not b0) (
.done 0 [.int .i64 0]) (
.ex [.adr] (c1 fun a1 => r = some a1) (u1 fun a2 =>
.read True (ld T.int (Addr.add (Addr.add a2 0) 1)) (sI .i64) (u1 fun (n3 : Int) =>
.lt (.int .i64) (n3) fun (n4 : Int) =>
.call F.wire_Reader_Int [.pointer r] (sI .i64) (u1 fun (n5 : Int) =>
.lt (.int .i64) (n5) fun (n6 : Int) =>
.ex [.adr] (c1 fun a7 => r = some a7) (u1 fun a8 =>
.read True (ld T.api_Errno (Addr.add (Addr.add a8 0) 2)) (sI .i64) (u1 fun (n9 : Int) =>
.bind 1 [] (
.ite (n9 == 0 && (decide (n6 < lo) || decide (n6 > hi))) (
.ex [.adr] (c1 fun a10 => r = some a10) (u1 fun a11 =>
.actU (st T.int (Addr.add (Addr.add a11 0) 1) (.int .i64 n4)) <|
.ex [.adr] (c1 fun a12 => r = some a12) (u1 fun a13 =>
.call F.wire_place_fail [.pointer (some (Addr.add a13 0)), .int .i64 8] (.tup []) (u0 <|
.done 1 [])))) (
.done 1 [])) (u0 <|
.ex [.adr] (c1 fun a14 => r = some a14) (u1 fun a15 =>
.read True (ld T.api_Errno (Addr.add (Addr.add a15 0) 2)) (sI .i64) (u1 fun (n16 : Int) =>
.ite (n16 != 0) (
.done 0 [.int .i64 0]) (
.lt (.int .i64) (n6) fun (n17 : Int) =>
.done 0 [.int .i64 n17])))))))))))
theorem wire_Reader_Within_eq (r : Option Addr) (lo : Int) (hi : Int) : decomp P 51 ⟨okFs, []⟩ { cnd := [(71916856549572642, [])], blk := [], reg := [], lps := [] } [.tmp 6] (bodyOf Go.Proofs.Tryz.f58) [.val (.pointer r), .val (.int .i64 lo), .val (.int .i64 hi)] = wire_Reader_Within r lo hi := by kernel_rfl
theorem wire_Reader_Within_calls (r : Option Addr) (lo : Int) (hi : Int) {w : World} {R : List Value → World → Prop} (h : (wire_Reader_Within r lo hi).wp P (fun _ => True) w fun e vs w' => e = 0 ∧ R vs w') :
    Calls P F.wire_Reader_Within #[.pointer r, .int .i64 lo, .int .i64 hi] w fun e w' => ∃ vs, e = .returned (pack vs) ∧ R vs w' :=
  decomp_sound (isFn_of Go.Proofs.Tryz.func58 (by kernel_rfl) (by kernel_rfl) (by kernel_rfl)) okFs_ok mix [.val (.pointer r), .val (.int .i64 lo), .val (.int .i64 hi)] (by rw [wire_Reader_Within_eq]; exact h)

def wire_Reader_Err (r : Option Addr) : Prog :=
.ite (Option.isNone r) (
.done 0 [.int .i64 1]) (
.ex [.adr] (c1 fun a0 => r = some a0) (u1 fun a1 =>
.read True (ld T.api_Errno (Addr.add (Addr.add a1 0) 2)) (sI .i64) (u1 fun (n2 : Int) =>
.lt (.int .i64) (n2) fun (n3 : Int) =>
.done 0 [.int .i64 n3])))
theorem wire_Reader_Err_eq (r : Option Addr) : decomp P 10 ⟨okFs, []⟩ { cnd := [], blk := [], reg := [], lps := [] } [.tmp 2] (bodyOf Go.Proofs.Tryz.f59) [.val (.pointer r)] = wire_Reader_Err r := by kernel_rfl
theorem wire_Reader_Err_calls (r : Option Addr) {w : World} {R : List Value → World → Prop} (h : (wire_Reader_Err r).wp P (fun _ => True) w fun e vs w' => e = 0 ∧ R vs w') :
    Calls P F.wire_Reader_Err #[.pointer r] w fun e w' => ∃ vs, e = .returned (pack vs) ∧ R vs w' :=
  decomp_sound (isFn_of Go.Proofs.Tryz.func59 (by kernel_rfl) (by kernel_rfl) (by kernel_rfl)) okFs_ok mix [.val (.pointer r)] (by rw [wire_Reader_Err_eq]; exact h)

def dedup_may (r_0 : Int) (r_1 : Int) (r_2 : Int) (r_3 : Int) (r_4 : Int) (r_5 : Int) (r_6 : Int) (next_ : Int) : Prog :=
.act (Instr.box T.dedup_Row (.agg #[.int .i64 r_0, .int .i64 r_1, .int .i64 r_2, .int .i64 r_3, .int .i64 r_4, .int .i64 r_5, .int .i64 r_6])) sA (u1 fun a0 =>
.read True (ld T.int64 (Addr.add a0 0)) (sI .i64) (u1 fun (n1 : Int) =>
.read (decide (n1 < 1) = false) (ld T.int64 (Addr.add a0 0)) (sI .i64) (u1 fun (n2 : Int) =>
.read ((decide (n1 < 1) || decide (n2 > 1048576)) = false) (ld T.int (Addr.add a0 1)) (sI .i64) (u1 fun (n3 : Int) =>
.read ((decide (n1 < 1) || decide (n2 > 1048576) || decide (n3 > 32768)) = false) (ld T.int64 (Addr.add a0 6)) (sI .i64) (u1 fun (n4 : Int) =>
.read ((decide (n1 < 1) || decide (n2 > 1048576) || decide (n3 > 32768) || decide (n4 > 1099511627776)) = false) (ld T.int (Addr.add a0 3)) (sI .i64) (u1 fun (n5 : Int) =>
.ite (decide (n1 < 1) || decide (n2 > 1048576) || decide (n3 > 32768) || decide (n4 > 1099511627776) || decide (n5 > 64)) (
.done 0 [.bool false]) (
.read True (ld T.int (Addr.add a0 3)) (sI .i64) (u1 fun (n6 : Int) =>
.ite (n6 == 0) (
.read True (ld T.int (Addr.add a0 2)) (sI .i64) (u1 fun (n7 : Int) =>
.read ((n7 == 0) = true) (ld T.int64 (Addr.add a0 4)) (sI .i64) (u1 fun (n8 : Int) =>
.read ((n7 == 0 && n8 == 0) = true) (ld T.int64 (Addr.add a0 5)) (sI .i64) (u1 fun (n9 : Int) =>
.lt (.bool) (n7 == 0 && n8 == 0 && n9 == -1) fun b10 =>
.done 0 [.bool b10])))) (
.bind 1 [.one .bool] (
.read True (ld T.int (Addr.add a0 1)) (sI .i64) (u1 fun (n11 : Int) =>
.read (decide (n11 ≤ 32767) = true) (ld T.dedup_Row a0) (sG [.int .i64, .int .i64, .int .i64, .int .i64, .int .i64, .int .i64, .int .i64]) (u7 fun (n12 : Int) (n13 : Int) (n14 : Int) (n15 : Int) (n16 : Int) (n17 : Int) (n18 : Int) =>
.ite (decide (n11 ≤ 32767)) (
.call F.dedup_Row_next [.agg #[.int .i64 n12, .int .i64 n13, .int .i64 n14, .int .i64 n15, .int .i64 n16, .int .i64 n17, .int .i64 n18]] (sI .i64) (u1 fun (n19 : Int) =>
.read (decide (n19 ≤ 2147483648) = true) (ld T.int64 (Addr.add a0 4)) (sI .i64) (u1 fun (n20 : Int) =>
.read (decide (n19 ≤ 2147483648) = true) (ld T.int (Addr.add a0 3)) (sI .i64) (u1 fun (n21 : Int) =>
.read ((decide (n19 ≤ 2147483648) && decide (IntKind.wrap .i64 (n20 + n21) ≤ next_)) = true) (ld T.int64 (Addr.add a0 5)) (sI .i64) (u1 fun (n22 : Int) =>
.read ((decide (n19 ≤ 2147483648) && decide (IntKind.wrap .i64 (n20 + n21) ≤ next_)) = true) (ld T.int64 (Addr.add a0 4)) (sI .i64) (u1 fun (n23 : Int) =>
.lt (.bool) (decide (n19 ≤ 2147483648) && decide (IntKind.wrap .i64 (n20 + n21) ≤ next_) && decide (n22 ≤ n23)) fun b24 =>
.done 1 [.bool b24])))))) (
.done 1 [.bool false])))) (u1 fun b25 =>
.done 0 [.bool b25]))))))))))
theorem dedup_may_eq (r_0 : Int) (r_1 : Int) (r_2 : Int) (r_3 : Int) (r_4 : Int) (r_5 : Int) (r_6 : Int) (next_ : Int) : decomp P 68 ⟨okFs, []⟩ { cnd := [], blk := [], reg := [(5, [(4, .one .bool)])], lps := [] } [.tmp 4] (bodyOf Go.Proofs.Tryz.f60) [.val (.agg #[.int .i64 r_0, .int .i64 r_1, .int .i64 r_2, .int .i64 r_3, .int .i64 r_4, .int .i64 r_5, .int .i64 r_6]), .val (.int .i64 next_)] = dedup_may r_0 r_1 r_2 r_3 r_4 r_5 r_6 next_ := by kernel_rfl
theorem dedup_may_calls (r_0 : Int) (r_1 : Int) (r_2 : Int) (r_3 : Int) (r_4 : Int) (r_5 : Int) (r_6 : Int) (next_ : Int) {w : World} {R : List Value → World → Prop} (h : (dedup_may r_0 r_1 r_2 r_3 r_4 r_5 r_6 next_).wp P (fun _ => True) w fun e vs w' => e = 0 ∧ R vs w') :
    Calls P F.dedup_may #[.agg #[.int .i64 r_0, .int .i64 r_1, .int .i64 r_2, .int .i64 r_3, .int .i64 r_4, .int .i64 r_5, .int .i64 r_6], .int .i64 next_] w fun e w' => ∃ vs, e = .returned (pack vs) ∧ R vs w' :=
  decomp_sound (isFn_of Go.Proofs.Tryz.func60 (by kernel_rfl) (by kernel_rfl) (by kernel_rfl)) okFs_ok mix [.val (.agg #[.int .i64 r_0, .int .i64 r_1, .int .i64 r_2, .int .i64 r_3, .int .i64 r_4, .int .i64 r_5, .int .i64 r_6]), .val (.int .i64 next_)] (by rw [dedup_may_eq]; exact h)

def wire_Reader_End (r : Option Addr) : Prog :=
.ite (Option.isNone r) (
.done 0 [.int .i64 1]) (
.ex [.adr] (c1 fun a0 => r = some a0) (u1 fun a1 =>
.call F.wire_place_left [.pointer (some (Addr.add a1 0))] (sI .i64) (u1 fun (n2 : Int) =>
.bind 1 [] (
.ite (decide (n2 > 0)) (
.ex [.adr] (c1 fun a3 => r = some a3) (u1 fun a4 =>
.call F.wire_place_fail [.pointer (some (Addr.add a4 0)), .int .i64 6] (.tup []) (u0 <|
.done 1 []))) (
.done 1 [])) (u0 <|
.ex [.adr] (c1 fun a5 => r = some a5) (u1 fun a6 =>
.read True (ld T.api_Errno (Addr.add (Addr.add a6 0) 2)) (sI .i64) (u1 fun (n7 : Int) =>
.lt (.int .i64) (n7) fun (n8 : Int) =>
.done 0 [.int .i64 n8]))))))
theorem wire_Reader_End_eq (r : Option Addr) : decomp P 19 ⟨okFs, []⟩ { cnd := [(62914569, [])], blk := [], reg := [], lps := [] } [.tmp 2] (bodyOf Go.Proofs.Tryz.f61) [.val (.pointer r)] = wire_Reader_End r := by kernel_rfl
theorem wire_Reader_End_calls (r : Option Addr) {w : World} {R : List Value → World → Prop} (h : (wire_Reader_End r).wp P (fun _ => True) w fun e vs w' => e = 0 ∧ R vs w') :
    Calls P F.wire_Reader_End #[.pointer r] w fun e w' => ∃ vs, e = .returned (pack vs) ∧ R vs w' :=
  decomp_sound (isFn_of Go.Proofs.Tryz.func61 (by kernel_rfl) (by kernel_rfl) (by kernel_rfl)) okFs_ok mix [.val (.pointer r)] (by rw [wire_Reader_End_eq]; exact h)

def frame_four (n : Int) : Prog :=
.act (Instr.buildSlice T.s_uint8 4 #[(0, .int .u8 (IntKind.wrap .u8 n)), (1, .int .u8 (IntKind.wrap .u8 (Int.fdiv n 256))), (2, .int .u8 (IntKind.wrap .u8 (Int.fdiv n 65536))), (3, .int .u8 (IntKind.wrap .u8 (Int.fdiv n 16777216)))]) sL (u1 fun l0 =>
.done 0 [l0.v])
theorem frame_four_eq (n : Int) : decomp P 15 ⟨okFs, []⟩ { cnd := [], blk := [], reg := [], lps := [] } [.tmp 2] (bodyOf Go.Proofs.Tryz.f72) [.val (.int .u32 n)] = frame_four n := by kernel_rfl
theorem frame_four_calls (n : Int) {w : World} {R : List Value → World → Prop} (h : (frame_four n).wp P (fun _ => True) w fun e vs w' => e = 0 ∧ R vs w') :
    Calls P F.frame_four #[.int .u32 n] w fun e w' => ∃ vs, e = .returned (pack vs) ∧ R vs w' :=
  decomp_sound (isFn_of Go.Proofs.Tryz.func72 (by kernel_rfl) (by kernel_rfl) (by kernel_rfl)) okFs_ok mix [.val (.int .u32 n)] (by rw [frame_four_eq]; exact h)

def frame_Sum (parts : Sl) : Prog :=
.call F.frame_More [.int .u32 0, parts.v] (sI .u32) (u1 fun (n0 : Int) =>
.lt (.int .u32) (n0) fun (n1 : Int) =>
.done 0 [.int .u32 n1])
theorem frame_Sum_eq (parts : Sl) : decomp P 5 ⟨okFs, []⟩ { cnd := [], blk := [], reg := [], lps := [] } [.tmp 2] (bodyOf Go.Proofs.Tryz.f73) [.val (.slice parts.a parts.len parts.cap)] = frame_Sum parts := by kernel_rfl
theorem frame_Sum_calls (parts : Sl) {w : World} {R : List Value → World → Prop} (h : (frame_Sum parts).wp P (fun _ => True) w fun e vs w' => e = 0 ∧ R vs w') :
    Calls P F.frame_Sum #[.slice parts.a parts.len parts.cap] w fun e w' => ∃ vs, e = .returned (pack vs) ∧ R vs w' :=
  decomp_sound (isFn_of Go.Proofs.Tryz.func73 (by kernel_rfl) (by kernel_rfl) (by kernel_rfl)) okFs_ok mix [.val (.slice parts.a parts.len parts.cap)] (by rw [frame_Sum_eq]; exact h)

def towpathref02_four (n : Int) : Prog :=
.bind 1 [.one .slc] (
.loop 2 [.one (.int .u32), .one .slc, .one (.int .i64)] (n, (⟨none, 0, 0⟩, (0, ()))) (u3 fun (n0 : Int) l1 (n2 : Int) =>
.ite (decide (n2 < 4)) (
.act (Instr.buildSlice T.s_uint8 1 #[(0, .int .u8 (IntKind.wrap .u8 (Int.tmod n0 256)))]) sL (u1 fun l3 =>
.act (app T.s_uint8 T.s_uint8 T.s_uint8 l1.v l3.v) sL (u1 fun l4 =>
.lt (.int .u32) (IntKind.wrap .u32 (Int.tdiv n0 256)) fun (n5 : Int) =>
.lt (.int .i64) (IntKind.wrap .i64 (n2 + 1)) fun (n6 : Int) =>
.done 2 [.int .u32 n5, l4.v, .int .i64 n6]))) (
.done 1 [l1.v]))) (u1 fun l7 =>
.done 0 [l7.v])
theorem towpathref02_four_eq (n : Int) : decomp P 18 ⟨okFs, []⟩ { cnd := [], blk := [(0, [(3, .one .slc)])], reg := [], lps := [(0, [(0, .one (.int .u32)), (3, .one .slc), (4, .one (.int .i64))])] } [.tmp 2] (bodyOf Go.Proofs.Tryz.f74) [.val (.int .u32 n)] = towpathref02_four n := by kernel_rfl
theorem towpathref02_four_calls (n : Int) {w : World} {R : List Value → World → Prop} (h : (towpathref02_four n).wp P (fun _ => True) w fun e vs w' => e = 0 ∧ R vs w') :
    Calls P F.towpathref02_four #[.int .u32 n] w fun e w' => ∃ vs, e = .returned (pack vs) ∧ R vs w' :=
  decomp_sound (isFn_of Go.Proofs.Tryz.func74 (by kernel_rfl) (by kernel_rfl) (by kernel_rfl)) okFs_ok mix [.val (.int .u32 n)] (by rw [towpathref02_four_eq]; exact h)

def towpathref02_Sum (b : Sl) : Prog :=
.act (new T.a32_bool) sA (u1 fun a0 =>
.bind 1 [] (
.loop 2 [.one (.int .i64)] (0, ()) (u1 fun (n1 : Int) =>
.ite (decide (n1 < 32)) (
.must (0 ≤ n1 ∧ n1 < 32) <|
.actU (st T.bool (Addr.add a0 (Int.toNat n1 * 1)) (.bool true)) <|
.lt (.int .i64) (IntKind.wrap .i64 (n1 + 1)) fun (n2 : Int) =>
.done 2 [.int .i64 n2]) (
.done 1 []))) (u0 <|
.bind 1 [] (
.loop 2 [.one (.int .i64)] (0, ()) (u1 fun (n3 : Int) =>
.ite (decide (n3 < ((b.len : Nat) : Int))) (
.bind 3 [] (
.ex [.adr] (c1 fun a4 => 0 ≤ n3 ∧ n3 < ((b.len : Nat) : Int) ∧ b.a = some a4) (u1 fun a5 =>
.read True (ld T.uint8 (Addr.add a5 (Int.toNat n3 * 1))) (sI .u8) (u1 fun (n6 : Int) =>
.lt (.int .u8) (n6) fun (n7 : Int) =>
.bind 4 [] (
.loop 5 [.one (.int .i64)] (0, ()) (u1 fun (n8 : Int) =>
.ite (decide (n8 < 8)) (
.bind 6 [] (
.must ((0 : Int) ≤ 0 ∧ (0 : Int) < 32) <|
.read True (ld T.bool (Addr.add a0 0)) sB (u1 fun b9 =>
.must (0 ≤ IntKind.wrap .u64 n8) <|
.lt (.bool) (not (b9 == (Int.tmod (Int.fdiv n7 (2 ^ min (Int.toNat (IntKind.wrap .u64 n8)) 8)) (2 : Int) == 1))) fun b10 =>
.bind 7 [] (
.loop 8 [.one (.int .i64)] (0, ()) (u1 fun (n11 : Int) =>
.ite (decide (n11 < 31)) (
.must (0 ≤ IntKind.wrap .i64 (n11 + 1) ∧ IntKind.wrap .i64 (n11 + 1) < 32) <|
.read True (ld T.bool (Addr.add a0 (Int.toNat (IntKind.wrap .i64 (n11 + 1)) * 1))) sB (u1 fun b12 =>
.must (0 ≤ n11 ∧ n11 < 32) <|
.actU (st T.bool (Addr.add a0 (Int.toNat n11 * 1)) (.bool b12)) <|
.lt (.int .i64) (IntKind.wrap .i64 (n11 + 1)) fun (n13 : Int) =>
.done 8 [.int .i64 n13])) (
.done 7 []))) (u0 <|
.must ((0 : Int) ≤ 31 ∧ (31 : Int) < 32) <|
.actU (st T.bool (Addr.add a0 31) (.bool false)) <|
.bind 7 [] (
.loop 8 [.one (.int .i64)] (0, ()) (u1 fun (n14 : Int) =>
.ite (decide (n14 < 32)) (
.must (b10 = true → 0 ≤ IntKind.wrap .u64 n14) <|
.bind 9 [] (
.ite (b10 && Int.tmod (Int.fdiv 3988292384 (2 ^ min (Int.toNat (IntKind.wrap .u64 n14)) 32)) (2 : Int) == 1) (
.must (0 ≤ n14 ∧ n14 < 32) <|
.read True (ld T.bool (Addr.add a0 (Int.toNat n14 * 1))) sB (u1 fun b15 =>
.must (0 ≤ n14 ∧ n14 < 32) <|
.actU (st T.bool (Addr.add a0 (Int.toNat n14 * 1)) (.bool (not b15))) <|
.done 9 [])) (
.done 9 [])) (u0 <|
.lt (.int .i64) (IntKind.wrap .i64 (n14 + 1)) fun (n16 : Int) =>
.done 8 [.int .i64 n16])) (
.done 7 []))) (u0 <|
.done 6 [])))) (u0 <|
.lt (.int .i64) (IntKind.wrap .i64 (n8 + 1)) fun (n17 : Int) =>
.done 5 [.int .i64 n17])) (
.done 4 []))) (u0 <|
.done 3 [])))) (u0 <|
.done 2 [.int .i64 (IntKind.wrap .i64 (n3 + 1))])) (
.done 1 []))) (u0 <|
.bind 1 [.one (.int .u32)] (
.loop 2 [.one (.int .u32), .one (.int .i64)] (0, (0, ())) (u2 fun (n18 : Int) (n19 : Int) =>
.ite (decide (n19 < 32)) (
.must (0 ≤ n19 ∧ n19 < 32) <|
.read True (ld T.bool (Addr.add a0 (Int.toNat n19 * 1))) sB (u1 fun b20 =>
.bind 3 [.one (.int .u32)] (
.ite (not b20) (
.must (0 ≤ IntKind.wrap .u64 n19) <|
.lt (.int .u32) (IntKind.wrap .u32 (n18 + IntKind.wrap .u32 (1 * 2 ^ min (Int.toNat (IntKind.wrap .u64 n19)) 32))) fun (n21 : Int) =>
.done 3 [.int .u32 n21]) (
.done 3 [.int .u32 n18])) (u1 fun (n22 : Int) =>
.lt (.int .i64) (IntKind.wrap .i64 (n19 + 1)) fun (n23 : Int) =>
.done 2 [.int .u32 n22, .int .i64 n23]))) (
.done 1 [.int .u32 n18]))) (u1 fun (n24 : Int) =>
.lt (.int .u32) (n24) fun (n25 : Int) =>
.done 0 [.int .u32 n25]))))
theorem towpathref02_Sum_eq (b : Sl) : decomp P 82 ⟨okFs, []⟩ { cnd := [(595018176841575296925756, []), (9594035304461697130476601419, [(11, .one (.int .u32))])], blk := [(0, []), (2, []), (3, []), (4, []), (5, []), (6, []), (8, []), (10, [(11, .one (.int .u32))])], reg := [], lps := [(0, [(4, .one (.int .i64))]), (2, [(21, .one (.int .i64))]), (4, [(7, .one (.int .i64))]), (6, [(9, .one (.int .i64))]), (8, [(10, .one (.int .i64))]), (10, [(11, .one (.int .u32)), (12, .one (.int .i64))])] } [.tmp 2] (bodyOf Go.Proofs.Tryz.f75) [.val (.slice b.a b.len b.cap)] = towpathref02_Sum b := by kernel_rfl
theorem towpathref02_Sum_calls (b : Sl) {w : World} {R : List Value → World → Prop} (h : (towpathref02_Sum b).wp P (fun _ => True) w fun e vs w' => e = 0 ∧ R vs w') :
    Calls P F.towpathref02_Sum #[.slice b.a b.len b.cap] w fun e w' => ∃ vs, e = .returned (pack vs) ∧ R vs w' :=
  decomp_sound (isFn_of Go.Proofs.Tryz.func75 (by kernel_rfl) (by kernel_rfl) (by kernel_rfl)) okFs_ok mix [.val (.slice b.a b.len b.cap)] (by rw [towpathref02_Sum_eq]; exact h)

def towpathref03_Valid (b_0 : Int) (b_1 : Int) (b_2 : Int) (b_3 : Int) (b_4 : Int) (b_5 : Int) (b_6 : Sl) : Prog :=
.act (Instr.box T.api_Batch (.agg #[.int .i64 b_0, .int .i64 b_1, .int .i64 b_2, .int .i64 b_3, .int .i64 b_4, .int .i64 b_5, b_6.v])) sA (u1 fun a0 =>
.bind 1 [.one .bool] (
.read True (ld T.int (Addr.add a0 4)) (sI .i64) (u1 fun (n1 : Int) =>
.call F.towpathref03_out [.int .i64 n1, .int .i64 0, .int .i64 3] sB (u1 fun b2 =>
.read (b2 = false) (ld T.int64 (Addr.add a0 0)) (sI .i64) (u1 fun (n3 : Int) =>
.ite (b2) (
.done 1 [.bool true]) (
.call F.towpathref03_out [.int .i64 n3, .int .i64 0, .int .i64 1099511627776] sB (u1 fun b4 =>
.read (b4 = false) (ld T.int64 (Addr.add a0 1)) (sI .i64) (u1 fun (n5 : Int) =>
.ite (b4) (
.done 1 [.bool true]) (
.call F.towpathref03_out [.int .i64 n5, .int .i64 0, .int .i64 1048576] sB (u1 fun b6 =>
.read (b6 = false) (ld T.int (Addr.add a0 2)) (sI .i64) (u1 fun (n7 : Int) =>
.ite (b6) (
.done 1 [.bool true]) (
.call F.towpathref03_out [.int .i64 n7, .int .i64 0, .int .i64 32767] sB (u1 fun b8 =>
.read (b8 = false) (ld T.int (Addr.add a0 3)) (sI .i64) (u1 fun (n9 : Int) =>
.ite (b8) (
.done 1 [.bool true]) (
.call F.towpathref03_out [.int .i64 n9, .int .i64 0, .int .i64 2147483647] sB (u1 fun b10 =>
.read (b10 = false) (ld T.int64 (Addr.add a0 5)) (sI .i64) (u1 fun (n11 : Int) =>
.ite (b10) (
.done 1 [.bool true]) (
.call F.towpathref03_out [.int .i64 n11, .int .i64 0, .int .i64 1099511627776] sB (u1 fun b12 =>
.done 1 [.bool b12])))))))))))))))))) (u1 fun b13 =>
.ite (b13) (
.done 0 [.int .i64 2]) (
.read True (ld T.int64 (Addr.add a0 1)) (sI .i64) (u1 fun (n14 : Int) =>
.read ((n14 == 0) = true) (ld T.int (Addr.add a0 4)) (sI .i64) (u1 fun (n15 : Int) =>
.read ((n14 == 0) = true ∧ (n15 != 0) = false) (ld T.int (Addr.add a0 2)) (sI .i64) (u1 fun (n16 : Int) =>
.read ((n14 == 0) = true ∧ (n15 != 0 || n16 != 0) = false) (ld T.int (Addr.add a0 3)) (sI .i64) (u1 fun (n17 : Int) =>
.ite (n14 == 0 && (n15 != 0 || n16 != 0 || n17 != 0)) (
.done 0 [.int .i64 2]) (
.bind 1 [.one .bool] (
.tick <|
.read True (ld T.api_Batch a0) (sG [.int .i64, .int .i64, .int .i64, .int .i64, .int .i64, .int .i64, .slc]) (u7 fun (n18 : Int) (n19 : Int) (n20 : Int) (n21 : Int) (n22 : Int) (n23 : Int) l24 =>
.hold True (ld T.s_api_Record (Addr.add a0 6)) sL (u1 fun l25 =>
.call F.towpathref03_Mark [.agg #[.int .i64 n18, .int .i64 n19, .int .i64 n20, .int .i64 n21, .int .i64 n22, .int .i64 n23, l24.v]] sB (u1 fun b26 =>
.read (not (b26 == (((l25.len : Nat) : Int) == 0)) = false) (ld T.api_Batch a0) (sG [.int .i64, .int .i64, .int .i64, .int .i64, .int .i64, .int .i64, .slc]) (u7 fun (n27 : Int) (n28 : Int) (n29 : Int) (n30 : Int) (n31 : Int) (n32 : Int) l33 =>
.untick <|
.ite (not (b26 == (((l25.len : Nat) : Int) == 0))) (
.untick <|
.done 1 [.bool true]) (
.call F.towpathref03_Mark [.agg #[.int .i64 n27, .int .i64 n28, .int .i64 n29, .int .i64 n30, .int .i64 n31, .int .i64 n32, l33.v]] sB (u1 fun b34 =>
.read (b34 = true) (ld T.int (Addr.add a0 3)) (sI .i64) (u1 fun (n35 : Int) =>
.untick <|
.done 1 [.bool (b34 && n35 != 0)])))))))) (u1 fun b36 =>
.ite (b36) (
.done 0 [.int .i64 2]) (
.read True (ld T.s_api_Record (Addr.add a0 6)) sL (u1 fun l37 =>
.ite (decide (((l37.len : Nat) : Int) > 64)) (
.done 0 [.int .i64 7]) (
.read True (ld T.s_api_Record (Addr.add a0 6)) sL (u1 fun l38 =>
.bind 1 [] (
.loop 2 [.one (.int .i64)] (0, ()) (u1 fun (n39 : Int) =>
.ite (decide (n39 < ((l38.len : Nat) : Int))) (
.ex [.adr] (c1 fun a40 => 0 ≤ n39 ∧ n39 < ((l38.len : Nat) : Int) ∧ l38.a = some a40) (u1 fun a41 =>
.read True (ld T.api_Record (Addr.add a41 (Int.toNat n39 * 4))) (sG [.str, .str, .bool, .int .i64]) (u4 fun s42 s43 b44 (n45 : Int) =>
.act (new T.api_Record) sA (u1 fun a46 =>
.actU (st T.api_Record a46 (.agg #[.string s42, .string s43, .bool b44, .int .i64 n45])) <|
.read True (ld T.string (Addr.add a46 0)) sS (u1 fun s47 =>
.read (decide (((ByteArray.size s47 : Nat) : Int) > 1024) = false) (ld T.string (Addr.add a46 1)) sS (u1 fun s48 =>
.ite (decide (((ByteArray.size s47 : Nat) : Int) > 1024) || decide (((ByteArray.size s48 : Nat) : Int) > 1024)) (
.done 0 [.int .i64 7]) (
.read True (ld T.int64 (Addr.add a46 3)) (sI .i64) (u1 fun (n49 : Int) =>
.call F.towpathref03_out [.int .i64 n49, .int .i64 0, .int .i64 1099511627776] sB (u1 fun b50 =>
.read (b50 = false) (ld T.bool (Addr.add a46 2)) sB (u1 fun b51 =>
.read (b50 = false ∧ b51 = true) (ld T.string (Addr.add a46 1)) sS (u1 fun s52 =>
.ite (b50 || b51 && decide (((ByteArray.size s52 : Nat) : Int) > 0)) (
.done 0 [.int .i64 2]) (
.done 2 [.int .i64 (IntKind.wrap .i64 (n39 + 1))])))))))))))) (
.done 1 []))) (u0 <|
.tick <|
.hold True (ld T.int64 (Addr.add a0 0)) (sI .i64) (u1 fun (n53 : Int) =>
.read True (ld T.api_Batch a0) (sG [.int .i64, .int .i64, .int .i64, .int .i64, .int .i64, .int .i64, .slc]) (u7 fun (n54 : Int) (n55 : Int) (n56 : Int) (n57 : Int) (n58 : Int) (n59 : Int) l60 =>
.call F.towpathref03_Span [.agg #[.int .i64 n54, .int .i64 n55, .int .i64 n56, .int .i64 n57, .int .i64 n58, .int .i64 n59, l60.v]] (sI .i64) (u1 fun (n61 : Int) =>
.untick <|
.ite (decide (IntKind.wrap .i64 (IntKind.wrap .i64 (n53 + n61) - 1) > 1099511627776)) (
.done 0 [.int .i64 24]) (
.bind 1 [.one .bool] (
.read True (ld T.int64 (Addr.add a0 1)) (sI .i64) (u1 fun (n62 : Int) =>
.read (decide (n62 > 0) = true) (ld T.api_Batch a0) (sG [.int .i64, .int .i64, .int .i64, .int .i64, .int .i64, .int .i64, .slc]) (u7 fun (n63 : Int) (n64 : Int) (n65 : Int) (n66 : Int) (n67 : Int) (n68 : Int) l69 =>
.ite (decide (n62 > 0)) (
.call F.towpathref03_Mark [.agg #[.int .i64 n63, .int .i64 n64, .int .i64 n65, .int .i64 n66, .int .i64 n67, .int .i64 n68, l69.v]] sB (u1 fun b70 =>
.read (not b70 = true) (ld T.int (Addr.add a0 3)) (sI .i64) (u1 fun (n71 : Int) =>
.read (not b70 = true) (ld T.s_api_Record (Addr.add a0 6)) sL (u1 fun l72 =>
.done 1 [.bool (not b70 && decide (IntKind.wrap .i64 (IntKind.wrap .i64 (n71 + ((l72.len : Nat) : Int)) - 1) > 2147483647))])))) (
.done 1 [.bool false])))) (u1 fun b73 =>
.ite (b73) (
.done 0 [.int .i64 24]) (
.done 0 [.int .i64 0]))))))))))))))))))))
theorem towpathref03_Valid_eq (b_0 : Int) (b_1 : Int) (b_2 : Int) (b_3 : Int) (b_4 : Int) (b_5 : Int) (b_6 : Sl) : decomp P 127 ⟨okFs, []⟩ { cnd := [], blk := [(0, [])], reg := [(1, [(32, .one .bool)]), (5, [(66, .one .bool)]), (19, [(126, .one .bool)])], lps := [(0, [(74, .one (.int .i64))])] } [.tmp 2] (bodyOf Go.Proofs.Tryz.f76) [.val (.agg #[.int .i64 b_0, .int .i64 b_1, .int .i64 b_2, .int .i64 b_3, .int .i64 b_4, .int .i64 b_5, .slice b_6.a b_6.len b_6.cap])] = towpathref03_Valid b_0 b_1 b_2 b_3 b_4 b_5 b_6 := by kernel_rfl
theorem towpathref03_Valid_calls (b_0 : Int) (b_1 : Int) (b_2 : Int) (b_3 : Int) (b_4 : Int) (b_5 : Int) (b_6 : Sl) {w : World} {R : List Value → World → Prop} (h : (towpathref03_Valid b_0 b_1 b_2 b_3 b_4 b_5 b_6).wp P (fun _ => True) w fun e vs w' => e = 0 ∧ R vs w') :
    Calls P F.towpathref03_Valid #[.agg #[.int .i64 b_0, .int .i64 b_1, .int .i64 b_2, .int .i64 b_3, .int .i64 b_4, .int .i64 b_5, .slice b_6.a b_6.len b_6.cap]] w fun e w' => ∃ vs, e = .returned (pack vs) ∧ R vs w' :=
  decomp_sound (isFn_of Go.Proofs.Tryz.func76 (by kernel_rfl) (by kernel_rfl) (by kernel_rfl)) okFs_ok mix [.val (.agg #[.int .i64 b_0, .int .i64 b_1, .int .i64 b_2, .int .i64 b_3, .int .i64 b_4, .int .i64 b_5, .slice b_6.a b_6.len b_6.cap])] (by rw [towpathref03_Valid_eq]; exact h)

def towpathref07_Table_find (t : Option Addr) (pid : Int) : Prog :=
.ex [.adr] (c1 fun a0 => t = some a0) (u1 fun a1 =>
.read True (ld T.s_towpathref07_Row (Addr.add a1 2)) sL (u1 fun l2 =>
.bind 1 [] (
.loop 2 [.one (.int .i64)] (0, ()) (u1 fun (n3 : Int) =>
.ite (decide (n3 < ((l2.len : Nat) : Int))) (
.ex [.adr] (c1 fun a4 => 0 ≤ n3 ∧ n3 < ((l2.len : Nat) : Int) ∧ l2.a = some a4) (u1 fun a5 =>
.read True (ld T.towpathref07_Row (Addr.add a5 (Int.toNat n3 * 7))) (sG [.int .i64, .int .i64, .int .i64, .int .i64, .int .i64, .int .i64, .int .i64]) (u7 fun (n6 : Int) (n7 : Int) (n8 : Int) (n9 : Int) (n10 : Int) (n11 : Int) (n12 : Int) =>
.act (new T.towpathref07_Row) sA (u1 fun a13 =>
.lt (.int .i64) (n3) fun (n14 : Int) =>
.actU (st T.towpathref07_Row a13 (.agg #[.int .i64 n6, .int .i64 n7, .int .i64 n8, .int .i64 n9, .int .i64 n10, .int .i64 n11, .int .i64 n12])) <|
.read True (ld T.int64 (Addr.add a13 0)) (sI .i64) (u1 fun (n15 : Int) =>
.ite (n15 == pid) (
.lt (.int .i64) (n14) fun (n16 : Int) =>
.done 0 [.int .i64 n16]) (
.done 2 [.int .i64 (IntKind.wrap .i64 (n3 + 1))])))))) (
.done 1 []))) (u0 <|
.done 0 [.int .i64 (-1)])))
theorem towpathref07_Table_find_eq (t : Option Addr) (pid : Int) : decomp P 23 ⟨okFs, []⟩ { cnd := [], blk := [(0, [])], reg := [], lps := [(0, [(12, .one (.int .i64))])] } [.tmp 4] (bodyOf Go.Proofs.Tryz.f78) [.val (.pointer t), .val (.int .i64 pid)] = towpathref07_Table_find t pid := by kernel_rfl
theorem towpathref07_Table_find_calls (t : Option Addr) (pid : Int) {w : World} {R : List Value → World → Prop} (h : (towpathref07_Table_find t pid).wp P (fun _ => True) w fun e vs w' => e = 0 ∧ R vs w') :
    Calls P F.towpathref07_Table_find #[.pointer t, .int .i64 pid] w fun e w' => ∃ vs, e = .returned (pack vs) ∧ R vs w' :=
  decomp_sound (isFn_of Go.Proofs.Tryz.func78 (by kernel_rfl) (by kernel_rfl) (by kernel_rfl)) okFs_ok mix [.val (.pointer t), .val (.int .i64 pid)] (by rw [towpathref07_Table_find_eq]; exact h)

def frame_First (b : Sl) : Prog :=
.ite (decide (((b.len : Nat) : Int) < 8)) (
.done 0 [.slice none 0 0, .int .i64 0, .bool false]) (
.call F.frame_number [b.v] (sI .u32) (u1 fun (n0 : Int) =>
.lt (.int .u32) (n0) fun (n1 : Int) =>
.ite (decide (n1 > 262144) || decide (IntKind.wrap .i64 n1 > IntKind.wrap .i64 (((b.len : Nat) : Int) - 8))) (
.done 0 [.slice none 0 0, .int .i64 0, .bool false]) (
.lt (.int .i64) (IntKind.wrap .i64 (IntKind.wrap .i64 n1 + 4)) fun (n2 : Int) =>
.bind 1 [.one .bool] (
.tick <|
.must (0 ≤ n2 ∧ n2 ≤ ((b.len : Nat) : Int)) <|
.must (0 ≤ n2 ∧ n2 ≤ ((b.cap : Nat) : Int)) <|
.both (
.call F.frame_number [.slice (cutA b.a 1 (Int.toNat n2) b.cap) (b.len - Int.toNat n2) (b.cap - Int.toNat n2)] (sI .u32) (u1 fun (n3 : Int) =>
.act (Instr.buildSlice T.s_s_uint8 1 #[(0, .slice b.a (Int.toNat n2) b.cap)]) sL (u1 fun l4 =>
.call F.frame_Sum [l4.v] (sI .u32) (u1 fun (n5 : Int) =>
.untick <|
.done 1 [.bool (n3 != n5)])))) (
.act (Instr.buildSlice T.s_s_uint8 1 #[(0, .slice b.a (Int.toNat n2) b.cap)]) sL (u1 fun l6 =>
.call F.frame_number [.slice (cutA b.a 1 (Int.toNat n2) b.cap) (b.len - Int.toNat n2) (b.cap - Int.toNat n2)] (sI .u32) (u1 fun (n7 : Int) =>
.call F.frame_Sum [l6.v] (sI .u32) (u1 fun (n8 : Int) =>
.untick <|
.done 1 [.bool (n7 != n8)]))))) (u1 fun b9 =>
.ite (b9) (
.done 0 [.slice none 0 0, .int .i64 0, .bool false]) (
.must ((0 : Int) ≤ 4 ∧ 4 ≤ n2 ∧ n2 ≤ ((b.cap : Nat) : Int)) <|
.call F.bytes_Clone [.slice (cutA b.a 1 4 b.cap) (Int.toNat n2 - 4) (b.cap - 4)] sL (u1 fun l10 =>
.lt (.int .i64) (IntKind.wrap .i64 (n2 + 4)) fun (n11 : Int) =>
.done 0 [l10.v, .int .i64 n11, .bool true]))))))
theorem frame_First_eq (b : Sl) : decomp P 41 ⟨okFs, []⟩ { cnd := [], blk := [], reg := [(7, [(34, .one .bool)])], lps := [] } [.tmp 2, .tmp 3, .tmp 4] (bodyOf Go.Proofs.Tryz.f80) [.val (.slice b.a b.len b.cap)] = frame_First b := by kernel_rfl
theorem frame_First_calls (b : Sl) {w : World} {R : List Value → World → Prop} (h : (frame_First b).wp P (fun _ => True) w fun e vs w' => e = 0 ∧ R vs w') :
    Calls P F.frame_First #[.slice b.a b.len b.cap] w fun e w' => ∃ vs, e = .returned (pack vs) ∧ R vs w' :=
  decomp_sound (isFn_of Go.Proofs.Tryz.func80 (by kernel_rfl) (by kernel_rfl) (by kernel_rfl)) okFs_ok mix [.val (.slice b.a b.len b.cap)] (by rw [frame_First_eq]; exact h)

def bytes_Clone (b : Sl) : Prog :=
.ite (Option.isNone b.a) (
.done 0 [.slice none 0 0]) (
.act (Instr.buildSlice T.s_uint8 0 #[]) sL (u1 fun l0 =>
.act (app T.s_uint8 T.s_uint8 T.s_uint8 l0.v b.v) sL (u1 fun l1 =>
.done 0 [l1.v])))
theorem bytes_Clone_eq (b : Sl) : decomp P 8 ⟨okFs, []⟩ { cnd := [], blk := [], reg := [], lps := [] } [.tmp 2] (bodyOf Go.Proofs.Tryz.f81) [.val (.slice b.a b.len b.cap)] = bytes_Clone b := by kernel_rfl
theorem bytes_Clone_calls (b : Sl) {w : World} {R : List Value → World → Prop} (h : (bytes_Clone b).wp P (fun _ => True) w fun e vs w' => e = 0 ∧ R vs w') :
    Calls P F.bytes_Clone #[.slice b.a b.len b.cap] w fun e w' => ∃ vs, e = .returned (pack vs) ∧ R vs w' :=
  decomp_sound (isFn_of Go.Proofs.Tryz.func81 (by kernel_rfl) (by kernel_rfl) (by kernel_rfl)) okFs_ok mix [.val (.slice b.a b.len b.cap)] (by rw [bytes_Clone_eq]; exact h)

def wire_Reader_Uint (r : Option Addr) : Prog :=
.call F.wire_Reader_good [.pointer r] sB (u1 fun b0 =>
.ite (not b0) (
.done 0 [.int .u64 0]) (
.ex [.adr] (c1 fun a1 => r = some a1) (u1 fun a2 =>
.call F.wire_place_uint [.pointer (some (Addr.add a2 0))] (sI .u64) (u1 fun (n3 : Int) =>
.lt (.int .u64) (n3) fun (n4 : Int) =>
.done 0 [.int .u64 n4]))))
theorem wire_Reader_Uint_eq (r : Option Addr) : decomp P 10 ⟨okFs, []⟩ { cnd := [], blk := [], reg := [], lps := [] } [.tmp 2] (bodyOf Go.Proofs.Tryz.f82) [.val (.pointer r)] = wire_Reader_Uint r := by kernel_rfl
theorem wire_Reader_Uint_calls (r : Option Addr) {w : World} {R : List Value → World → Prop} (h : (wire_Reader_Uint r).wp P (fun _ => True) w fun e vs w' => e = 0 ∧ R vs w') :
    Calls P F.wire_Reader_Uint #[.pointer r] w fun e w' => ∃ vs, e = .returned (pack vs) ∧ R vs w' :=
  decomp_sound (isFn_of Go.Proofs.Tryz.func82 (by kernel_rfl) (by kernel_rfl) (by kernel_rfl)) okFs_ok mix [.val (.pointer r)] (by rw [wire_Reader_Uint_eq]; exact h)

def wire_Reader_good (r : Option Addr) : Prog :=
.ex [.adr] (c1 fun a0 => not (Option.isNone r) = true → r = some a0) (u1 fun a1 =>
.read (not (Option.isNone r) = true) (ld T.api_Errno (Addr.add (Addr.add a1 0) 2)) (sI .i64) (u1 fun (n2 : Int) =>
.lt (.bool) (not (Option.isNone r) && n2 == 0) fun b3 =>
.done 0 [.bool b3]))
theorem wire_Reader_good_eq (r : Option Addr) : decomp P 13 ⟨okFs, []⟩ { cnd := [], blk := [], reg := [], lps := [] } [.tmp 2] (bodyOf Go.Proofs.Tryz.f83) [.val (.pointer r)] = wire_Reader_good r := by kernel_rfl
theorem wire_Reader_good_calls (r : Option Addr) {w : World} {R : List Value → World → Prop} (h : (wire_Reader_good r).wp P (fun _ => True) w fun e vs w' => e = 0 ∧ R vs w') :
    Calls P F.wire_Reader_good #[.pointer r] w fun e w' => ∃ vs, e = .returned (pack vs) ∧ R vs w' :=
  decomp_sound (isFn_of Go.Proofs.Tryz.func83 (by kernel_rfl) (by kernel_rfl) (by kernel_rfl)) okFs_ok mix [.val (.pointer r)] (by rw [wire_Reader_good_eq]; exact h)

def wire_Reader_Int (r : Option Addr) : Prog :=
.call F.wire_Reader_Uint [.pointer r] (sI .u64) (u1 fun (n0 : Int) =>
.lt (.int .u64) (n0) fun (n1 : Int) =>
.lt (.int .i64) (IntKind.wrap .i64 (((BitVec.toNat (BitVec.ofInt 64 (IntKind.wrap .i64 (Int.fdiv n1 2)) ^^^ BitVec.ofInt 64 (IntKind.wrap .i64 (0 - IntKind.wrap .i64 (IntKind.wrap .u64 (((BitVec.toNat (BitVec.ofInt 64 n1 &&& BitVec.ofInt 64 1) : Nat) : Int)))))) : Nat) : Int))) fun (n2 : Int) =>
.done 0 [.int .i64 n2])
theorem wire_Reader_Int_eq (r : Option Addr) : decomp P 14 ⟨okFs, []⟩ { cnd := [], blk := [], reg := [], lps := [] } [.tmp 2] (bodyOf Go.Proofs.Tryz.f84) [.val (.pointer r)] = wire_Reader_Int r := by kernel_rfl
theorem wire_Reader_Int_calls (r : Option Addr) {w : World} {R : List Value → World → Prop} (h : (wire_Reader_Int r).wp P (fun _ => True) w fun e vs w' => e = 0 ∧ R vs w') :
    Calls P F.wire_Reader_Int #[.pointer r] w fun e w' => ∃ vs, e = .returned (pack vs) ∧ R vs w' :=
  decomp_sound (isFn_of Go.Proofs.Tryz.func84 (by kernel_rfl) (by kernel_rfl) (by kernel_rfl)) okFs_ok mix [.val (.pointer r)] (by rw [wire_Reader_Int_eq]; exact h)

def wire_place_fail (p : Option Addr) (e_ : Int) : Prog :=
.ex [.adr] (c1 fun a0 => p = some a0) (u1 fun a1 =>
.read True (ld T.api_Errno (Addr.add a1 2)) (sI .i64) (u1 fun (n2 : Int) =>
.bind 1 [] (
.ite (n2 == 0) (
.ex [.adr] (c1 fun a3 => p = some a3) (u1 fun a4 =>
.actU (st T.api_Errno (Addr.add a4 2) (.int .i64 e_)) <|
.done 1 [])) (
.done 1 [])) (u0 <|
.done 0 [])))
theorem wire_place_fail_eq (p : Option Addr) (e_ : Int) : decomp P 13 ⟨okFs, []⟩ { cnd := [(31457288, [])], blk := [], reg := [], lps := [] } [] (bodyOf Go.Proofs.Tryz.f85) [.val (.pointer p), .val (.int .i64 e_)] = wire_place_fail p e_ := by kernel_rfl
theorem wire_place_fail_calls (p : Option Addr) (e_ : Int) {w : World} {R : List Value → World → Prop} (h : (wire_place_fail p e_).wp P (fun _ => True) w fun e vs w' => e = 0 ∧ R vs w') :
    Calls P F.wire_place_fail #[.pointer p, .int .i64 e_] w fun e w' => ∃ vs, e = .returned (pack vs) ∧ R vs w' :=
  decomp_sound (isFn_of Go.Proofs.Tryz.func85 (by kernel_rfl) (by kernel_rfl) (by kernel_rfl)) okFs_ok mix [.val (.pointer p), .val (.int .i64 e_)] (by rw [wire_place_fail_eq]; exact h)

def wire_place_left (p : Option Addr) : Prog :=
.tick <|
.ex [.adr] (c1 fun a0 => p = some a0) (u1 fun a1 =>
.read True (ld T.s_uint8 (Addr.add a1 0)) sL (u1 fun l2 =>
.ex [.adr] (c1 fun a3 => p = some a3) (u1 fun a4 =>
.read True (ld T.int (Addr.add a4 1)) (sI .i64) (u1 fun (n5 : Int) =>
.lt (.int .i64) (IntKind.wrap .i64 (((l2.len : Nat) : Int) - n5)) fun (n6 : Int) =>
.untick <|
.done 0 [.int .i64 n6]))))
theorem wire_place_left_eq (p : Option Addr) : decomp P 13 ⟨okFs, []⟩ { cnd := [], blk := [], reg := [], lps := [] } [.tmp 2] (bodyOf Go.Proofs.Tryz.f87) [.val (.pointer p)] = wire_place_left p := by kernel_rfl
theorem wire_place_left_calls (p : Option Addr) {w : World} {R : List Value → World → Prop} (h : (wire_place_left p).wp P (fun _ => True) w fun e vs w' => e = 0 ∧ R vs w') :
    Calls P F.wire_place_left #[.pointer p] w fun e w' => ∃ vs, e = .returned (pack vs) ∧ R vs w' :=
  decomp_sound (isFn_of Go.Proofs.Tryz.func87 (by kernel_rfl) (by kernel_rfl) (by kernel_rfl)) okFs_ok mix [.val (.pointer p)] (by rw [wire_place_left_eq]; exact h)

def frame_More (sum : Int) (parts : Sl) : Prog :=
.lt (.int .u32) (IntKind.wrap .u32 (((BitVec.toNat (BitVec.ofInt 32 4294967295 ^^^ BitVec.ofInt 32 sum) : Nat) : Int))) fun (n0 : Int) =>
.bind 1 [.one (.int .u32)] (
.loop 2 [.one (.int .u32), .one (.int .i64)] (n0, (0, ())) (u2 fun (n1 : Int) (n2 : Int) =>
.ite (decide (n2 < ((parts.len : Nat) : Int))) (
.bind 3 [.one (.int .u32)] (
.ex [.adr] (c1 fun a3 => 0 ≤ n2 ∧ n2 < ((parts.len : Nat) : Int) ∧ parts.a = some a3) (u1 fun a4 =>
.read True (ld T.s_uint8 (Addr.add a4 (Int.toNat n2 * 1))) sL (u1 fun l5 =>
.bind 4 [.one (.int .u32)] (
.loop 5 [.one (.int .u32), .one (.int .i64)] (n1, (0, ())) (u2 fun (n6 : Int) (n7 : Int) =>
.ite (decide (n7 < ((l5.len : Nat) : Int))) (
.bind 6 [.one (.int .u32)] (
.ex [.adr] (c1 fun a8 => 0 ≤ n7 ∧ n7 < ((l5.len : Nat) : Int) ∧ l5.a = some a8) (u1 fun a9 =>
.read True (ld T.uint8 (Addr.add a9 (Int.toNat n7 * 1))) (sI .u8) (u1 fun (n10 : Int) =>
.lt (.int .u8) (n10) fun (n11 : Int) =>
.lt (.int .u32) (IntKind.wrap .u32 (((BitVec.toNat (BitVec.ofInt 32 n6 ^^^ BitVec.ofInt 32 (IntKind.wrap .u32 n11)) : Nat) : Int))) fun (n12 : Int) =>
.bind 7 [.one (.int .u32)] (
.loop 8 [.one (.int .u32), .one (.int .i64)] (n12, (0, ())) (u2 fun (n13 : Int) (n14 : Int) =>
.ite (decide (n14 < 8)) (
.lt (.int .u32) (IntKind.wrap .u32 (((BitVec.toNat (BitVec.ofInt 32 (Int.fdiv n13 2) ^^^ BitVec.ofInt 32 (IntKind.wrap .u32 (((BitVec.toNat (BitVec.ofInt 32 3988292384 &&& BitVec.ofInt 32 (IntKind.wrap .u32 (0 - IntKind.wrap .u32 (((BitVec.toNat (BitVec.ofInt 32 n13 &&& BitVec.ofInt 32 1) : Nat) : Int))))) : Nat) : Int)))) : Nat) : Int))) fun (n15 : Int) =>
.done 8 [.int .u32 n15, .int .i64 (IntKind.wrap .i64 (n14 + 1))]) (
.done 7 [.int .u32 n13]))) (u1 fun (n16 : Int) =>
.done 6 [.int .u32 n16])))) (u1 fun (n17 : Int) =>
.done 5 [.int .u32 n17, .int .i64 (IntKind.wrap .i64 (n7 + 1))])) (
.done 4 [.int .u32 n6]))) (u1 fun (n18 : Int) =>
.done 3 [.int .u32 n18])))) (u1 fun (n19 : Int) =>
.done 2 [.int .u32 n19, .int .i64 (IntKind.wrap .i64 (n2 + 1))])) (
.done 1 [.int .u32 n1]))) (u1 fun (n20 : Int) =>
.lt (.int .u32) (IntKind.wrap .u32 (((BitVec.toNat (BitVec.ofInt 32 4294967295 ^^^ BitVec.ofInt 32 n20) : Nat) : Int))) fun (n21 : Int) =>
.done 0 [.int .u32 n21])
theorem frame_More_eq (sum : Int) (parts : Sl) : decomp P 42 ⟨okFs, []⟩ { cnd := [], blk := [(0, [(5, .one (.int .u32))]), (1, [(5, .one (.int .u32))]), (2, [(5, .one (.int .u32))]), (3, [(5, .one (.int .u32))]), (4, [(5, .one (.int .u32))])], reg := [], lps := [(0, [(5, .one (.int .u32)), (14, .one (.int .i64))]), (2, [(5, .one (.int .u32)), (20, .one (.int .i64))]), (4, [(5, .one (.int .u32)), (28, .one (.int .i64))])] } [.tmp 4] (bodyOf Go.Proofs.Tryz.f102) [.val (.int .u32 sum), .val (.slice parts.a parts.len parts.cap)] = frame_More sum parts := by kernel_rfl
theorem frame_More_calls (sum : Int) (parts : Sl) {w : World} {R : List Value → World → Prop} (h : (frame_More sum parts).wp P (fun _ => True) w fun e vs w' => e = 0 ∧ R vs w') :
    Calls P F.frame_More #[.int .u32 sum, .slice parts.a parts.len parts.cap] w fun e w' => ∃ vs, e = .returned (pack vs) ∧ R vs w' :=
  decomp_sound (isFn_of Go.Proofs.Tryz.func102 (by kernel_rfl) (by kernel_rfl) (by kernel_rfl)) okFs_ok mix [.val (.int .u32 sum), .val (.slice parts.a parts.len parts.cap)] (by rw [frame_More_eq]; exact h)

def towpathref03_out (n : Int) (lo : Int) (hi : Int) : Prog :=
.lt (.bool) (decide (n < lo) || decide (n > hi)) fun b0 =>
.done 0 [.bool b0]
theorem towpathref03_out_eq (n : Int) (lo : Int) (hi : Int) : decomp P 15 ⟨okFs, []⟩ { cnd := [], blk := [], reg := [], lps := [] } [.tmp 6] (bodyOf Go.Proofs.Tryz.f103) [.val (.int .i64 n), .val (.int .i64 lo), .val (.int .i64 hi)] = towpathref03_out n lo hi := by kernel_rfl
theorem towpathref03_out_calls (n : Int) (lo : Int) (hi : Int) {w : World} {R : List Value → World → Prop} (h : (towpathref03_out n lo hi).wp P (fun _ => True) w fun e vs w' => e = 0 ∧ R vs w') :
    Calls P F.towpathref03_out #[.int .i64 n, .int .i64 lo, .int .i64 hi] w fun e w' => ∃ vs, e = .returned (pack vs) ∧ R vs w' :=
  decomp_sound (isFn_of Go.Proofs.Tryz.func103 (by kernel_rfl) (by kernel_rfl) (by kernel_rfl)) okFs_ok mix [.val (.int .i64 n), .val (.int .i64 lo), .val (.int .i64 hi)] (by rw [towpathref03_out_eq]; exact h)

def frame_number (b : Sl) : Prog :=
.tick <|
.ex [.adr] (c1 fun a0 => (0 : Int) ≤ 0 ∧ 0 < ((b.len : Nat) : Int) ∧ b.a = some a0) (u1 fun a1 =>
.read True (ld T.uint8 (Addr.add a1 0)) (sI .u8) (u1 fun (n2 : Int) =>
.ex [.adr] (c1 fun a3 => (0 : Int) ≤ 1 ∧ 1 < ((b.len : Nat) : Int) ∧ b.a = some a3) (u1 fun a4 =>
.read True (ld T.uint8 (Addr.add a4 1)) (sI .u8) (u1 fun (n5 : Int) =>
.ex [.adr] (c1 fun a6 => (0 : Int) ≤ 2 ∧ 2 < ((b.len : Nat) : Int) ∧ b.a = some a6) (u1 fun a7 =>
.read True (ld T.uint8 (Addr.add a7 2)) (sI .u8) (u1 fun (n8 : Int) =>
.ex [.adr] (c1 fun a9 => (0 : Int) ≤ 3 ∧ 3 < ((b.len : Nat) : Int) ∧ b.a = some a9) (u1 fun a10 =>
.read True (ld T.uint8 (Addr.add a10 3)) (sI .u8) (u1 fun (n11 : Int) =>
.lt (.int .u32) (IntKind.wrap .u32 (((BitVec.toNat (BitVec.ofInt 32 (IntKind.wrap .u32 (((BitVec.toNat (BitVec.ofInt 32 (IntKind.wrap .u32 (((BitVec.toNat (BitVec.ofInt 32 (IntKind.wrap .u32 n2) ||| BitVec.ofInt 32 (IntKind.wrap .u32 (IntKind.wrap .u32 n5 * 256))) : Nat) : Int))) ||| BitVec.ofInt 32 (IntKind.wrap .u32 (IntKind.wrap .u32 n8 * 65536))) : Nat) : Int))) ||| BitVec.ofInt 32 (IntKind.wrap .u32 (IntKind.wrap .u32 n11 * 16777216))) : Nat) : Int))) fun (n12 : Int) =>
.untick <|
.done 0 [.int .u32 n12]))))))))
theorem frame_number_eq (b : Sl) : decomp P 25 ⟨okFs, []⟩ { cnd := [], blk := [], reg := [], lps := [] } [.tmp 2] (bodyOf Go.Proofs.Tryz.f113) [.val (.slice b.a b.len b.cap)] = frame_number b := by kernel_rfl
theorem frame_number_calls (b : Sl) {w : World} {R : List Value → World → Prop} (h : (frame_number b).wp P (fun _ => True) w fun e vs w' => e = 0 ∧ R vs w') :
    Calls P F.frame_number #[.slice b.a b.len b.cap] w fun e w' => ∃ vs, e = .returned (pack vs) ∧ R vs w' :=
  decomp_sound (isFn_of Go.Proofs.Tryz.func113 (by kernel_rfl) (by kernel_rfl) (by kernel_rfl)) okFs_ok mix [.val (.slice b.a b.len b.cap)] (by rw [frame_number_eq]; exact h)

def wire_place_uint (p : Option Addr) : Prog :=
.bind 1 [] (
.loop 2 [.one (.int .u64), .one (.int .i64)] (0, (0, ())) (u2 fun (n0 : Int) (n1 : Int) =>
.ite (decide (n1 < 10)) (
.call F.wire_place_left [.pointer p] (sI .i64) (u1 fun (n2 : Int) =>
.ite (decide (n1 ≥ n2)) (
.done 1 []) (
.tick <|
.ex [.adr] (c1 fun a3 => p = some a3) (u1 fun a4 =>
.read True (ld T.s_uint8 (Addr.add a4 0)) sL (u1 fun l5 =>
.ex [.adr] (c1 fun a6 => p = some a6) (u1 fun a7 =>
.read True (ld T.int (Addr.add a7 1)) (sI .i64) (u1 fun (n8 : Int) =>
.ex [.adr] (c1 fun a9 => 0 ≤ IntKind.wrap .i64 (n8 + n1) ∧ IntKind.wrap .i64 (n8 + n1) < ((l5.len : Nat) : Int) ∧ l5.a = some a9) (u1 fun a10 =>
.read True (ld T.uint8 (Addr.add a10 (Int.toNat (IntKind.wrap .i64 (n8 + n1)) * 1))) (sI .u8) (u1 fun (n11 : Int) =>
.lt (.int .u8) (n11) fun (n12 : Int) =>
.untick <|
.ite (n1 == 9 && decide (n12 > 1)) (
.done 1 []) (
.must (0 ≤ IntKind.wrap .i64 (7 * n1)) <|
.lt (.int .u64) (IntKind.wrap .u64 (((BitVec.toNat (BitVec.ofInt 64 n0 ||| BitVec.ofInt 64 (IntKind.wrap .u64 (IntKind.wrap .u64 (IntKind.wrap .u8 (((BitVec.toNat (BitVec.ofInt 8 n12 &&& BitVec.ofInt 8 127) : Nat) : Int))) * 2 ^ min (Int.toNat (IntKind.wrap .i64 (7 * n1))) 64))) : Nat) : Int))) fun (n13 : Int) =>
.ite (decide (n12 ≥ 128)) (
.lt (.int .i64) (IntKind.wrap .i64 (n1 + 1)) fun (n14 : Int) =>
.done 2 [.int .u64 n13, .int .i64 n14]) (
.ite (n12 == 0 && decide (n1 > 0)) (
.done 1 []) (
.ex [.adr] (c1 fun a15 => p = some a15) (u1 fun a16 =>
.read True (ld T.int (Addr.add a16 1)) (sI .i64) (u1 fun (n17 : Int) =>
.ex [.adr] (c1 fun a18 => p = some a18) (u1 fun a19 =>
.actU (st T.int (Addr.add a19 1) (.int .i64 (IntKind.wrap .i64 (n17 + IntKind.wrap .i64 (n1 + 1))))) <|
.lt (.int .u64) (n13) fun (n20 : Int) =>
.done 0 [.int .u64 n20]))))))))))))))) (
.done 1 []))) (u0 <|
.call F.wire_place_fail [.pointer p, .int .i64 6] (.tup []) (u0 <|
.done 0 [.int .u64 0]))
theorem wire_place_uint_eq (p : Option Addr) : decomp P 60 ⟨okFs, []⟩ { cnd := [], blk := [(0, [])], reg := [], lps := [(0, [(3, .one (.int .u64)), (4, .one (.int .i64))])] } [.tmp 2] (bodyOf Go.Proofs.Tryz.f114) [.val (.pointer p)] = wire_place_uint p := by kernel_rfl
theorem wire_place_uint_calls (p : Option Addr) {w : World} {R : List Value → World → Prop} (h : (wire_place_uint p).wp P (fun _ => True) w fun e vs w' => e = 0 ∧ R vs w') :
    Calls P F.wire_place_uint #[.pointer p] w fun e w' => ∃ vs, e = .returned (pack vs) ∧ R vs w' :=
  decomp_sound (isFn_of Go.Proofs.Tryz.func114 (by kernel_rfl) (by kernel_rfl) (by kernel_rfl)) okFs_ok mix [.val (.pointer p)] (by rw [wire_place_uint_eq]; exact h)
end Go.Dec
