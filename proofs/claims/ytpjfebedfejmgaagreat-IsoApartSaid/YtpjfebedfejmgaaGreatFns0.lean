/- Functions of this seat, decompiled by a program of ours; each is held to the code by the kernel. -/
import Derived.Test.YtpjfebedfejmgaaGreatNames
namespace Go.Dec
set_option linter.unusedVariables false

def iso_New  : Prog :=
.act (Instr.makeMap T.m_int64_iso_life none) sM (u1 fun m0 =>
.act (Instr.makeMap T.m_iso_key_iso_life none) sM (u1 fun m1 =>
.act (Instr.box T.iso_View (.agg #[.int .i64 0, .map m0, .map m1])) sA (u1 fun a2 =>
.done 0 [.pointer (some a2)])))
theorem iso_New_eq  : decomp P 5 ⟨okFs, []⟩ { cnd := [], blk := [], reg := [], lps := [] } [.tmp 0] (bodyOf Go.Proofs.Tryz.f4) [] = iso_New  := by kernel_rfl
theorem iso_New_calls  {w : World} {R : List Value → World → Prop} (h : (iso_New ).wp P (fun _ => True) w fun e vs w' => e = 0 ∧ R vs w') :
    Calls P F.iso_New #[] w fun e w' => ∃ vs, e = .returned (pack vs) ∧ R vs w' :=
  decomp_sound (isFn_of Go.Proofs.Tryz.func4 (by kernel_rfl) (by kernel_rfl) (by kernel_rfl)) okFs_ok mix [] (by rw [iso_New_eq]; exact h)

def towpathlaw08_awake  : Prog :=
.call F.iso_New [] sP (u1 fun p0 =>
.ite (Option.isNone p0) (
.done 0 [.bool false]) (
.call F.towpathlaw08_one [.int .i64 0, .int .i64 3, .int .i64 1] (sG [.int .i64, .int .i64, .int .i64, .int .i64, .int .i64, .int .i64, .slc]) (u7 fun (n1 : Int) (n2 : Int) (n3 : Int) (n4 : Int) (n5 : Int) (n6 : Int) l7 =>
.call F.towpathlaw08_one [.int .i64 1, .int .i64 0, .int .i64 0] (sG [.int .i64, .int .i64, .int .i64, .int .i64, .int .i64, .int .i64, .slc]) (u7 fun (n8 : Int) (n9 : Int) (n10 : Int) (n11 : Int) (n12 : Int) (n13 : Int) l14 =>
.call F.towpathlaw08_one [.int .i64 2, .int .i64 4, .int .i64 1] (sG [.int .i64, .int .i64, .int .i64, .int .i64, .int .i64, .int .i64, .slc]) (u7 fun (n15 : Int) (n16 : Int) (n17 : Int) (n18 : Int) (n19 : Int) (n20 : Int) l21 =>
.act (new T.api_Batch) sA (u1 fun a22 =>
.act (new T.api_Batch) sA (u1 fun a23 =>
.act (new T.api_Batch) sA (u1 fun a24 =>
.actU (st T.api_Batch a22 (.agg #[.int .i64 n1, .int .i64 n2, .int .i64 n3, .int .i64 n4, .int .i64 n5, .int .i64 n6, l7.v])) <|
.actU (st T.api_Batch a23 (.agg #[.int .i64 n8, .int .i64 n9, .int .i64 n10, .int .i64 n11, .int .i64 n12, .int .i64 n13, l14.v])) <|
.actU (st T.api_Batch a24 (.agg #[.int .i64 n15, .int .i64 n16, .int .i64 n17, .int .i64 n18, .int .i64 n19, .int .i64 n20, l21.v])) <|
.act (new T.api_Batch) sA (u1 fun a25 =>
.act (new T.api_Batch) sA (u1 fun a26 =>
.actU (st T.api_Batch a25 (.agg #[.int .i64 3, .int .i64 3, .int .i64 0, .int .i64 0, .int .i64 2, .int .i64 0, .slice none 0 0])) <|
.actU (st T.api_Batch a26 (.agg #[.int .i64 4, .int .i64 4, .int .i64 0, .int .i64 0, .int .i64 3, .int .i64 0, .slice none 0 0])) <|
.bind 1 [.one .bool] (
.read True (ld T.api_Batch a22) (sG [.int .i64, .int .i64, .int .i64, .int .i64, .int .i64, .int .i64, .slc]) (u7 fun (n27 : Int) (n28 : Int) (n29 : Int) (n30 : Int) (n31 : Int) (n32 : Int) l33 =>
.call F.iso_View_Take [.pointer p0, .agg #[.int .i64 n27, .int .i64 n28, .int .i64 n29, .int .i64 n30, .int .i64 n31, .int .i64 n32, l33.v]] (sI .i64) (u1 fun (n34 : Int) =>
.read ((n34 == 0) = true) (ld T.api_Batch a23) (sG [.int .i64, .int .i64, .int .i64, .int .i64, .int .i64, .int .i64, .slc]) (u7 fun (n35 : Int) (n36 : Int) (n37 : Int) (n38 : Int) (n39 : Int) (n40 : Int) l41 =>
.ite (n34 == 0) (
.call F.iso_View_Take [.pointer p0, .agg #[.int .i64 n35, .int .i64 n36, .int .i64 n37, .int .i64 n38, .int .i64 n39, .int .i64 n40, l41.v]] (sI .i64) (u1 fun (n42 : Int) =>
.read ((n42 == 0) = true) (ld T.api_Batch a24) (sG [.int .i64, .int .i64, .int .i64, .int .i64, .int .i64, .int .i64, .slc]) (u7 fun (n43 : Int) (n44 : Int) (n45 : Int) (n46 : Int) (n47 : Int) (n48 : Int) l49 =>
.ite (n42 == 0) (
.call F.iso_View_Take [.pointer p0, .agg #[.int .i64 n43, .int .i64 n44, .int .i64 n45, .int .i64 n46, .int .i64 n47, .int .i64 n48, l49.v]] (sI .i64) (u1 fun (n50 : Int) =>
.read ((n50 == 0) = true) (ld T.api_Batch a25) (sG [.int .i64, .int .i64, .int .i64, .int .i64, .int .i64, .int .i64, .slc]) (u7 fun (n51 : Int) (n52 : Int) (n53 : Int) (n54 : Int) (n55 : Int) (n56 : Int) l57 =>
.ite (n50 == 0) (
.call F.iso_View_Take [.pointer p0, .agg #[.int .i64 n51, .int .i64 n52, .int .i64 n53, .int .i64 n54, .int .i64 n55, .int .i64 n56, l57.v]] (sI .i64) (u1 fun (n58 : Int) =>
.lt (.bool) (n58 == 0) fun b59 =>
.done 1 [.bool b59])) (
.done 1 [.bool false])))) (
.done 1 [.bool false])))) (
.done 1 [.bool false]))))) (u1 fun b60 =>
.read True (ld T.api_Batch a22) (sG [.int .i64, .int .i64, .int .i64, .int .i64, .int .i64, .int .i64, .slc]) (u7 fun (n61 : Int) (n62 : Int) (n63 : Int) (n64 : Int) (n65 : Int) (n66 : Int) l67 =>
.read True (ld T.api_Batch a23) (sG [.int .i64, .int .i64, .int .i64, .int .i64, .int .i64, .int .i64, .slc]) (u7 fun (n68 : Int) (n69 : Int) (n70 : Int) (n71 : Int) (n72 : Int) (n73 : Int) l74 =>
.read True (ld T.api_Batch a24) (sG [.int .i64, .int .i64, .int .i64, .int .i64, .int .i64, .int .i64, .slc]) (u7 fun (n75 : Int) (n76 : Int) (n77 : Int) (n78 : Int) (n79 : Int) (n80 : Int) l81 =>
.read True (ld T.api_Batch a25) (sG [.int .i64, .int .i64, .int .i64, .int .i64, .int .i64, .int .i64, .slc]) (u7 fun (n82 : Int) (n83 : Int) (n84 : Int) (n85 : Int) (n86 : Int) (n87 : Int) l88 =>
.act (Instr.buildSlice T.s_api_Batch 4 #[(0, .agg #[.int .i64 n61, .int .i64 n62, .int .i64 n63, .int .i64 n64, .int .i64 n65, .int .i64 n66, l67.v]), (1, .agg #[.int .i64 n68, .int .i64 n69, .int .i64 n70, .int .i64 n71, .int .i64 n72, .int .i64 n73, l74.v]), (2, .agg #[.int .i64 n75, .int .i64 n76, .int .i64 n77, .int .i64 n78, .int .i64 n79, .int .i64 n80, l81.v]), (3, .agg #[.int .i64 n82, .int .i64 n83, .int .i64 n84, .int .i64 n85, .int .i64 n86, .int .i64 n87, l88.v])]) sL (u1 fun l89 =>
.call F.iso_View_Pick [.pointer p0, l89.v] sL (u1 fun l90 =>
.call F.iso_View_Stable [.pointer p0] (sI .i64) (u1 fun (n91 : Int) =>
.lt (.int .i64) (((l90.len : Nat) : Int)) fun (n92 : Int) =>
.lt (.int .i64) (n91) fun (n93 : Int) =>
.bind 1 [.one .bool] (
.read (b60 = true) (ld T.api_Batch a26) (sG [.int .i64, .int .i64, .int .i64, .int .i64, .int .i64, .int .i64, .slc]) (u7 fun (n94 : Int) (n95 : Int) (n96 : Int) (n97 : Int) (n98 : Int) (n99 : Int) l100 =>
.ite (b60) (
.call F.iso_View_Take [.pointer p0, .agg #[.int .i64 n94, .int .i64 n95, .int .i64 n96, .int .i64 n97, .int .i64 n98, .int .i64 n99, l100.v]] (sI .i64) (u1 fun (n101 : Int) =>
.lt (.bool) (n101 == 0) fun b102 =>
.done 1 [.bool b102])) (
.done 1 [.bool false]))) (u1 fun b103 =>
.read True (ld T.api_Batch a22) (sG [.int .i64, .int .i64, .int .i64, .int .i64, .int .i64, .int .i64, .slc]) (u7 fun (n104 : Int) (n105 : Int) (n106 : Int) (n107 : Int) (n108 : Int) (n109 : Int) l110 =>
.read True (ld T.api_Batch a23) (sG [.int .i64, .int .i64, .int .i64, .int .i64, .int .i64, .int .i64, .slc]) (u7 fun (n111 : Int) (n112 : Int) (n113 : Int) (n114 : Int) (n115 : Int) (n116 : Int) l117 =>
.read True (ld T.api_Batch a24) (sG [.int .i64, .int .i64, .int .i64, .int .i64, .int .i64, .int .i64, .slc]) (u7 fun (n118 : Int) (n119 : Int) (n120 : Int) (n121 : Int) (n122 : Int) (n123 : Int) l124 =>
.read True (ld T.api_Batch a25) (sG [.int .i64, .int .i64, .int .i64, .int .i64, .int .i64, .int .i64, .slc]) (u7 fun (n125 : Int) (n126 : Int) (n127 : Int) (n128 : Int) (n129 : Int) (n130 : Int) l131 =>
.read True (ld T.api_Batch a26) (sG [.int .i64, .int .i64, .int .i64, .int .i64, .int .i64, .int .i64, .slc]) (u7 fun (n132 : Int) (n133 : Int) (n134 : Int) (n135 : Int) (n136 : Int) (n137 : Int) l138 =>
.act (Instr.buildSlice T.s_api_Batch 5 #[(0, .agg #[.int .i64 n104, .int .i64 n105, .int .i64 n106, .int .i64 n107, .int .i64 n108, .int .i64 n109, l110.v]), (1, .agg #[.int .i64 n111, .int .i64 n112, .int .i64 n113, .int .i64 n114, .int .i64 n115, .int .i64 n116, l117.v]), (2, .agg #[.int .i64 n118, .int .i64 n119, .int .i64 n120, .int .i64 n121, .int .i64 n122, .int .i64 n123, l124.v]), (3, .agg #[.int .i64 n125, .int .i64 n126, .int .i64 n127, .int .i64 n128, .int .i64 n129, .int .i64 n130, l131.v]), (4, .agg #[.int .i64 n132, .int .i64 n133, .int .i64 n134, .int .i64 n135, .int .i64 n136, .int .i64 n137, l138.v])]) sL (u1 fun l139 =>
.call F.iso_View_Pick [.pointer p0, l139.v] sL (u1 fun l140 =>
.call F.iso_View_Fallen [.pointer p0] sL (u1 fun l141 =>
.bind 1 [.one .bool] (
.ex [.adr] (c1 fun a142 => (b103 && n92 == 2 && n93 == 2 && ((l140.len : Nat) : Int) == 2) = true → (0 : Int) ≤ 1 ∧ 1 < ((l140.len : Nat) : Int) ∧ l140.a = some a142) (u1 fun a143 =>
.read ((b103 && n92 == 2 && n93 == 2 && ((l140.len : Nat) : Int) == 2) = true) (ld T.int64 (Addr.add (Addr.add a143 5) 0)) (sI .i64) (u1 fun (n144 : Int) =>
.ite (b103 && n92 == 2 && n93 == 2 && ((l140.len : Nat) : Int) == 2 && n144 == 1) (
.call F.iso_View_Stable [.pointer p0] (sI .i64) (u1 fun (n145 : Int) =>
.ex [.adr] (c1 fun a146 => (n145 == 5 && ((l141.len : Nat) : Int) == 1) = true → (0 : Int) ≤ 0 ∧ 0 < ((l141.len : Nat) : Int) ∧ l141.a = some a146) (u1 fun a147 =>
.read ((n145 == 5 && ((l141.len : Nat) : Int) == 1) = true) (ld T.iso_Txn (Addr.add a147 0)) (sG [.int .i64, .int .i64, .int .i64, .int .i64]) (u4 fun (n148 : Int) (n149 : Int) (n150 : Int) (n151 : Int) =>
.read ((n145 == 5 && ((l141.len : Nat) : Int) == 1 && (n148 == 4 && (n149 == 0 && (n150 == 2 && n151 == 4)))) = true) (ld T.api_Batch a24) (sG [.int .i64, .int .i64, .int .i64, .int .i64, .int .i64, .int .i64, .slc]) (u7 fun (n152 : Int) (n153 : Int) (n154 : Int) (n155 : Int) (n156 : Int) (n157 : Int) l158 =>
.ite (n145 == 5 && ((l141.len : Nat) : Int) == 1 && (n148 == 4 && (n149 == 0 && (n150 == 2 && n151 == 4)))) (
.call F.iso_View_Fate [.pointer p0, .agg #[.int .i64 n152, .int .i64 n153, .int .i64 n154, .int .i64 n155, .int .i64 n156, .int .i64 n157, l158.v]] (sI .i64) (u1 fun (n159 : Int) =>
.lt (.bool) (n159 == 2) fun b160 =>
.done 1 [.bool b160])) (
.done 1 [.bool false])))))) (
.done 1 [.bool false])))) (u1 fun b161 =>
.done 0 [.bool b161]))))))))))))))))))))))))))))
theorem towpathlaw08_awake_eq  : decomp P 113 ⟨okFs, []⟩ { cnd := [], blk := [], reg := [(6, [(7, .one .bool)]), (8, [(7, .one .bool)]), (10, [(0, .one .bool)])], lps := [] } [.tmp 0] (bodyOf Go.Proofs.Tryz.f9) [] = towpathlaw08_awake  := by kernel_rfl
theorem towpathlaw08_awake_calls  {w : World} {R : List Value → World → Prop} (h : (towpathlaw08_awake ).wp P (fun _ => True) w fun e vs w' => e = 0 ∧ R vs w') :
    Calls P F.towpathlaw08_awake #[] w fun e w' => ∃ vs, e = .returned (pack vs) ∧ R vs w' :=
  decomp_sound (isFn_of Go.Proofs.Tryz.func9 (by kernel_rfl) (by kernel_rfl) (by kernel_rfl)) okFs_ok mix [] (by rw [towpathlaw08_awake_eq]; exact h)

def towpathlaw08_small (o_0 : Int) (o_1 : Int) (o_2 : Int) (o_3 : Int) (o_4 : Int) (o_5 : Int) (o_6 : Int) (o_7 : Sl) (o_8 : Bool) (o_9 : Int) (next_ : Int) : Prog :=
.act (Instr.box T.towpathlaw08_Op (.agg #[.int .i64 o_0, .int .i64 o_1, .int .i64 o_2, .int .i64 o_3, .int .i64 o_4, .int .i64 o_5, .int .i64 o_6, o_7.v, .bool o_8, .int .i64 o_9])) sA (u1 fun a0 =>
.act (new T.api_Batch) sA (u1 fun a1 =>
.read True (ld T.api_Batch (Addr.add a0 1)) (sG [.int .i64, .int .i64, .int .i64, .int .i64, .int .i64, .int .i64, .slc]) (u7 fun (n2 : Int) (n3 : Int) (n4 : Int) (n5 : Int) (n6 : Int) (n7 : Int) l8 =>
.act (new T.api_Batch) sA (u1 fun a9 =>
.actU (st T.api_Batch a9 (.agg #[.int .i64 n2, .int .i64 n3, .int .i64 n4, .int .i64 n5, .int .i64 n6, .int .i64 n7, l8.v])) <|
.actU (st T.s_api_Record (Addr.add a9 6) (.slice none 0 0)) <|
.read True (ld T.s_api_Record (Addr.add (Addr.add a0 1) 6)) sL (u1 fun l10 =>
.bind 1 [] (
.loop 2 [.one (.int .i64)] (0, ()) (u1 fun (n11 : Int) =>
.ite (decide (n11 < ((l10.len : Nat) : Int))) (
.ex [.adr] (c1 fun a12 => 0 ≤ n11 ∧ n11 < ((l10.len : Nat) : Int) ∧ l10.a = some a12) (u1 fun a13 =>
.read True (ld T.api_Record (Addr.add a13 (Int.toNat n11 * 4))) (sG [.str, .str, .bool, .int .i64]) (u4 fun s14 s15 b16 (n17 : Int) =>
.act (new T.api_Record) sA (u1 fun a18 =>
.lt (.int .i64) (n11) fun (n19 : Int) =>
.actU (st T.api_Record a18 (.agg #[.string s14, .string s15, .bool b16, .int .i64 n17])) <|
.ite (decide (n19 ≥ 5)) (
.done 1 []) (
.read True (ld T.string (Addr.add a18 0)) sS (u1 fun s20 =>
.bind 3 [] (
.ite (decide (((ByteArray.size s20 : Nat) : Int) > 8)) (
.read True (ld T.string (Addr.add a18 0)) sS (u1 fun s21 =>
.must ((0 : Int) ≤ 8 ∧ 8 ≤ ((ByteArray.size s21 : Nat) : Int)) <|
.actU (st T.string (Addr.add a18 0) (.string (ByteArray.extract s21 0 8))) <|
.done 3 [])) (
.done 3 [])) (u0 <|
.read True (ld T.string (Addr.add a18 1)) sS (u1 fun s22 =>
.bind 3 [] (
.ite (decide (((ByteArray.size s22 : Nat) : Int) > 8)) (
.read True (ld T.string (Addr.add a18 1)) sS (u1 fun s23 =>
.must ((0 : Int) ≤ 8 ∧ 8 ≤ ((ByteArray.size s23 : Nat) : Int)) <|
.actU (st T.string (Addr.add a18 1) (.string (ByteArray.extract s23 0 8))) <|
.done 3 [])) (
.done 3 [])) (u0 <|
.read True (ld T.s_api_Record (Addr.add a9 6)) sL (u1 fun l24 =>
.read True (ld T.api_Record a18) (sG [.str, .str, .bool, .int .i64]) (u4 fun s25 s26 b27 (n28 : Int) =>
.act (Instr.buildSlice T.s_api_Record 1 #[(0, .agg #[.string s25, .string s26, .bool b27, .int .i64 n28])]) sL (u1 fun l29 =>
.act (app T.s_api_Record T.s_api_Record T.s_api_Record l24.v l29.v) sL (u1 fun l30 =>
.actU (st T.s_api_Record (Addr.add a9 6) l30.v) <|
.done 2 [.int .i64 (IntKind.wrap .i64 (n11 + 1))]))))))))))))) (
.done 1 []))) (u0 <|
.read True (ld T.bool (Addr.add a0 8)) sB (u1 fun b31 =>
.bind 1 [] (
.ite (b31) (
.read True (ld T.int64 (Addr.add a9 0)) (sI .i64) (u1 fun (n32 : Int) =>
.actU (st T.int64 (Addr.add a9 0) (.int .i64 (Int.tmod n32 5))) <|
.read True (ld T.int64 (Addr.add a9 0)) (sI .i64) (u1 fun (n33 : Int) =>
.bind 2 [] (
.ite (decide (n33 < 0)) (
.actU (st T.int64 (Addr.add a9 0) (.int .i64 0)) <|
.done 2 []) (
.done 2 [])) (u0 <|
.read True (ld T.int64 (Addr.add a9 0)) (sI .i64) (u1 fun (n34 : Int) =>
.actU (st T.int64 (Addr.add a9 0) (.int .i64 (IntKind.wrap .i64 (n34 + next_)))) <|
.done 1 []))))) (
.done 1 [])) (u0 <|
.read True (ld T.api_Batch a9) (sG [.int .i64, .int .i64, .int .i64, .int .i64, .int .i64, .int .i64, .slc]) (u7 fun (n35 : Int) (n36 : Int) (n37 : Int) (n38 : Int) (n39 : Int) (n40 : Int) l41 =>
.actU (st T.api_Batch a1 (.agg #[.int .i64 n35, .int .i64 n36, .int .i64 n37, .int .i64 n38, .int .i64 n39, .int .i64 n40, l41.v])) <|
.read True (ld T.api_Batch a1) (sG [.int .i64, .int .i64, .int .i64, .int .i64, .int .i64, .int .i64, .slc]) (u7 fun (n42 : Int) (n43 : Int) (n44 : Int) (n45 : Int) (n46 : Int) (n47 : Int) l48 =>
.done 0 [.agg #[.int .i64 n42, .int .i64 n43, .int .i64 n44, .int .i64 n45, .int .i64 n46, .int .i64 n47, l48.v]]))))))))))
theorem towpathlaw08_small_eq (o_0 : Int) (o_1 : Int) (o_2 : Int) (o_3 : Int) (o_4 : Int) (o_5 : Int) (o_6 : Int) (o_7 : Sl) (o_8 : Bool) (o_9 : Int) (next_ : Int) : decomp P 61 ⟨okFs, []⟩ { cnd := [(4123168604185, []), (1055531162664993, []), (73786976294838206517, []), (4721790022117341790254, [])], blk := [(0, [])], reg := [], lps := [(0, [(15, .one (.int .i64))])] } [.cell 4 33] (bodyOf Go.Proofs.Tryz.f10) [.val (.agg #[.int .i64 o_0, .int .i64 o_1, .int .i64 o_2, .int .i64 o_3, .int .i64 o_4, .int .i64 o_5, .int .i64 o_6, .slice o_7.a o_7.len o_7.cap, .bool o_8, .int .i64 o_9]), .val (.int .i64 next_)] = towpathlaw08_small o_0 o_1 o_2 o_3 o_4 o_5 o_6 o_7 o_8 o_9 next_ := by kernel_rfl
theorem towpathlaw08_small_calls (o_0 : Int) (o_1 : Int) (o_2 : Int) (o_3 : Int) (o_4 : Int) (o_5 : Int) (o_6 : Int) (o_7 : Sl) (o_8 : Bool) (o_9 : Int) (next_ : Int) {w : World} {R : List Value → World → Prop} (h : (towpathlaw08_small o_0 o_1 o_2 o_3 o_4 o_5 o_6 o_7 o_8 o_9 next_).wp P (fun _ => True) w fun e vs w' => e = 0 ∧ R vs w') :
    Calls P F.towpathlaw08_small #[.agg #[.int .i64 o_0, .int .i64 o_1, .int .i64 o_2, .int .i64 o_3, .int .i64 o_4, .int .i64 o_5, .int .i64 o_6, .slice o_7.a o_7.len o_7.cap, .bool o_8, .int .i64 o_9], .int .i64 next_] w fun e w' => ∃ vs, e = .returned (pack vs) ∧ R vs w' :=
  decomp_sound (isFn_of Go.Proofs.Tryz.func10 (by kernel_rfl) (by kernel_rfl) (by kernel_rfl)) okFs_ok mix [.val (.agg #[.int .i64 o_0, .int .i64 o_1, .int .i64 o_2, .int .i64 o_3, .int .i64 o_4, .int .i64 o_5, .int .i64 o_6, .slice o_7.a o_7.len o_7.cap, .bool o_8, .int .i64 o_9]), .val (.int .i64 next_)] (by rw [towpathlaw08_small_eq]; exact h)

def iso_View_May (v : Option Addr) (b_0 : Int) (b_1 : Int) (b_2 : Int) (b_3 : Int) (b_4 : Int) (b_5 : Int) (b_6 : Sl) : Prog :=
.act (Instr.box T.api_Batch (.agg #[.int .i64 b_0, .int .i64 b_1, .int .i64 b_2, .int .i64 b_3, .int .i64 b_4, .int .i64 b_5, b_6.v])) sA (u1 fun a0 =>
.ite (Option.isNone v) (
.done 0 [.int .i64 1]) (
.read True (ld T.api_Batch a0) (sG [.int .i64, .int .i64, .int .i64, .int .i64, .int .i64, .int .i64, .slc]) (u7 fun (n1 : Int) (n2 : Int) (n3 : Int) (n4 : Int) (n5 : Int) (n6 : Int) l7 =>
.call F.rec_Valid [.agg #[.int .i64 n1, .int .i64 n2, .int .i64 n3, .int .i64 n4, .int .i64 n5, .int .i64 n6, l7.v]] (sI .i64) (u1 fun (n8 : Int) =>
.lt (.int .i64) (n8) fun (n9 : Int) =>
.ite (n9 != 0) (
.lt (.int .i64) (n9) fun (n10 : Int) =>
.done 0 [.int .i64 n10]) (
.tick <|
.read True (ld T.int64 (Addr.add a0 0)) (sI .i64) (u1 fun (n11 : Int) =>
.ex [.adr] (c1 fun a12 => v = some a12) (u1 fun a13 =>
.read True (ld T.int64 (Addr.add a13 0)) (sI .i64) (u1 fun (n14 : Int) =>
.lt (.bool) (decide (n11 < n14)) fun b15 =>
.untick <|
.ite (b15) (
.done 0 [.int .i64 8]) (
.read True (ld T.int (Addr.add a0 4)) (sI .i64) (u1 fun (n16 : Int) =>
.lt (.bool) (n16 != 0) fun b17 =>
.ite (b17) (
.read True (ld T.api_Batch a0) (sG [.int .i64, .int .i64, .int .i64, .int .i64, .int .i64, .int .i64, .slc]) (u7 fun (n18 : Int) (n19 : Int) (n20 : Int) (n21 : Int) (n22 : Int) (n23 : Int) l24 =>
.call F.iso_View_may [.pointer v, .agg #[.int .i64 n18, .int .i64 n19, .int .i64 n20, .int .i64 n21, .int .i64 n22, .int .i64 n23, l24.v]] (sI .i64) (u1 fun (n25 : Int) =>
.lt (.int .i64) (n25) fun (n26 : Int) =>
.done 0 [.int .i64 n26]))) (
.done 0 [.int .i64 0])))))))))))
theorem iso_View_May_eq (v : Option Addr) (b_0 : Int) (b_1 : Int) (b_2 : Int) (b_3 : Int) (b_4 : Int) (b_5 : Int) (b_6 : Sl) : decomp P 28 ⟨okFs, []⟩ { cnd := [], blk := [], reg := [], lps := [] } [.tmp 4] (bodyOf Go.Proofs.Tryz.f11) [.val (.pointer v), .val (.agg #[.int .i64 b_0, .int .i64 b_1, .int .i64 b_2, .int .i64 b_3, .int .i64 b_4, .int .i64 b_5, .slice b_6.a b_6.len b_6.cap])] = iso_View_May v b_0 b_1 b_2 b_3 b_4 b_5 b_6 := by kernel_rfl
theorem iso_View_May_calls (v : Option Addr) (b_0 : Int) (b_1 : Int) (b_2 : Int) (b_3 : Int) (b_4 : Int) (b_5 : Int) (b_6 : Sl) {w : World} {R : List Value → World → Prop} (h : (iso_View_May v b_0 b_1 b_2 b_3 b_4 b_5 b_6).wp P (fun _ => True) w fun e vs w' => e = 0 ∧ R vs w') :
    Calls P F.iso_View_May #[.pointer v, .agg #[.int .i64 b_0, .int .i64 b_1, .int .i64 b_2, .int .i64 b_3, .int .i64 b_4, .int .i64 b_5, .slice b_6.a b_6.len b_6.cap]] w fun e w' => ∃ vs, e = .returned (pack vs) ∧ R vs w' :=
  decomp_sound (isFn_of Go.Proofs.Tryz.func11 (by kernel_rfl) (by kernel_rfl) (by kernel_rfl)) okFs_ok mix [.val (.pointer v), .val (.agg #[.int .i64 b_0, .int .i64 b_1, .int .i64 b_2, .int .i64 b_3, .int .i64 b_4, .int .i64 b_5, .slice b_6.a b_6.len b_6.cap])] (by rw [iso_View_May_eq]; exact h)

def iso_View_Take (v : Option Addr) (b_0 : Int) (b_1 : Int) (b_2 : Int) (b_3 : Int) (b_4 : Int) (b_5 : Int) (b_6 : Sl) : Prog :=
.act (Instr.box T.api_Batch (.agg #[.int .i64 b_0, .int .i64 b_1, .int .i64 b_2, .int .i64 b_3, .int .i64 b_4, .int .i64 b_5, b_6.v])) sA (u1 fun a0 =>
.read True (ld T.api_Batch a0) (sG [.int .i64, .int .i64, .int .i64, .int .i64, .int .i64, .int .i64, .slc]) (u7 fun (n1 : Int) (n2 : Int) (n3 : Int) (n4 : Int) (n5 : Int) (n6 : Int) l7 =>
.call F.iso_View_May [.pointer v, .agg #[.int .i64 n1, .int .i64 n2, .int .i64 n3, .int .i64 n4, .int .i64 n5, .int .i64 n6, l7.v]] (sI .i64) (u1 fun (n8 : Int) =>
.lt (.int .i64) (n8) fun (n9 : Int) =>
.ite (n9 != 0) (
.lt (.int .i64) (n9) fun (n10 : Int) =>
.done 0 [.int .i64 n10]) (
.read True (ld T.api_Batch a0) (sG [.int .i64, .int .i64, .int .i64, .int .i64, .int .i64, .int .i64, .slc]) (u7 fun (n11 : Int) (n12 : Int) (n13 : Int) (n14 : Int) (n15 : Int) (n16 : Int) l17 =>
.call F.rec_Next [.agg #[.int .i64 n11, .int .i64 n12, .int .i64 n13, .int .i64 n14, .int .i64 n15, .int .i64 n16, l17.v]] (sI .i64) (u1 fun (n18 : Int) =>
.ex [.adr] (c1 fun a19 => v = some a19) (u1 fun a20 =>
.actU (st T.int64 (Addr.add a20 0) (.int .i64 n18)) <|
.bind 1 [.one .adr, .one .bool] (
.tick <|
.ex [.adr] (c1 fun a21 => v = some a21) (u1 fun a22 =>
.hold True (ld T.m_int64_iso_life (Addr.add a22 1)) sM (u1 fun m23 =>
.hold True (ld T.int64 (Addr.add a0 1)) (sI .i64) (u1 fun (n24 : Int) =>
.hold True (Instr.lookup T.m_int64_iso_life (.map m23) (.int .i64 n24) true) (.tup [.agg [.int .i64, .int .i64, .int .i64, .int .i64], .one .bool]) (u5 fun (n25 : Int) (n26 : Int) (n27 : Int) (n28 : Int) b29 =>
.act (new T.iso_life) sA (u1 fun a30 =>
.untick <|
.actU (st T.iso_life a30 (.agg #[.int .i64 n25, .int .i64 n26, .int .i64 n27, .int .i64 n28])) <|
.lt (.bool) (b29) fun b31 =>
.untick <|
.done 1 [.pointer (some a30), .bool b31])))))) (u2 fun a32 b33 =>
.read True (ld T.int (Addr.add a0 4)) (sI .i64) (u1 fun (n34 : Int) =>
.lt (.bool) (n34 == 1 && not b33) fun b35 =>
.bind 1 [] (
.ite (b35) (
.tick <|
.ex [.adr] (c1 fun a36 => v = some a36) (u1 fun a37 =>
.read True (ld T.m_int64_iso_life (Addr.add a37 1)) sM (u1 fun m38 =>
.read True (ld T.int64 (Addr.add a0 1)) (sI .i64) (u1 fun (n39 : Int) =>
.read True (ld T.int64 (Addr.add a0 1)) (sI .i64) (u1 fun (n40 : Int) =>
.read True (ld T.int (Addr.add a0 2)) (sI .i64) (u1 fun (n41 : Int) =>
.read True (ld T.int64 (Addr.add a0 0)) (sI .i64) (u1 fun (n42 : Int) =>
.actU (Instr.mapUpdate T.m_int64_iso_life (.map m38) (.int .i64 n39) (.agg #[.int .i64 n40, .int .i64 n41, .int .i64 n42, .int .i64 (-1)])) <|
.untick <|
.done 1 []))))))) (
.read True (ld T.api_Batch a0) (sG [.int .i64, .int .i64, .int .i64, .int .i64, .int .i64, .int .i64, .slc]) (u7 fun (n43 : Int) (n44 : Int) (n45 : Int) (n46 : Int) (n47 : Int) (n48 : Int) l49 =>
.call F.iso_mark [.agg #[.int .i64 n43, .int .i64 n44, .int .i64 n45, .int .i64 n46, .int .i64 n47, .int .i64 n48, l49.v]] sB (u1 fun b50 =>
.lt (.bool) (b50 && b33) fun b51 =>
.bind 2 [] (
.ite (b51) (
.tick <|
.ex [.adr] (c1 fun a52 => v = some a52) (u1 fun a53 =>
.read True (ld T.m_int64_iso_life (Addr.add a53 1)) sM (u1 fun m54 =>
.read True (ld T.int64 (Addr.add a0 1)) (sI .i64) (u1 fun (n55 : Int) =>
.act (Builtin.delete_ #[T.m_int64_iso_life, T.int64] T.unit #[.map m54, .int .i64 n55]) (.tup []) (u0 <|
.untick <|
.read True (ld T.int (Addr.add a0 4)) (sI .i64) (u1 fun (n56 : Int) =>
.bind 3 [] (
.ite (n56 == 3) (
.read True (ld T.int64 (Addr.add a0 0)) (sI .i64) (u1 fun (n57 : Int) =>
.actU (st T.int64 (Addr.add a32 3) (.int .i64 n57)) <|
.tick <|
.ex [.adr] (c1 fun a58 => v = some a58) (u1 fun a59 =>
.read True (ld T.m_iso_key_iso_life (Addr.add a59 2)) sM (u1 fun m60 =>
.read True (ld T.iso_key (Addr.add a32 0)) (sG [.int .i64, .int .i64]) (u2 fun (n61 : Int) (n62 : Int) =>
.read True (ld T.iso_life a32) (sG [.int .i64, .int .i64, .int .i64, .int .i64]) (u4 fun (n63 : Int) (n64 : Int) (n65 : Int) (n66 : Int) =>
.actU (Instr.mapUpdate T.m_iso_key_iso_life (.map m60) (.agg #[.int .i64 n61, .int .i64 n62]) (.agg #[.int .i64 n63, .int .i64 n64, .int .i64 n65, .int .i64 n66])) <|
.untick <|
.done 3 [])))))) (
.done 3 [])) (u0 <|
.done 2 []))))))) (
.done 2 [])) (u0 <|
.done 1 []))))) (u0 <|
.done 0 [.int .i64 0]))))))))))
theorem iso_View_Take_eq (v : Option Addr) (b_0 : Int) (b_1 : Int) (b_2 : Int) (b_3 : Int) (b_4 : Int) (b_5 : Int) (b_6 : Sl) : decomp P 76 ⟨okFs, []⟩ { cnd := [(309182778366441411431104577, []), (309484419525534710019129395, []), (309485009820782118771359773, [])], blk := [], reg := [(5, [(6, .one .adr), (7, .one .bool)])], lps := [] } [.tmp 4] (bodyOf Go.Proofs.Tryz.f12) [.val (.pointer v), .val (.agg #[.int .i64 b_0, .int .i64 b_1, .int .i64 b_2, .int .i64 b_3, .int .i64 b_4, .int .i64 b_5, .slice b_6.a b_6.len b_6.cap])] = iso_View_Take v b_0 b_1 b_2 b_3 b_4 b_5 b_6 := by kernel_rfl
theorem iso_View_Take_calls (v : Option Addr) (b_0 : Int) (b_1 : Int) (b_2 : Int) (b_3 : Int) (b_4 : Int) (b_5 : Int) (b_6 : Sl) {w : World} {R : List Value → World → Prop} (h : (iso_View_Take v b_0 b_1 b_2 b_3 b_4 b_5 b_6).wp P (fun _ => True) w fun e vs w' => e = 0 ∧ R vs w') :
    Calls P F.iso_View_Take #[.pointer v, .agg #[.int .i64 b_0, .int .i64 b_1, .int .i64 b_2, .int .i64 b_3, .int .i64 b_4, .int .i64 b_5, .slice b_6.a b_6.len b_6.cap]] w fun e w' => ∃ vs, e = .returned (pack vs) ∧ R vs w' :=
  decomp_sound (isFn_of Go.Proofs.Tryz.func12 (by kernel_rfl) (by kernel_rfl) (by kernel_rfl)) okFs_ok mix [.val (.pointer v), .val (.agg #[.int .i64 b_0, .int .i64 b_1, .int .i64 b_2, .int .i64 b_3, .int .i64 b_4, .int .i64 b_5, .slice b_6.a b_6.len b_6.cap])] (by rw [iso_View_Take_eq]; exact h)

def towpathref08_View_Take (v : Option Addr) (b_0 : Int) (b_1 : Int) (b_2 : Int) (b_3 : Int) (b_4 : Int) (b_5 : Int) (b_6 : Sl) : Prog :=
.act (Instr.box T.api_Batch (.agg #[.int .i64 b_0, .int .i64 b_1, .int .i64 b_2, .int .i64 b_3, .int .i64 b_4, .int .i64 b_5, b_6.v])) sA (u1 fun a0 =>
.read True (ld T.api_Batch a0) (sG [.int .i64, .int .i64, .int .i64, .int .i64, .int .i64, .int .i64, .slc]) (u7 fun (n1 : Int) (n2 : Int) (n3 : Int) (n4 : Int) (n5 : Int) (n6 : Int) l7 =>
.call F.towpathref03_Valid [.agg #[.int .i64 n1, .int .i64 n2, .int .i64 n3, .int .i64 n4, .int .i64 n5, .int .i64 n6, l7.v]] (sI .i64) (u1 fun (n8 : Int) =>
.lt (.int .i64) (n8) fun (n9 : Int) =>
.ite (n9 != 0) (
.lt (.int .i64) (n9) fun (n10 : Int) =>
.done 0 [.int .i64 n10]) (
.tick <|
.read True (ld T.int64 (Addr.add a0 0)) (sI .i64) (u1 fun (n11 : Int) =>
.ex [.adr] (c1 fun a12 => v = some a12) (u1 fun a13 =>
.read True (ld T.int64 (Addr.add a13 0)) (sI .i64) (u1 fun (n14 : Int) =>
.untick <|
.ite (decide (n11 < n14)) (
.done 0 [.int .i64 8]) (
.tick <|
.ex [.adr] (c1 fun a15 => v = some a15) (u1 fun a16 =>
.read True (ld T.s_towpathref08_Txn (Addr.add a16 1)) sL (u1 fun l17 =>
.read True (ld T.int64 (Addr.add a0 1)) (sI .i64) (u1 fun (n18 : Int) =>
.call F.towpathref08_of [l17.v, .int .i64 n18] (sI .i64) (u1 fun (n19 : Int) =>
.lt (.int .i64) (n19) fun (n20 : Int) =>
.untick <|
.read True (ld T.int (Addr.add a0 4)) (sI .i64) (u1 fun (n21 : Int) =>
.bind 1 [] (
.ite (n21 != 0) (
.tick <|
.ex [.adr] (c1 fun a22 => v = some a22) (u1 fun a23 =>
.read True (ld T.s_towpathref08_Txn (Addr.add a23 2)) sL (u1 fun l24 =>
.read True (ld T.int64 (Addr.add a0 1)) (sI .i64) (u1 fun (n25 : Int) =>
.read True (ld T.int (Addr.add a0 2)) (sI .i64) (u1 fun (n26 : Int) =>
.call F.towpathref08_find [l24.v, .int .i64 n25, .int .i64 n26] (sI .i64) (u1 fun (n27 : Int) =>
.untick <|
.ite (decide (n27 ≥ 0)) (
.done 0 [.int .i64 20]) (
.tick <|
.ex [.adr] (c1 fun a28 => decide (n20 ≥ 0) = true → v = some a28) (u1 fun a29 =>
.read (decide (n20 ≥ 0) = true) (ld T.s_towpathref08_Txn (Addr.add a29 1)) sL (u1 fun l30 =>
.ex [.adr] (c1 fun a31 => decide (n20 ≥ 0) = true → 0 ≤ n20 ∧ n20 < ((l30.len : Nat) : Int) ∧ l30.a = some a31) (u1 fun a32 =>
.read (decide (n20 ≥ 0) = true) (ld T.int (Addr.add (Addr.add a32 (Int.toNat n20 * 4)) 1)) (sI .i64) (u1 fun (n33 : Int) =>
.read (decide (n20 ≥ 0) = true) (ld T.int (Addr.add a0 2)) (sI .i64) (u1 fun (n34 : Int) =>
.untick <|
.ite (decide (n20 ≥ 0) && n33 != n34) (
.done 0 [.int .i64 22]) (
.read True (ld T.int (Addr.add a0 4)) (sI .i64) (u1 fun (n35 : Int) =>
.ex [.adr] (c1 fun a36 => (n35 == 1 && decide (n20 < 0)) = true → v = some a36) (u1 fun a37 =>
.read ((n35 == 1 && decide (n20 < 0)) = true) (ld T.s_towpathref08_Txn (Addr.add a37 1)) sL (u1 fun l38 =>
.read ((n35 == 1 && decide (n20 < 0) && decide (((l38.len : Nat) : Int) ≥ 1024)) = false) (ld T.int (Addr.add a0 4)) (sI .i64) (u1 fun (n39 : Int) =>
.ex [.adr] (c1 fun a40 => (n35 == 1 && decide (n20 < 0) && decide (((l38.len : Nat) : Int) ≥ 1024)) = false ∧ (n39 == 3 && decide (n20 ≥ 0)) = true → v = some a40) (u1 fun a41 =>
.read ((n35 == 1 && decide (n20 < 0) && decide (((l38.len : Nat) : Int) ≥ 1024)) = false ∧ (n39 == 3 && decide (n20 ≥ 0)) = true) (ld T.s_towpathref08_Txn (Addr.add a41 2)) sL (u1 fun l42 =>
.ite (n35 == 1 && decide (n20 < 0) && decide (((l38.len : Nat) : Int) ≥ 1024) || n39 == 3 && decide (n20 ≥ 0) && decide (((l42.len : Nat) : Int) ≥ 4096)) (
.done 0 [.int .i64 5]) (
.done 1 [])))))))))))))))))))) (
.done 1 [])) (u0 <|
.bind 1 [] (
.tick <|
.hold True (ld T.int64 (Addr.add a0 0)) (sI .i64) (u1 fun (n43 : Int) =>
.read True (ld T.api_Batch a0) (sG [.int .i64, .int .i64, .int .i64, .int .i64, .int .i64, .int .i64, .slc]) (u7 fun (n44 : Int) (n45 : Int) (n46 : Int) (n47 : Int) (n48 : Int) (n49 : Int) l50 =>
.call F.towpathref03_Span [.agg #[.int .i64 n44, .int .i64 n45, .int .i64 n46, .int .i64 n47, .int .i64 n48, .int .i64 n49, l50.v]] (sI .i64) (u1 fun (n51 : Int) =>
.ex [.adr] (c1 fun a52 => v = some a52) (u1 fun a53 =>
.untick <|
.actU (st T.int64 (Addr.add a53 0) (.int .i64 (IntKind.wrap .i64 (n43 + n51)))) <|
.untick <|
.done 1 []))))) (u0 <|
.read True (ld T.int (Addr.add a0 4)) (sI .i64) (u1 fun (n54 : Int) =>
.bind 1 [] (
.ite (n54 == 1 && decide (n20 < 0)) (
.ex [.adr] (c1 fun a55 => v = some a55) (u1 fun a56 =>
.read True (ld T.s_towpathref08_Txn (Addr.add a56 1)) sL (u1 fun l57 =>
.act (app T.s_towpathref08_Txn T.s_towpathref08_Txn T.s_towpathref08_Txn (.slice none 0 0) l57.v) sL (u1 fun l58 =>
.read True (ld T.int64 (Addr.add a0 1)) (sI .i64) (u1 fun (n59 : Int) =>
.read True (ld T.int (Addr.add a0 2)) (sI .i64) (u1 fun (n60 : Int) =>
.read True (ld T.int64 (Addr.add a0 0)) (sI .i64) (u1 fun (n61 : Int) =>
.act (Instr.buildSlice T.s_towpathref08_Txn 1 #[(0, .agg #[.int .i64 n59, .int .i64 n60, .int .i64 n61, .int .i64 (-1)])]) sL (u1 fun l62 =>
.act (app T.s_towpathref08_Txn T.s_towpathref08_Txn T.s_towpathref08_Txn l58.v l62.v) sL (u1 fun l63 =>
.ex [.adr] (c1 fun a64 => v = some a64) (u1 fun a65 =>
.actU (st T.s_towpathref08_Txn (Addr.add a65 1) l63.v) <|
.done 1 [])))))))))) (
.done 1 [])) (u0 <|
.read True (ld T.api_Batch a0) (sG [.int .i64, .int .i64, .int .i64, .int .i64, .int .i64, .int .i64, .slc]) (u7 fun (n66 : Int) (n67 : Int) (n68 : Int) (n69 : Int) (n70 : Int) (n71 : Int) l72 =>
.call F.towpathref03_Mark [.agg #[.int .i64 n66, .int .i64 n67, .int .i64 n68, .int .i64 n69, .int .i64 n70, .int .i64 n71, l72.v]] sB (u1 fun b73 =>
.bind 1 [] (
.ite (b73 && decide (n20 ≥ 0)) (
.ex [.adr] (c1 fun a74 => v = some a74) (u1 fun a75 =>
.read True (ld T.s_towpathref08_Txn (Addr.add a75 1)) sL (u1 fun l76 =>
.ex [.adr] (c1 fun a77 => 0 ≤ n20 ∧ n20 < ((l76.len : Nat) : Int) ∧ l76.a = some a77) (u1 fun a78 =>
.read True (ld T.towpathref08_Txn (Addr.add a78 (Int.toNat n20 * 4))) (sG [.int .i64, .int .i64, .int .i64, .int .i64]) (u4 fun (n79 : Int) (n80 : Int) (n81 : Int) (n82 : Int) =>
.act (new T.towpathref08_Txn) sA (u1 fun a83 =>
.actU (st T.towpathref08_Txn a83 (.agg #[.int .i64 n79, .int .i64 n80, .int .i64 n81, .int .i64 n82])) <|
.ex [.adr] (c1 fun a84 => v = some a84) (u1 fun a85 =>
.read True (ld T.s_towpathref08_Txn (Addr.add a85 1)) sL (u1 fun l86 =>
.must (0 ≤ n20 ∧ n20 ≤ ((l86.cap : Nat) : Int)) <|
.act (app T.s_towpathref08_Txn T.s_towpathref08_Txn T.s_towpathref08_Txn (.slice none 0 0) (.slice l86.a (Int.toNat n20) l86.cap)) sL (u1 fun l87 =>
.ex [.adr] (c1 fun a88 => v = some a88) (u1 fun a89 =>
.read True (ld T.s_towpathref08_Txn (Addr.add a89 1)) sL (u1 fun l90 =>
.must (0 ≤ IntKind.wrap .i64 (n20 + 1) ∧ IntKind.wrap .i64 (n20 + 1) ≤ ((l90.len : Nat) : Int)) <|
.act (app T.s_towpathref08_Txn T.s_towpathref08_Txn T.s_towpathref08_Txn l87.v (.slice (cutA l90.a 4 (Int.toNat (IntKind.wrap .i64 (n20 + 1))) l90.cap) (l90.len - Int.toNat (IntKind.wrap .i64 (n20 + 1))) (l90.cap - Int.toNat (IntKind.wrap .i64 (n20 + 1))))) sL (u1 fun l91 =>
.ex [.adr] (c1 fun a92 => v = some a92) (u1 fun a93 =>
.actU (st T.s_towpathref08_Txn (Addr.add a93 1) l91.v) <|
.read True (ld T.int (Addr.add a0 4)) (sI .i64) (u1 fun (n94 : Int) =>
.bind 2 [] (
.ite (n94 == 3) (
.read True (ld T.int64 (Addr.add a0 0)) (sI .i64) (u1 fun (n95 : Int) =>
.actU (st T.int64 (Addr.add a83 3) (.int .i64 n95)) <|
.ex [.adr] (c1 fun a96 => v = some a96) (u1 fun a97 =>
.read True (ld T.s_towpathref08_Txn (Addr.add a97 2)) sL (u1 fun l98 =>
.act (app T.s_towpathref08_Txn T.s_towpathref08_Txn T.s_towpathref08_Txn (.slice none 0 0) l98.v) sL (u1 fun l99 =>
.read True (ld T.towpathref08_Txn a83) (sG [.int .i64, .int .i64, .int .i64, .int .i64]) (u4 fun (n100 : Int) (n101 : Int) (n102 : Int) (n103 : Int) =>
.act (Instr.buildSlice T.s_towpathref08_Txn 1 #[(0, .agg #[.int .i64 n100, .int .i64 n101, .int .i64 n102, .int .i64 n103])]) sL (u1 fun l104 =>
.act (app T.s_towpathref08_Txn T.s_towpathref08_Txn T.s_towpathref08_Txn l99.v l104.v) sL (u1 fun l105 =>
.ex [.adr] (c1 fun a106 => v = some a106) (u1 fun a107 =>
.actU (st T.s_towpathref08_Txn (Addr.add a107 2) l105.v) <|
.done 2 []))))))))) (
.done 2 [])) (u0 <|
.done 1 []))))))))))))))) (
.done 1 [])) (u0 <|
.done 0 [.int .i64 0]))))))))))))))))))))
theorem towpathref08_View_Take_eq (v : Option Addr) (b_0 : Int) (b_1 : Int) (b_2 : Int) (b_3 : Int) (b_4 : Int) (b_5 : Int) (b_6 : Sl) : decomp P 176 ⟨okFs, []⟩ { cnd := [(5070602400912917570802440798240, []), (87112119778260773532139786526650127614056, []), (392312872150961040361383876657404345111148704579310321823, []), (392318858461661972553437206294693767076829053188633002113, [])], blk := [], reg := [(14, [])], lps := [] } [.tmp 4] (bodyOf Go.Proofs.Tryz.f13) [.val (.pointer v), .val (.agg #[.int .i64 b_0, .int .i64 b_1, .int .i64 b_2, .int .i64 b_3, .int .i64 b_4, .int .i64 b_5, .slice b_6.a b_6.len b_6.cap])] = towpathref08_View_Take v b_0 b_1 b_2 b_3 b_4 b_5 b_6 := by kernel_rfl
theorem towpathref08_View_Take_calls (v : Option Addr) (b_0 : Int) (b_1 : Int) (b_2 : Int) (b_3 : Int) (b_4 : Int) (b_5 : Int) (b_6 : Sl) {w : World} {R : List Value → World → Prop} (h : (towpathref08_View_Take v b_0 b_1 b_2 b_3 b_4 b_5 b_6).wp P (fun _ => True) w fun e vs w' => e = 0 ∧ R vs w') :
    Calls P F.towpathref08_View_Take #[.pointer v, .agg #[.int .i64 b_0, .int .i64 b_1, .int .i64 b_2, .int .i64 b_3, .int .i64 b_4, .int .i64 b_5, .slice b_6.a b_6.len b_6.cap]] w fun e w' => ∃ vs, e = .returned (pack vs) ∧ R vs w' :=
  decomp_sound (isFn_of Go.Proofs.Tryz.func13 (by kernel_rfl) (by kernel_rfl) (by kernel_rfl)) okFs_ok mix [.val (.pointer v), .val (.agg #[.int .i64 b_0, .int .i64 b_1, .int .i64 b_2, .int .i64 b_3, .int .i64 b_4, .int .i64 b_5, .slice b_6.a b_6.len b_6.cap])] (by rw [towpathref08_View_Take_eq]; exact h)

def iso_View_Forget (v : Option Addr) (offset : Int) : Prog :=
.act (Instr.box T.int64 (.int .i64 offset)) sA (u1 fun a0 =>
.ite (Option.isNone v) (
.done 0 [.int .i64 0]) (
.ex [.adr] (c1 fun a1 => v = some a1) (u1 fun a2 =>
.read True (ld T.m_iso_key_iso_life (Addr.add a2 2)) sM (u1 fun m3 =>
.read True (Builtin.len_ #[T.m_iso_key_iso_life] T.int #[.map m3]) (sI .i64) (u1 fun (n4 : Int) =>
.lt (.int .i64) (n4) fun (n5 : Int) =>
.ex [.adr] (c1 fun a6 => v = some a6) (u1 fun a7 =>
.read True (ld T.m_iso_key_iso_life (Addr.add a7 2)) sM (u1 fun m8 =>
.call F.maps_DeleteFunc_map_iso_key_iso_life_iso_key_iso_life [.map m8, .func (Fn.func 43) #[] #[.pointer (some a0)]] (.tup []) (u0 <|
.ex [.adr] (c1 fun a9 => v = some a9) (u1 fun a10 =>
.read True (ld T.m_iso_key_iso_life (Addr.add a10 2)) sM (u1 fun m11 =>
.read True (Builtin.len_ #[T.m_iso_key_iso_life] T.int #[.map m11]) (sI .i64) (u1 fun (n12 : Int) =>
.lt (.int .i64) (IntKind.wrap .i64 (n5 - n12)) fun (n13 : Int) =>
.done 0 [.int .i64 n13])))))))))))
theorem iso_View_Forget_eq (v : Option Addr) (offset : Int) : decomp P 26 ⟨okFs, []⟩ { cnd := [], blk := [], reg := [], lps := [] } [.tmp 4] (bodyOf Go.Proofs.Tryz.f14) [.val (.pointer v), .val (.int .i64 offset)] = iso_View_Forget v offset := by kernel_rfl
theorem iso_View_Forget_calls (v : Option Addr) (offset : Int) {w : World} {R : List Value → World → Prop} (h : (iso_View_Forget v offset).wp P (fun _ => True) w fun e vs w' => e = 0 ∧ R vs w') :
    Calls P F.iso_View_Forget #[.pointer v, .int .i64 offset] w fun e w' => ∃ vs, e = .returned (pack vs) ∧ R vs w' :=
  decomp_sound (isFn_of Go.Proofs.Tryz.func14 (by kernel_rfl) (by kernel_rfl) (by kernel_rfl)) okFs_ok mix [.val (.pointer v), .val (.int .i64 offset)] (by rw [iso_View_Forget_eq]; exact h)

def towpathref08_View_Forget (v : Option Addr) (offset : Int) : Prog :=
.ex [.adr] (c1 fun a0 => v = some a0) (u1 fun a1 =>
.read True (ld T.s_towpathref08_Txn (Addr.add a1 2)) sL (u1 fun l2 =>
.bind 1 [.one .slc] (
.loop 2 [.one .slc, .one (.int .i64)] (⟨none, 0, 0⟩, (0, ())) (u2 fun l3 (n4 : Int) =>
.ite (decide (n4 < ((l2.len : Nat) : Int))) (
.ex [.adr] (c1 fun a5 => 0 ≤ n4 ∧ n4 < ((l2.len : Nat) : Int) ∧ l2.a = some a5) (u1 fun a6 =>
.read True (ld T.towpathref08_Txn (Addr.add a6 (Int.toNat n4 * 4))) (sG [.int .i64, .int .i64, .int .i64, .int .i64]) (u4 fun (n7 : Int) (n8 : Int) (n9 : Int) (n10 : Int) =>
.act (new T.towpathref08_Txn) sA (u1 fun a11 =>
.actU (st T.towpathref08_Txn a11 (.agg #[.int .i64 n7, .int .i64 n8, .int .i64 n9, .int .i64 n10])) <|
.read True (ld T.int64 (Addr.add a11 3)) (sI .i64) (u1 fun (n12 : Int) =>
.bind 3 [.one .slc] (
.ite (decide (n12 ≥ offset)) (
.read True (ld T.towpathref08_Txn a11) (sG [.int .i64, .int .i64, .int .i64, .int .i64]) (u4 fun (n13 : Int) (n14 : Int) (n15 : Int) (n16 : Int) =>
.act (Instr.buildSlice T.s_towpathref08_Txn 1 #[(0, .agg #[.int .i64 n13, .int .i64 n14, .int .i64 n15, .int .i64 n16])]) sL (u1 fun l17 =>
.act (app T.s_towpathref08_Txn T.s_towpathref08_Txn T.s_towpathref08_Txn l3.v l17.v) sL (u1 fun l18 =>
.done 3 [l18.v])))) (
.done 3 [l3.v])) (u1 fun l19 =>
.done 2 [l19.v, .int .i64 (IntKind.wrap .i64 (n4 + 1))])))))) (
.done 1 [l3.v]))) (u1 fun l20 =>
.ex [.adr] (c1 fun a21 => v = some a21) (u1 fun a22 =>
.read True (ld T.s_towpathref08_Txn (Addr.add a22 2)) sL (u1 fun l23 =>
.lt (.int .i64) (IntKind.wrap .i64 (((l23.len : Nat) : Int) - ((l20.len : Nat) : Int))) fun (n24 : Int) =>
.ex [.adr] (c1 fun a25 => v = some a25) (u1 fun a26 =>
.actU (st T.s_towpathref08_Txn (Addr.add a26 2) l20.v) <|
.lt (.int .i64) (n24) fun (n27 : Int) =>
.done 0 [.int .i64 n27]))))))
theorem towpathref08_View_Forget_eq (v : Option Addr) (offset : Int) : decomp P 40 ⟨okFs, []⟩ { cnd := [(257698168853, [(5, .one .slc)])], blk := [(0, [(5, .one .slc)])], reg := [], lps := [(0, [(5, .one .slc), (14, .one (.int .i64))])] } [.tmp 4] (bodyOf Go.Proofs.Tryz.f15) [.val (.pointer v), .val (.int .i64 offset)] = towpathref08_View_Forget v offset := by kernel_rfl
theorem towpathref08_View_Forget_calls (v : Option Addr) (offset : Int) {w : World} {R : List Value → World → Prop} (h : (towpathref08_View_Forget v offset).wp P (fun _ => True) w fun e vs w' => e = 0 ∧ R vs w') :
    Calls P F.towpathref08_View_Forget #[.pointer v, .int .i64 offset] w fun e w' => ∃ vs, e = .returned (pack vs) ∧ R vs w' :=
  decomp_sound (isFn_of Go.Proofs.Tryz.func15 (by kernel_rfl) (by kernel_rfl) (by kernel_rfl)) okFs_ok mix [.val (.pointer v), .val (.int .i64 offset)] (by rw [towpathref08_View_Forget_eq]; exact h)

def iso_View_Fate (v : Option Addr) (b_0 : Int) (b_1 : Int) (b_2 : Int) (b_3 : Int) (b_4 : Int) (b_5 : Int) (b_6 : Sl) : Prog :=
.act (Instr.box T.api_Batch (.agg #[.int .i64 b_0, .int .i64 b_1, .int .i64 b_2, .int .i64 b_3, .int .i64 b_4, .int .i64 b_5, b_6.v])) sA (u1 fun a0 =>
.ite (Option.isNone v) (
.done 0 [.int .i64 0]) (
.bind 1 [.one .adr, .one .bool] (
.tick <|
.ex [.adr] (c1 fun a1 => v = some a1) (u1 fun a2 =>
.hold True (ld T.m_iso_key_iso_life (Addr.add a2 2)) sM (u1 fun m3 =>
.hold True (ld T.int64 (Addr.add a0 1)) (sI .i64) (u1 fun (n4 : Int) =>
.hold True (ld T.int (Addr.add a0 2)) (sI .i64) (u1 fun (n5 : Int) =>
.hold True (Instr.lookup T.m_iso_key_iso_life (.map m3) (.agg #[.int .i64 n4, .int .i64 n5]) true) (.tup [.agg [.int .i64, .int .i64, .int .i64, .int .i64], .one .bool]) (u5 fun (n6 : Int) (n7 : Int) (n8 : Int) (n9 : Int) b10 =>
.act (new T.iso_life) sA (u1 fun a11 =>
.untick <|
.actU (st T.iso_life a11 (.agg #[.int .i64 n6, .int .i64 n7, .int .i64 n8, .int .i64 n9])) <|
.lt (.bool) (b10) fun b12 =>
.untick <|
.done 1 [.pointer (some a11), .bool b12]))))))) (u2 fun a13 b14 =>
.read True (ld T.api_Batch a0) (sG [.int .i64, .int .i64, .int .i64, .int .i64, .int .i64, .int .i64, .slc]) (u7 fun (n15 : Int) (n16 : Int) (n17 : Int) (n18 : Int) (n19 : Int) (n20 : Int) l21 =>
.call F.iso_mark [.agg #[.int .i64 n15, .int .i64 n16, .int .i64 n17, .int .i64 n18, .int .i64 n19, .int .i64 n20, l21.v]] sB (u1 fun b22 =>
.lt (.bool) (b22) fun b23 =>
.ite (b23) (
.done 0 [.int .i64 3]) (
.tick <|
.hold True (ld T.int64 (Addr.add a0 0)) (sI .i64) (u1 fun (n24 : Int) =>
.call F.iso_View_Stable [.pointer v] (sI .i64) (u1 fun (n25 : Int) =>
.lt (.bool) (decide (n24 ≥ n25)) fun b26 =>
.untick <|
.ite (b26) (
.done 0 [.int .i64 0]) (
.read True (ld T.int (Addr.add a0 4)) (sI .i64) (u1 fun (n27 : Int) =>
.read ((n27 == 1 && b14) = true) (ld T.int64 (Addr.add a0 0)) (sI .i64) (u1 fun (n28 : Int) =>
.read ((n27 == 1 && b14) = true) (ld T.int64 (Addr.add a13 2)) (sI .i64) (u1 fun (n29 : Int) =>
.lt (.bool) (n27 == 1 && b14 && decide (n28 ≥ n29)) fun b30 =>
.ite (b30) (
.done 0 [.int .i64 2]) (
.done 0 [.int .i64 1])))))))))))))
theorem iso_View_Fate_eq (v : Option Addr) (b_0 : Int) (b_1 : Int) (b_2 : Int) (b_3 : Int) (b_4 : Int) (b_5 : Int) (b_6 : Sl) : decomp P 45 ⟨okFs, []⟩ { cnd := [], blk := [], reg := [(3, [(5, .one .adr), (6, .one .bool)])], lps := [] } [.tmp 4] (bodyOf Go.Proofs.Tryz.f16) [.val (.pointer v), .val (.agg #[.int .i64 b_0, .int .i64 b_1, .int .i64 b_2, .int .i64 b_3, .int .i64 b_4, .int .i64 b_5, .slice b_6.a b_6.len b_6.cap])] = iso_View_Fate v b_0 b_1 b_2 b_3 b_4 b_5 b_6 := by kernel_rfl
theorem iso_View_Fate_calls (v : Option Addr) (b_0 : Int) (b_1 : Int) (b_2 : Int) (b_3 : Int) (b_4 : Int) (b_5 : Int) (b_6 : Sl) {w : World} {R : List Value → World → Prop} (h : (iso_View_Fate v b_0 b_1 b_2 b_3 b_4 b_5 b_6).wp P (fun _ => True) w fun e vs w' => e = 0 ∧ R vs w') :
    Calls P F.iso_View_Fate #[.pointer v, .agg #[.int .i64 b_0, .int .i64 b_1, .int .i64 b_2, .int .i64 b_3, .int .i64 b_4, .int .i64 b_5, .slice b_6.a b_6.len b_6.cap]] w fun e w' => ∃ vs, e = .returned (pack vs) ∧ R vs w' :=
  decomp_sound (isFn_of Go.Proofs.Tryz.func16 (by kernel_rfl) (by kernel_rfl) (by kernel_rfl)) okFs_ok mix [.val (.pointer v), .val (.agg #[.int .i64 b_0, .int .i64 b_1, .int .i64 b_2, .int .i64 b_3, .int .i64 b_4, .int .i64 b_5, .slice b_6.a b_6.len b_6.cap])] (by rw [iso_View_Fate_eq]; exact h)

def towpathref08_View_Fate (v : Option Addr) (b_0 : Int) (b_1 : Int) (b_2 : Int) (b_3 : Int) (b_4 : Int) (b_5 : Int) (b_6 : Sl) : Prog :=
.act (Instr.box T.api_Batch (.agg #[.int .i64 b_0, .int .i64 b_1, .int .i64 b_2, .int .i64 b_3, .int .i64 b_4, .int .i64 b_5, b_6.v])) sA (u1 fun a0 =>
.read True (ld T.api_Batch a0) (sG [.int .i64, .int .i64, .int .i64, .int .i64, .int .i64, .int .i64, .slc]) (u7 fun (n1 : Int) (n2 : Int) (n3 : Int) (n4 : Int) (n5 : Int) (n6 : Int) l7 =>
.call F.towpathref03_Mark [.agg #[.int .i64 n1, .int .i64 n2, .int .i64 n3, .int .i64 n4, .int .i64 n5, .int .i64 n6, l7.v]] sB (u1 fun b8 =>
.ite (b8) (
.done 0 [.int .i64 3]) (
.tick <|
.hold True (ld T.int64 (Addr.add a0 0)) (sI .i64) (u1 fun (n9 : Int) =>
.call F.towpathref08_View_Stable [.pointer v] (sI .i64) (u1 fun (n10 : Int) =>
.untick <|
.ite (decide (n9 ≥ n10)) (
.done 0 [.int .i64 0]) (
.tick <|
.ex [.adr] (c1 fun a11 => v = some a11) (u1 fun a12 =>
.read True (ld T.s_towpathref08_Txn (Addr.add a12 2)) sL (u1 fun l13 =>
.read True (ld T.int64 (Addr.add a0 1)) (sI .i64) (u1 fun (n14 : Int) =>
.read True (ld T.int (Addr.add a0 2)) (sI .i64) (u1 fun (n15 : Int) =>
.call F.towpathref08_find [l13.v, .int .i64 n14, .int .i64 n15] (sI .i64) (u1 fun (n16 : Int) =>
.lt (.int .i64) (n16) fun (n17 : Int) =>
.untick <|
.tick <|
.read True (ld T.int (Addr.add a0 4)) (sI .i64) (u1 fun (n18 : Int) =>
.read ((n18 == 1 && decide (n17 ≥ 0)) = true) (ld T.int64 (Addr.add a0 0)) (sI .i64) (u1 fun (n19 : Int) =>
.ex [.adr] (c1 fun a20 => (n18 == 1 && decide (n17 ≥ 0)) = true → v = some a20) (u1 fun a21 =>
.read ((n18 == 1 && decide (n17 ≥ 0)) = true) (ld T.s_towpathref08_Txn (Addr.add a21 2)) sL (u1 fun l22 =>
.ex [.adr] (c1 fun a23 => (n18 == 1 && decide (n17 ≥ 0)) = true → 0 ≤ n17 ∧ n17 < ((l22.len : Nat) : Int) ∧ l22.a = some a23) (u1 fun a24 =>
.read ((n18 == 1 && decide (n17 ≥ 0)) = true) (ld T.int64 (Addr.add (Addr.add a24 (Int.toNat n17 * 4)) 2)) (sI .i64) (u1 fun (n25 : Int) =>
.untick <|
.ite (n18 == 1 && decide (n17 ≥ 0) && decide (n19 ≥ n25)) (
.done 0 [.int .i64 2]) (
.done 0 [.int .i64 1])))))))))))))))))))
theorem towpathref08_View_Fate_eq (v : Option Addr) (b_0 : Int) (b_1 : Int) (b_2 : Int) (b_3 : Int) (b_4 : Int) (b_5 : Int) (b_6 : Sl) : decomp P 42 ⟨okFs, []⟩ { cnd := [], blk := [], reg := [], lps := [] } [.tmp 4] (bodyOf Go.Proofs.Tryz.f17) [.val (.pointer v), .val (.agg #[.int .i64 b_0, .int .i64 b_1, .int .i64 b_2, .int .i64 b_3, .int .i64 b_4, .int .i64 b_5, .slice b_6.a b_6.len b_6.cap])] = towpathref08_View_Fate v b_0 b_1 b_2 b_3 b_4 b_5 b_6 := by kernel_rfl
theorem towpathref08_View_Fate_calls (v : Option Addr) (b_0 : Int) (b_1 : Int) (b_2 : Int) (b_3 : Int) (b_4 : Int) (b_5 : Int) (b_6 : Sl) {w : World} {R : List Value → World → Prop} (h : (towpathref08_View_Fate v b_0 b_1 b_2 b_3 b_4 b_5 b_6).wp P (fun _ => True) w fun e vs w' => e = 0 ∧ R vs w') :
    Calls P F.towpathref08_View_Fate #[.pointer v, .agg #[.int .i64 b_0, .int .i64 b_1, .int .i64 b_2, .int .i64 b_3, .int .i64 b_4, .int .i64 b_5, .slice b_6.a b_6.len b_6.cap]] w fun e w' => ∃ vs, e = .returned (pack vs) ∧ R vs w' :=
  decomp_sound (isFn_of Go.Proofs.Tryz.func17 (by kernel_rfl) (by kernel_rfl) (by kernel_rfl)) okFs_ok mix [.val (.pointer v), .val (.agg #[.int .i64 b_0, .int .i64 b_1, .int .i64 b_2, .int .i64 b_3, .int .i64 b_4, .int .i64 b_5, .slice b_6.a b_6.len b_6.cap])] (by rw [towpathref08_View_Fate_eq]; exact h)

def iso_View_Next (v : Option Addr) : Prog :=
.ite (Option.isNone v) (
.done 0 [.int .i64 0]) (
.ex [.adr] (c1 fun a0 => v = some a0) (u1 fun a1 =>
.read True (ld T.int64 (Addr.add a1 0)) (sI .i64) (u1 fun (n2 : Int) =>
.lt (.int .i64) (n2) fun (n3 : Int) =>
.done 0 [.int .i64 n3])))
theorem iso_View_Next_eq (v : Option Addr) : decomp P 9 ⟨okFs, []⟩ { cnd := [], blk := [], reg := [], lps := [] } [.tmp 2] (bodyOf Go.Proofs.Tryz.f22) [.val (.pointer v)] = iso_View_Next v := by kernel_rfl
theorem iso_View_Next_calls (v : Option Addr) {w : World} {R : List Value → World → Prop} (h : (iso_View_Next v).wp P (fun _ => True) w fun e vs w' => e = 0 ∧ R vs w') :
    Calls P F.iso_View_Next #[.pointer v] w fun e w' => ∃ vs, e = .returned (pack vs) ∧ R vs w' :=
  decomp_sound (isFn_of Go.Proofs.Tryz.func22 (by kernel_rfl) (by kernel_rfl) (by kernel_rfl)) okFs_ok mix [.val (.pointer v)] (by rw [iso_View_Next_eq]; exact h)

def iso_View_Stable (v : Option Addr) : Prog :=
.ite (Option.isNone v) (
.done 0 [.int .i64 0]) (
.ex [.adr] (c1 fun a0 => v = some a0) (u1 fun a1 =>
.read True (ld T.int64 (Addr.add a1 0)) (sI .i64) (u1 fun (n2 : Int) =>
.lt (.int .i64) (n2) fun (n3 : Int) =>
.ex [.adr] (c1 fun a4 => v = some a4) (u1 fun a5 =>
.read True (ld T.m_int64_iso_life (Addr.add a5 1)) sM (u1 fun m6 =>
.act (Instr.range T.m_int64_iso_life (.map m6)) sA (u1 fun a7 =>
.bind 1 [.one (.int .i64)] (
.loop 2 [.one (.int .i64)] (n3, ()) (u1 fun (n8 : Int) =>
.next (Instr.next (.pointer (some a7)) false T.unit) ([.one (.int .i64), .agg [.int .i64, .int .i64, .int .i64, .int .i64]]) (u5 fun (n9 : Int) (n10 : Int) (n11 : Int) (n12 : Int) (n13 : Int) =>
.act (Instr.entry (.pointer (some a7))) (.tup [.one (.int .i64), .agg [.int .i64, .int .i64, .int .i64, .int .i64]]) (u5 fun (n14 : Int) (n15 : Int) (n16 : Int) (n17 : Int) (n18 : Int) =>
.act (new T.iso_life) sA (u1 fun a19 =>
.actU (st T.iso_life a19 (.agg #[.int .i64 n15, .int .i64 n16, .int .i64 n17, .int .i64 n18])) <|
.read True (ld T.int64 (Addr.add a19 2)) (sI .i64) (u1 fun (n20 : Int) =>
.lt (.int .i64) (if n20 < n8 then n20 else n8) fun (n21 : Int) =>
.done 2 [.int .i64 n21])))) (
.done 1 [.int .i64 n8]))) (u1 fun (n22 : Int) =>
.lt (.int .i64) (n22) fun (n23 : Int) =>
.done 0 [.int .i64 n23])))))))
theorem iso_View_Stable_eq (v : Option Addr) : decomp P 26 ⟨okFs, [(17, [.one (.int .i64), .agg [.int .i64, .int .i64, .int .i64, .int .i64]]), (19, [.one (.int .i64), .agg [.int .i64, .int .i64, .int .i64, .int .i64]])]⟩ { cnd := [], blk := [(0, [(3, .one (.int .i64))])], reg := [], lps := [(0, [(3, .one (.int .i64))])] } [.tmp 2] (bodyOf Go.Proofs.Tryz.f23) [.val (.pointer v)] = iso_View_Stable v := by kernel_rfl
theorem iso_View_Stable_calls (v : Option Addr) {w : World} {R : List Value → World → Prop} (h : (iso_View_Stable v).wp P (fun _ => True) w fun e vs w' => e = 0 ∧ R vs w') :
    Calls P F.iso_View_Stable #[.pointer v] w fun e w' => ∃ vs, e = .returned (pack vs) ∧ R vs w' :=
  decomp_sound (isFn_of Go.Proofs.Tryz.func23 (by kernel_rfl) (by kernel_rfl) (by kernel_rfl)) okFs_ok mix [.val (.pointer v)] (by rw [iso_View_Stable_eq]; exact h)

def towpathref08_View_Stable (v : Option Addr) : Prog :=
.ex [.adr] (c1 fun a0 => v = some a0) (u1 fun a1 =>
.read True (ld T.s_towpathref08_Txn (Addr.add a1 1)) sL (u1 fun l2 =>
.ite (decide (((l2.len : Nat) : Int) > 0)) (
.ex [.adr] (c1 fun a3 => v = some a3) (u1 fun a4 =>
.read True (ld T.s_towpathref08_Txn (Addr.add a4 1)) sL (u1 fun l5 =>
.ex [.adr] (c1 fun a6 => (0 : Int) ≤ 0 ∧ 0 < ((l5.len : Nat) : Int) ∧ l5.a = some a6) (u1 fun a7 =>
.read True (ld T.int64 (Addr.add (Addr.add a7 0) 2)) (sI .i64) (u1 fun (n8 : Int) =>
.lt (.int .i64) (n8) fun (n9 : Int) =>
.done 0 [.int .i64 n9]))))) (
.ex [.adr] (c1 fun a10 => v = some a10) (u1 fun a11 =>
.read True (ld T.int64 (Addr.add a11 0)) (sI .i64) (u1 fun (n12 : Int) =>
.lt (.int .i64) (n12) fun (n13 : Int) =>
.done 0 [.int .i64 n13])))))
theorem towpathref08_View_Stable_eq (v : Option Addr) : decomp P 20 ⟨okFs, []⟩ { cnd := [], blk := [], reg := [], lps := [] } [.tmp 2] (bodyOf Go.Proofs.Tryz.f24) [.val (.pointer v)] = towpathref08_View_Stable v := by kernel_rfl
theorem towpathref08_View_Stable_calls (v : Option Addr) {w : World} {R : List Value → World → Prop} (h : (towpathref08_View_Stable v).wp P (fun _ => True) w fun e vs w' => e = 0 ∧ R vs w') :
    Calls P F.towpathref08_View_Stable #[.pointer v] w fun e w' => ∃ vs, e = .returned (pack vs) ∧ R vs w' :=
  decomp_sound (isFn_of Go.Proofs.Tryz.func24 (by kernel_rfl) (by kernel_rfl) (by kernel_rfl)) okFs_ok mix [.val (.pointer v)] (by rw [towpathref08_View_Stable_eq]; exact h)

def towpathlaw08_txns (a : Sl) (b : Sl) : Prog :=
.ite (((a.len : Nat) : Int) != ((b.len : Nat) : Int)) (
.done 0 [.bool false]) (
.bind 1 [] (
.loop 2 [.one (.int .i64)] (0, ()) (u1 fun (n0 : Int) =>
.ite (decide (n0 < ((a.len : Nat) : Int))) (
.lt (.int .i64) (n0) fun (n1 : Int) =>
.tick <|
.ex [.adr] (c1 fun a2 => 0 ≤ n1 ∧ n1 < ((a.len : Nat) : Int) ∧ a.a = some a2) (u1 fun a3 =>
.read True (ld T.int64 (Addr.add (Addr.add a3 (Int.toNat n1 * 4)) 0)) (sI .i64) (u1 fun (n4 : Int) =>
.ex [.adr] (c1 fun a5 => 0 ≤ n1 ∧ n1 < ((b.len : Nat) : Int) ∧ b.a = some a5) (u1 fun a6 =>
.read True (ld T.int64 (Addr.add (Addr.add a6 (Int.toNat n1 * 4)) 0)) (sI .i64) (u1 fun (n7 : Int) =>
.ex [.adr] (c1 fun a8 => (n4 != n7) = false → 0 ≤ n1 ∧ n1 < ((a.len : Nat) : Int) ∧ a.a = some a8) (u1 fun a9 =>
.read ((n4 != n7) = false) (ld T.int (Addr.add (Addr.add a9 (Int.toNat n1 * 4)) 1)) (sI .i64) (u1 fun (n10 : Int) =>
.ex [.adr] (c1 fun a11 => (n4 != n7) = false → 0 ≤ n1 ∧ n1 < ((b.len : Nat) : Int) ∧ b.a = some a11) (u1 fun a12 =>
.read ((n4 != n7) = false) (ld T.int (Addr.add (Addr.add a12 (Int.toNat n1 * 4)) 1)) (sI .i64) (u1 fun (n13 : Int) =>
.ex [.adr] (c1 fun a14 => (n4 != n7 || n10 != n13) = false → 0 ≤ n1 ∧ n1 < ((a.len : Nat) : Int) ∧ a.a = some a14) (u1 fun a15 =>
.read ((n4 != n7 || n10 != n13) = false) (ld T.int64 (Addr.add (Addr.add a15 (Int.toNat n1 * 4)) 2)) (sI .i64) (u1 fun (n16 : Int) =>
.ex [.adr] (c1 fun a17 => (n4 != n7 || n10 != n13) = false → 0 ≤ n1 ∧ n1 < ((b.len : Nat) : Int) ∧ b.a = some a17) (u1 fun a18 =>
.read ((n4 != n7 || n10 != n13) = false) (ld T.int64 (Addr.add (Addr.add a18 (Int.toNat n1 * 4)) 2)) (sI .i64) (u1 fun (n19 : Int) =>
.ex [.adr] (c1 fun a20 => (n4 != n7 || n10 != n13 || n16 != n19) = false → 0 ≤ n1 ∧ n1 < ((a.len : Nat) : Int) ∧ a.a = some a20) (u1 fun a21 =>
.read ((n4 != n7 || n10 != n13 || n16 != n19) = false) (ld T.int64 (Addr.add (Addr.add a21 (Int.toNat n1 * 4)) 3)) (sI .i64) (u1 fun (n22 : Int) =>
.ex [.adr] (c1 fun a23 => (n4 != n7 || n10 != n13 || n16 != n19) = false → 0 ≤ n1 ∧ n1 < ((b.len : Nat) : Int) ∧ b.a = some a23) (u1 fun a24 =>
.read ((n4 != n7 || n10 != n13 || n16 != n19) = false) (ld T.int64 (Addr.add (Addr.add a24 (Int.toNat n1 * 4)) 3)) (sI .i64) (u1 fun (n25 : Int) =>
.untick <|
.ite (n4 != n7 || n10 != n13 || n16 != n19 || n22 != n25) (
.done 0 [.bool false]) (
.ex [.adr] (c1 fun a26 => 0 ≤ n1 ∧ n1 < ((a.len : Nat) : Int) ∧ a.a = some a26) (u1 fun a27 =>
.actU (st T.iso_Txn (Addr.add a27 (Int.toNat n1 * 4)) (.agg #[.int .i64 (-1), .int .i64 0, .int .i64 0, .int .i64 0])) <|
.done 2 [.int .i64 (IntKind.wrap .i64 (n0 + 1))]))))))))))))))))))) (
.done 1 []))) (u0 <|
.done 0 [.bool true]))
theorem towpathlaw08_txns_eq (a : Sl) (b : Sl) : decomp P 71 ⟨okFs, []⟩ { cnd := [], blk := [(0, [])], reg := [], lps := [(0, [(13, .one (.int .i64))])] } [.tmp 4] (bodyOf Go.Proofs.Tryz.f25) [.val (.slice a.a a.len a.cap), .val (.slice b.a b.len b.cap)] = towpathlaw08_txns a b := by kernel_rfl
theorem towpathlaw08_txns_calls (a : Sl) (b : Sl) {w : World} {R : List Value → World → Prop} (h : (towpathlaw08_txns a b).wp P (fun _ => True) w fun e vs w' => e = 0 ∧ R vs w') :
    Calls P F.towpathlaw08_txns #[.slice a.a a.len a.cap, .slice b.a b.len b.cap] w fun e w' => ∃ vs, e = .returned (pack vs) ∧ R vs w' :=
  decomp_sound (isFn_of Go.Proofs.Tryz.func25 (by kernel_rfl) (by kernel_rfl) (by kernel_rfl)) okFs_ok mix [.val (.slice a.a a.len a.cap), .val (.slice b.a b.len b.cap)] (by rw [towpathlaw08_txns_eq]; exact h)

def iso_View_Open (v : Option Addr) : Prog :=
.ite (Option.isNone v) (
.done 0 [.slice none 0 0]) (
.ex [.adr] (c1 fun a0 => v = some a0) (u1 fun a1 =>
.read True (ld T.m_int64_iso_life (Addr.add a1 1)) sM (u1 fun m2 =>
.act (Instr.range T.m_int64_iso_life (.map m2)) sA (u1 fun a3 =>
.bind 1 [.one .slc] (
.loop 2 [.one .slc] (⟨none, 0, 0⟩, ()) (u1 fun l4 =>
.next (Instr.next (.pointer (some a3)) false T.unit) ([.one (.int .i64), .agg [.int .i64, .int .i64, .int .i64, .int .i64]]) (u5 fun (n5 : Int) (n6 : Int) (n7 : Int) (n8 : Int) (n9 : Int) =>
.act (Instr.entry (.pointer (some a3))) (.tup [.one (.int .i64), .agg [.int .i64, .int .i64, .int .i64, .int .i64]]) (u5 fun (n10 : Int) (n11 : Int) (n12 : Int) (n13 : Int) (n14 : Int) =>
.act (new T.iso_life) sA (u1 fun a15 =>
.actU (st T.iso_life a15 (.agg #[.int .i64 n11, .int .i64 n12, .int .i64 n13, .int .i64 n14])) <|
.read True (ld T.iso_life a15) (sG [.int .i64, .int .i64, .int .i64, .int .i64]) (u4 fun (n16 : Int) (n17 : Int) (n18 : Int) (n19 : Int) =>
.call F.iso_life_told [.agg #[.int .i64 n16, .int .i64 n17, .int .i64 n18, .int .i64 n19]] (sG [.int .i64, .int .i64, .int .i64, .int .i64]) (u4 fun (n20 : Int) (n21 : Int) (n22 : Int) (n23 : Int) =>
.act (Instr.buildSlice T.s_iso_Txn 1 #[(0, .agg #[.int .i64 n20, .int .i64 n21, .int .i64 n22, .int .i64 n23])]) sL (u1 fun l24 =>
.act (app T.s_iso_Txn T.s_iso_Txn T.s_iso_Txn l4.v l24.v) sL (u1 fun l25 =>
.done 2 [l25.v]))))))) (
.done 1 [l4.v]))) (u1 fun l26 =>
.call F.slices_SortFunc_s_iso_Txn_iso_Txn [l26.v, .func (Fn.func 56) #[] #[]] (.tup []) (u0 <|
.done 0 [l26.v]))))))
theorem iso_View_Open_eq (v : Option Addr) : decomp P 25 ⟨okFs, [(13, [.one (.int .i64), .agg [.int .i64, .int .i64, .int .i64, .int .i64]]), (15, [.one (.int .i64), .agg [.int .i64, .int .i64, .int .i64, .int .i64]])]⟩ { cnd := [], blk := [(0, [(3, .one .slc)])], reg := [], lps := [(0, [(3, .one .slc)])] } [.tmp 2] (bodyOf Go.Proofs.Tryz.f26) [.val (.pointer v)] = iso_View_Open v := by kernel_rfl
theorem iso_View_Open_calls (v : Option Addr) {w : World} {R : List Value → World → Prop} (h : (iso_View_Open v).wp P (fun _ => True) w fun e vs w' => e = 0 ∧ R vs w') :
    Calls P F.iso_View_Open #[.pointer v] w fun e w' => ∃ vs, e = .returned (pack vs) ∧ R vs w' :=
  decomp_sound (isFn_of Go.Proofs.Tryz.func26 (by kernel_rfl) (by kernel_rfl) (by kernel_rfl)) okFs_ok mix [.val (.pointer v)] (by rw [iso_View_Open_eq]; exact h)

def iso_View_Fallen (v : Option Addr) : Prog :=
.ite (Option.isNone v) (
.done 0 [.slice none 0 0]) (
.ex [.adr] (c1 fun a0 => v = some a0) (u1 fun a1 =>
.read True (ld T.m_iso_key_iso_life (Addr.add a1 2)) sM (u1 fun m2 =>
.act (Instr.range T.m_iso_key_iso_life (.map m2)) sA (u1 fun a3 =>
.bind 1 [.one .slc] (
.loop 2 [.one .slc] (⟨none, 0, 0⟩, ()) (u1 fun l4 =>
.next (Instr.next (.pointer (some a3)) false T.unit) ([.agg [.int .i64, .int .i64], .agg [.int .i64, .int .i64, .int .i64, .int .i64]]) (u6 fun (n5 : Int) (n6 : Int) (n7 : Int) (n8 : Int) (n9 : Int) (n10 : Int) =>
.act (Instr.entry (.pointer (some a3))) (.tup [.agg [.int .i64, .int .i64], .agg [.int .i64, .int .i64, .int .i64, .int .i64]]) (u6 fun (n11 : Int) (n12 : Int) (n13 : Int) (n14 : Int) (n15 : Int) (n16 : Int) =>
.act (new T.iso_life) sA (u1 fun a17 =>
.actU (st T.iso_life a17 (.agg #[.int .i64 n13, .int .i64 n14, .int .i64 n15, .int .i64 n16])) <|
.read True (ld T.iso_life a17) (sG [.int .i64, .int .i64, .int .i64, .int .i64]) (u4 fun (n18 : Int) (n19 : Int) (n20 : Int) (n21 : Int) =>
.call F.iso_life_told [.agg #[.int .i64 n18, .int .i64 n19, .int .i64 n20, .int .i64 n21]] (sG [.int .i64, .int .i64, .int .i64, .int .i64]) (u4 fun (n22 : Int) (n23 : Int) (n24 : Int) (n25 : Int) =>
.act (Instr.buildSlice T.s_iso_Txn 1 #[(0, .agg #[.int .i64 n22, .int .i64 n23, .int .i64 n24, .int .i64 n25])]) sL (u1 fun l26 =>
.act (app T.s_iso_Txn T.s_iso_Txn T.s_iso_Txn l4.v l26.v) sL (u1 fun l27 =>
.done 2 [l27.v]))))))) (
.done 1 [l4.v]))) (u1 fun l28 =>
.call F.slices_SortFunc_s_iso_Txn_iso_Txn [l28.v, .func (Fn.func 58) #[] #[]] (.tup []) (u0 <|
.done 0 [l28.v]))))))
theorem iso_View_Fallen_eq (v : Option Addr) : decomp P 25 ⟨okFs, [(13, [.agg [.int .i64, .int .i64], .agg [.int .i64, .int .i64, .int .i64, .int .i64]]), (15, [.agg [.int .i64, .int .i64], .agg [.int .i64, .int .i64, .int .i64, .int .i64]])]⟩ { cnd := [], blk := [(0, [(3, .one .slc)])], reg := [], lps := [(0, [(3, .one .slc)])] } [.tmp 2] (bodyOf Go.Proofs.Tryz.f27) [.val (.pointer v)] = iso_View_Fallen v := by kernel_rfl
theorem iso_View_Fallen_calls (v : Option Addr) {w : World} {R : List Value → World → Prop} (h : (iso_View_Fallen v).wp P (fun _ => True) w fun e vs w' => e = 0 ∧ R vs w') :
    Calls P F.iso_View_Fallen #[.pointer v] w fun e w' => ∃ vs, e = .returned (pack vs) ∧ R vs w' :=
  decomp_sound (isFn_of Go.Proofs.Tryz.func27 (by kernel_rfl) (by kernel_rfl) (by kernel_rfl)) okFs_ok mix [.val (.pointer v)] (by rw [iso_View_Fallen_eq]; exact h)

def towpathlaw08_records (a : Sl) (b : Sl) : Prog :=
.ite (((a.len : Nat) : Int) != ((b.len : Nat) : Int)) (
.done 0 [.bool false]) (
.bind 1 [] (
.loop 2 [.one (.int .i64)] (0, ()) (u1 fun (n0 : Int) =>
.ite (decide (n0 < ((a.len : Nat) : Int))) (
.lt (.int .i64) (n0) fun (n1 : Int) =>
.tick <|
.ex [.adr] (c1 fun a2 => 0 ≤ n1 ∧ n1 < ((a.len : Nat) : Int) ∧ a.a = some a2) (u1 fun a3 =>
.read True (ld T.int64 (Addr.add (Addr.add a3 (Int.toNat n1 * 5)) 0)) (sI .i64) (u1 fun (n4 : Int) =>
.ex [.adr] (c1 fun a5 => 0 ≤ n1 ∧ n1 < ((b.len : Nat) : Int) ∧ b.a = some a5) (u1 fun a6 =>
.read True (ld T.int64 (Addr.add (Addr.add a6 (Int.toNat n1 * 5)) 0)) (sI .i64) (u1 fun (n7 : Int) =>
.ex [.adr] (c1 fun a8 => (n4 != n7) = false → 0 ≤ n1 ∧ n1 < ((a.len : Nat) : Int) ∧ a.a = some a8) (u1 fun a9 =>
.read ((n4 != n7) = false) (ld T.api_Record (Addr.add (Addr.add a9 (Int.toNat n1 * 5)) 1)) (sG [.str, .str, .bool, .int .i64]) (u4 fun s10 s11 b12 (n13 : Int) =>
.ex [.adr] (c1 fun a14 => (n4 != n7) = false → 0 ≤ n1 ∧ n1 < ((b.len : Nat) : Int) ∧ b.a = some a14) (u1 fun a15 =>
.read ((n4 != n7) = false) (ld T.api_Record (Addr.add (Addr.add a15 (Int.toNat n1 * 5)) 1)) (sG [.str, .str, .bool, .int .i64]) (u4 fun s16 s17 b18 (n19 : Int) =>
.untick <|
.ite (n4 != n7 || not (s10 == s16 && (s11 == s17 && (b12 == b18 && n13 == n19)))) (
.done 0 [.bool false]) (
.done 2 [.int .i64 (IntKind.wrap .i64 (n0 + 1))])))))))))) (
.done 1 []))) (u0 <|
.done 0 [.bool true]))
theorem towpathlaw08_records_eq (a : Sl) (b : Sl) : decomp P 41 ⟨okFs, []⟩ { cnd := [], blk := [(0, [])], reg := [], lps := [(0, [(13, .one (.int .i64))])] } [.tmp 4] (bodyOf Go.Proofs.Tryz.f29) [.val (.slice a.a a.len a.cap), .val (.slice b.a b.len b.cap)] = towpathlaw08_records a b := by kernel_rfl
theorem towpathlaw08_records_calls (a : Sl) (b : Sl) {w : World} {R : List Value → World → Prop} (h : (towpathlaw08_records a b).wp P (fun _ => True) w fun e vs w' => e = 0 ∧ R vs w') :
    Calls P F.towpathlaw08_records #[.slice a.a a.len a.cap, .slice b.a b.len b.cap] w fun e w' => ∃ vs, e = .returned (pack vs) ∧ R vs w' :=
  decomp_sound (isFn_of Go.Proofs.Tryz.func29 (by kernel_rfl) (by kernel_rfl) (by kernel_rfl)) okFs_ok mix [.val (.slice a.a a.len a.cap), .val (.slice b.a b.len b.cap)] (by rw [towpathlaw08_records_eq]; exact h)

def iso_View_Pick (v : Option Addr) (l : Sl) : Prog :=
.bind 1 [.one .slc] (
.loop 2 [.one .slc, .one (.int .i64)] (⟨none, 0, 0⟩, (0, ())) (u2 fun l0 (n1 : Int) =>
.ite (decide (n1 < ((l.len : Nat) : Int))) (
.ex [.adr] (c1 fun a2 => 0 ≤ n1 ∧ n1 < ((l.len : Nat) : Int) ∧ l.a = some a2) (u1 fun a3 =>
.read True (ld T.api_Batch (Addr.add a3 (Int.toNat n1 * 7))) (sG [.int .i64, .int .i64, .int .i64, .int .i64, .int .i64, .int .i64, .slc]) (u7 fun (n4 : Int) (n5 : Int) (n6 : Int) (n7 : Int) (n8 : Int) (n9 : Int) l10 =>
.act (new T.api_Batch) sA (u1 fun a11 =>
.actU (st T.api_Batch a11 (.agg #[.int .i64 n4, .int .i64 n5, .int .i64 n6, .int .i64 n7, .int .i64 n8, .int .i64 n9, l10.v])) <|
.read True (ld T.api_Batch a11) (sG [.int .i64, .int .i64, .int .i64, .int .i64, .int .i64, .int .i64, .slc]) (u7 fun (n12 : Int) (n13 : Int) (n14 : Int) (n15 : Int) (n16 : Int) (n17 : Int) l18 =>
.call F.iso_View_Fate [.pointer v, .agg #[.int .i64 n12, .int .i64 n13, .int .i64 n14, .int .i64 n15, .int .i64 n16, .int .i64 n17, l18.v]] (sI .i64) (u1 fun (n19 : Int) =>
.bind 3 [.one .slc] (
.ite (n19 == 1) (
.read True (ld T.api_Batch a11) (sG [.int .i64, .int .i64, .int .i64, .int .i64, .int .i64, .int .i64, .slc]) (u7 fun (n20 : Int) (n21 : Int) (n22 : Int) (n23 : Int) (n24 : Int) (n25 : Int) l26 =>
.act (Instr.buildSlice T.s_api_Batch 1 #[(0, .agg #[.int .i64 n20, .int .i64 n21, .int .i64 n22, .int .i64 n23, .int .i64 n24, .int .i64 n25, l26.v])]) sL (u1 fun l27 =>
.call F.rec_Flat [l27.v] sL (u1 fun l28 =>
.act (app T.s_rec_At T.s_rec_At T.s_rec_At l0.v l28.v) sL (u1 fun l29 =>
.done 3 [l29.v]))))) (
.done 3 [l0.v])) (u1 fun l30 =>
.done 2 [l30.v, .int .i64 (IntKind.wrap .i64 (n1 + 1))]))))))) (
.done 1 [l0.v]))) (u1 fun l31 =>
.done 0 [l31.v])
theorem iso_View_Pick_eq (v : Option Addr) (l : Sl) : decomp P 25 ⟨okFs, []⟩ { cnd := [(33286127633, [(5, .one .slc)])], blk := [(0, [(5, .one .slc)])], reg := [], lps := [(0, [(5, .one .slc), (10, .one (.int .i64))])] } [.tmp 4] (bodyOf Go.Proofs.Tryz.f30) [.val (.pointer v), .val (.slice l.a l.len l.cap)] = iso_View_Pick v l := by kernel_rfl
theorem iso_View_Pick_calls (v : Option Addr) (l : Sl) {w : World} {R : List Value → World → Prop} (h : (iso_View_Pick v l).wp P (fun _ => True) w fun e vs w' => e = 0 ∧ R vs w') :
    Calls P F.iso_View_Pick #[.pointer v, .slice l.a l.len l.cap] w fun e w' => ∃ vs, e = .returned (pack vs) ∧ R vs w' :=
  decomp_sound (isFn_of Go.Proofs.Tryz.func30 (by kernel_rfl) (by kernel_rfl) (by kernel_rfl)) okFs_ok mix [.val (.pointer v), .val (.slice l.a l.len l.cap)] (by rw [iso_View_Pick_eq]; exact h)

def towpathref08_View_Pick (v : Option Addr) (l : Sl) : Prog :=
.bind 1 [.one .slc] (
.loop 2 [.one .slc, .one (.int .i64)] (⟨none, 0, 0⟩, (0, ())) (u2 fun l0 (n1 : Int) =>
.ite (decide (n1 < ((l.len : Nat) : Int))) (
.ex [.adr] (c1 fun a2 => 0 ≤ n1 ∧ n1 < ((l.len : Nat) : Int) ∧ l.a = some a2) (u1 fun a3 =>
.read True (ld T.api_Batch (Addr.add a3 (Int.toNat n1 * 7))) (sG [.int .i64, .int .i64, .int .i64, .int .i64, .int .i64, .int .i64, .slc]) (u7 fun (n4 : Int) (n5 : Int) (n6 : Int) (n7 : Int) (n8 : Int) (n9 : Int) l10 =>
.act (new T.api_Batch) sA (u1 fun a11 =>
.actU (st T.api_Batch a11 (.agg #[.int .i64 n4, .int .i64 n5, .int .i64 n6, .int .i64 n7, .int .i64 n8, .int .i64 n9, l10.v])) <|
.read True (ld T.api_Batch a11) (sG [.int .i64, .int .i64, .int .i64, .int .i64, .int .i64, .int .i64, .slc]) (u7 fun (n12 : Int) (n13 : Int) (n14 : Int) (n15 : Int) (n16 : Int) (n17 : Int) l18 =>
.call F.towpathref08_View_Fate [.pointer v, .agg #[.int .i64 n12, .int .i64 n13, .int .i64 n14, .int .i64 n15, .int .i64 n16, .int .i64 n17, l18.v]] (sI .i64) (u1 fun (n19 : Int) =>
.bind 3 [.one .slc] (
.ite (n19 == 1) (
.read True (ld T.api_Batch a11) (sG [.int .i64, .int .i64, .int .i64, .int .i64, .int .i64, .int .i64, .slc]) (u7 fun (n20 : Int) (n21 : Int) (n22 : Int) (n23 : Int) (n24 : Int) (n25 : Int) l26 =>
.act (Instr.buildSlice T.s_api_Batch 1 #[(0, .agg #[.int .i64 n20, .int .i64 n21, .int .i64 n22, .int .i64 n23, .int .i64 n24, .int .i64 n25, l26.v])]) sL (u1 fun l27 =>
.call F.towpathref03_Flat [l27.v] sL (u1 fun l28 =>
.act (app T.s_towpathref03_At T.s_towpathref03_At T.s_towpathref03_At l0.v l28.v) sL (u1 fun l29 =>
.done 3 [l29.v]))))) (
.done 3 [l0.v])) (u1 fun l30 =>
.done 2 [l30.v, .int .i64 (IntKind.wrap .i64 (n1 + 1))]))))))) (
.done 1 [l0.v]))) (u1 fun l31 =>
.done 0 [l31.v])
theorem towpathref08_View_Pick_eq (v : Option Addr) (l : Sl) : decomp P 25 ⟨okFs, []⟩ { cnd := [(33286127633, [(5, .one .slc)])], blk := [(0, [(5, .one .slc)])], reg := [], lps := [(0, [(5, .one .slc), (10, .one (.int .i64))])] } [.tmp 4] (bodyOf Go.Proofs.Tryz.f31) [.val (.pointer v), .val (.slice l.a l.len l.cap)] = towpathref08_View_Pick v l := by kernel_rfl
theorem towpathref08_View_Pick_calls (v : Option Addr) (l : Sl) {w : World} {R : List Value → World → Prop} (h : (towpathref08_View_Pick v l).wp P (fun _ => True) w fun e vs w' => e = 0 ∧ R vs w') :
    Calls P F.towpathref08_View_Pick #[.pointer v, .slice l.a l.len l.cap] w fun e w' => ∃ vs, e = .returned (pack vs) ∧ R vs w' :=
  decomp_sound (isFn_of Go.Proofs.Tryz.func31 (by kernel_rfl) (by kernel_rfl) (by kernel_rfl)) okFs_ok mix [.val (.pointer v), .val (.slice l.a l.len l.cap)] (by rw [towpathref08_View_Pick_eq]; exact h)

def towpathlaw08_one (base : Int) (pid : Int) (kind : Int) : Prog :=
.act (new T.api_Batch) sA (u1 fun a0 =>
.act (Instr.buildSlice T.s_api_Record 1 #[(0, .agg #[.string (ByteArray.mk #[107]), .string (ByteArray.mk #[]), .bool false, .int .i64 0])]) sL (u1 fun l1 =>
.actU (st T.api_Batch a0 (.agg #[.int .i64 base, .int .i64 pid, .int .i64 0, .int .i64 0, .int .i64 kind, .int .i64 0, l1.v])) <|
.read True (ld T.api_Batch a0) (sG [.int .i64, .int .i64, .int .i64, .int .i64, .int .i64, .int .i64, .slc]) (u7 fun (n2 : Int) (n3 : Int) (n4 : Int) (n5 : Int) (n6 : Int) (n7 : Int) l8 =>
.done 0 [.agg #[.int .i64 n2, .int .i64 n3, .int .i64 n4, .int .i64 n5, .int .i64 n6, .int .i64 n7, l8.v]])))
theorem towpathlaw08_one_eq (base : Int) (pid : Int) (kind : Int) : decomp P 13 ⟨okFs, []⟩ { cnd := [], blk := [], reg := [], lps := [] } [.cell 6 33] (bodyOf Go.Proofs.Tryz.f32) [.val (.int .i64 base), .val (.int .i64 pid), .val (.int .i64 kind)] = towpathlaw08_one base pid kind := by kernel_rfl
theorem towpathlaw08_one_calls (base : Int) (pid : Int) (kind : Int) {w : World} {R : List Value → World → Prop} (h : (towpathlaw08_one base pid kind).wp P (fun _ => True) w fun e vs w' => e = 0 ∧ R vs w') :
    Calls P F.towpathlaw08_one #[.int .i64 base, .int .i64 pid, .int .i64 kind] w fun e w' => ∃ vs, e = .returned (pack vs) ∧ R vs w' :=
  decomp_sound (isFn_of Go.Proofs.Tryz.func32 (by kernel_rfl) (by kernel_rfl) (by kernel_rfl)) okFs_ok mix [.val (.int .i64 base), .val (.int .i64 pid), .val (.int .i64 kind)] (by rw [towpathlaw08_one_eq]; exact h)

def rec_Valid (b_0 : Int) (b_1 : Int) (b_2 : Int) (b_3 : Int) (b_4 : Int) (b_5 : Int) (b_6 : Sl) : Prog :=
.act (Instr.box T.api_Batch (.agg #[.int .i64 b_0, .int .i64 b_1, .int .i64 b_2, .int .i64 b_3, .int .i64 b_4, .int .i64 b_5, b_6.v])) sA (u1 fun a0 =>
.bind 1 [.one .bool] (
.read True (ld T.api_Batch a0) (sG [.int .i64, .int .i64, .int .i64, .int .i64, .int .i64, .int .i64, .slc]) (u7 fun (n1 : Int) (n2 : Int) (n3 : Int) (n4 : Int) (n5 : Int) (n6 : Int) l7 =>
.call F.rec_numbers [.agg #[.int .i64 n1, .int .i64 n2, .int .i64 n3, .int .i64 n4, .int .i64 n5, .int .i64 n6, l7.v]] sB (u1 fun b8 =>
.read (not b8 = false) (ld T.api_Batch a0) (sG [.int .i64, .int .i64, .int .i64, .int .i64, .int .i64, .int .i64, .slc]) (u7 fun (n9 : Int) (n10 : Int) (n11 : Int) (n12 : Int) (n13 : Int) (n14 : Int) l15 =>
.ite (not b8) (
.done 1 [.bool true]) (
.call F.rec_fits [.agg #[.int .i64 n9, .int .i64 n10, .int .i64 n11, .int .i64 n12, .int .i64 n13, .int .i64 n14, l15.v]] sB (u1 fun b16 =>
.lt (.bool) (not b16) fun b17 =>
.done 1 [.bool b17])))))) (u1 fun b18 =>
.ite (b18) (
.done 0 [.int .i64 2]) (
.read True (ld T.s_api_Record (Addr.add a0 6)) sL (u1 fun l19 =>
.lt (.bool) (decide (((l19.len : Nat) : Int) > 64)) fun b20 =>
.ite (b20) (
.done 0 [.int .i64 7]) (
.read True (ld T.s_api_Record (Addr.add a0 6)) sL (u1 fun l21 =>
.bind 1 [] (
.loop 2 [.one (.int .i64)] (0, ()) (u1 fun (n22 : Int) =>
.ite (decide (n22 < ((l21.len : Nat) : Int))) (
.ex [.adr] (c1 fun a23 => 0 ≤ n22 ∧ n22 < ((l21.len : Nat) : Int) ∧ l21.a = some a23) (u1 fun a24 =>
.read True (ld T.api_Record (Addr.add a24 (Int.toNat n22 * 4))) (sG [.str, .str, .bool, .int .i64]) (u4 fun s25 s26 b27 (n28 : Int) =>
.act (new T.api_Record) sA (u1 fun a29 =>
.actU (st T.api_Record a29 (.agg #[.string s25, .string s26, .bool b27, .int .i64 n28])) <|
.read True (ld T.api_Record a29) (sG [.str, .str, .bool, .int .i64]) (u4 fun s30 s31 b32 (n33 : Int) =>
.call F.rec_record [.agg #[.string s30, .string s31, .bool b32, .int .i64 n33]] (sI .i64) (u1 fun (n34 : Int) =>
.lt (.int .i64) (n34) fun (n35 : Int) =>
.ite (n35 != 0) (
.lt (.int .i64) (n35) fun (n36 : Int) =>
.done 0 [.int .i64 n36]) (
.done 2 [.int .i64 (IntKind.wrap .i64 (n22 + 1))]))))))) (
.done 1 []))) (u0 <|
.read True (ld T.api_Batch a0) (sG [.int .i64, .int .i64, .int .i64, .int .i64, .int .i64, .int .i64, .slc]) (u7 fun (n37 : Int) (n38 : Int) (n39 : Int) (n40 : Int) (n41 : Int) (n42 : Int) l43 =>
.call F.rec_Span [.agg #[.int .i64 n37, .int .i64 n38, .int .i64 n39, .int .i64 n40, .int .i64 n41, .int .i64 n42, l43.v]] (sI .i64) (u1 fun (n44 : Int) =>
.lt (.int .i64) (IntKind.wrap .i64 (n44 - 1)) fun (n45 : Int) =>
.bind 1 [.one .bool] (
.read True (ld T.int64 (Addr.add a0 0)) (sI .i64) (u1 fun (n46 : Int) =>
.read (decide (n46 > IntKind.wrap .i64 (1099511627776 - n45)) = false) (ld T.int64 (Addr.add a0 1)) (sI .i64) (u1 fun (n47 : Int) =>
.read (decide (n46 > IntKind.wrap .i64 (1099511627776 - n45)) = false ∧ decide (n47 > 0) = true) (ld T.api_Batch a0) (sG [.int .i64, .int .i64, .int .i64, .int .i64, .int .i64, .int .i64, .slc]) (u7 fun (n48 : Int) (n49 : Int) (n50 : Int) (n51 : Int) (n52 : Int) (n53 : Int) l54 =>
.ite (decide (n46 > IntKind.wrap .i64 (1099511627776 - n45))) (
.done 1 [.bool true]) (
.ite (decide (n47 > 0)) (
.call F.rec_mark [.agg #[.int .i64 n48, .int .i64 n49, .int .i64 n50, .int .i64 n51, .int .i64 n52, .int .i64 n53, l54.v]] sB (u1 fun b55 =>
.read (not b55 = true) (ld T.int (Addr.add a0 3)) (sI .i64) (u1 fun (n56 : Int) =>
.done 1 [.bool (not b55 && decide (n56 > IntKind.wrap .i64 (2147483647 - n45)))]))) (
.done 1 [.bool false])))))) (u1 fun b57 =>
.ite (b57) (
.done 0 [.int .i64 24]) (
.done 0 [.int .i64 0])))))))))))
theorem rec_Valid_eq (b_0 : Int) (b_1 : Int) (b_2 : Int) (b_3 : Int) (b_4 : Int) (b_5 : Int) (b_6 : Sl) : decomp P 59 ⟨okFs, []⟩ { cnd := [], blk := [(1, [])], reg := [(1, [(7, .one .bool)]), (13, [(58, .one .bool)])], lps := [(1, [(24, .one (.int .i64))])] } [.tmp 2] (bodyOf Go.Proofs.Tryz.f33) [.val (.agg #[.int .i64 b_0, .int .i64 b_1, .int .i64 b_2, .int .i64 b_3, .int .i64 b_4, .int .i64 b_5, .slice b_6.a b_6.len b_6.cap])] = rec_Valid b_0 b_1 b_2 b_3 b_4 b_5 b_6 := by kernel_rfl
theorem rec_Valid_calls (b_0 : Int) (b_1 : Int) (b_2 : Int) (b_3 : Int) (b_4 : Int) (b_5 : Int) (b_6 : Sl) {w : World} {R : List Value → World → Prop} (h : (rec_Valid b_0 b_1 b_2 b_3 b_4 b_5 b_6).wp P (fun _ => True) w fun e vs w' => e = 0 ∧ R vs w') :
    Calls P F.rec_Valid #[.agg #[.int .i64 b_0, .int .i64 b_1, .int .i64 b_2, .int .i64 b_3, .int .i64 b_4, .int .i64 b_5, .slice b_6.a b_6.len b_6.cap]] w fun e w' => ∃ vs, e = .returned (pack vs) ∧ R vs w' :=
  decomp_sound (isFn_of Go.Proofs.Tryz.func33 (by kernel_rfl) (by kernel_rfl) (by kernel_rfl)) okFs_ok mix [.val (.agg #[.int .i64 b_0, .int .i64 b_1, .int .i64 b_2, .int .i64 b_3, .int .i64 b_4, .int .i64 b_5, .slice b_6.a b_6.len b_6.cap])] (by rw [rec_Valid_eq]; exact h)

def iso_View_may (v : Option Addr) (b_0 : Int) (b_1 : Int) (b_2 : Int) (b_3 : Int) (b_4 : Int) (b_5 : Int) (b_6 : Sl) : Prog :=
.act (Instr.box T.api_Batch (.agg #[.int .i64 b_0, .int .i64 b_1, .int .i64 b_2, .int .i64 b_3, .int .i64 b_4, .int .i64 b_5, b_6.v])) sA (u1 fun a0 =>
.read True (ld T.int64 (Addr.add a0 1)) (sI .i64) (u1 fun (n1 : Int) =>
.read True (ld T.int (Addr.add a0 2)) (sI .i64) (u1 fun (n2 : Int) =>
.act (new T.iso_key) sA (u1 fun a3 =>
.actU (st T.iso_key a3 (.agg #[.int .i64 n1, .int .i64 n2])) <|
.bind 1 [.one .bool] (
.tick <|
.ex [.adr] (c1 fun a4 => v = some a4) (u1 fun a5 =>
.hold True (ld T.m_iso_key_iso_life (Addr.add a5 2)) sM (u1 fun m6 =>
.hold True (ld T.iso_key a3) (sG [.int .i64, .int .i64]) (u2 fun (n7 : Int) (n8 : Int) =>
.hold True (Instr.lookup T.m_iso_key_iso_life (.map m6) (.agg #[.int .i64 n7, .int .i64 n8]) true) (.tup [.agg [.int .i64, .int .i64, .int .i64, .int .i64], .one .bool]) (u5 fun (n9 : Int) (n10 : Int) (n11 : Int) (n12 : Int) b13 =>
.act (new T.iso_life) sA (u1 fun a14 =>
.untick <|
.actU (st T.iso_life a14 (.agg #[.int .i64 n9, .int .i64 n10, .int .i64 n11, .int .i64 n12])) <|
.lt (.bool) (b13) fun b15 =>
.untick <|
.done 1 [.bool b15])))))) (u1 fun b16 =>
.bind 1 [.one .adr, .one .bool] (
.tick <|
.ex [.adr] (c1 fun a17 => v = some a17) (u1 fun a18 =>
.hold True (ld T.m_int64_iso_life (Addr.add a18 1)) sM (u1 fun m19 =>
.hold True (ld T.int64 (Addr.add a0 1)) (sI .i64) (u1 fun (n20 : Int) =>
.hold True (Instr.lookup T.m_int64_iso_life (.map m19) (.int .i64 n20) true) (.tup [.agg [.int .i64, .int .i64, .int .i64, .int .i64], .one .bool]) (u5 fun (n21 : Int) (n22 : Int) (n23 : Int) (n24 : Int) b25 =>
.act (new T.iso_life) sA (u1 fun a26 =>
.untick <|
.actU (st T.iso_life a26 (.agg #[.int .i64 n21, .int .i64 n22, .int .i64 n23, .int .i64 n24])) <|
.lt (.bool) (b25) fun b27 =>
.untick <|
.done 1 [.pointer (some a26), .bool b27])))))) (u2 fun a28 b29 =>
.lt (.bool) (b16) fun b30 =>
.ite (b30) (
.done 0 [.int .i64 20]) (
.read (b29 = true) (ld T.iso_key (Addr.add a28 0)) (sG [.int .i64, .int .i64]) (u2 fun (n31 : Int) (n32 : Int) =>
.read (b29 = true) (ld T.iso_key a3) (sG [.int .i64, .int .i64]) (u2 fun (n33 : Int) (n34 : Int) =>
.lt (.bool) (b29 && not (n31 == n33 && n32 == n34)) fun b35 =>
.ite (b35) (
.done 0 [.int .i64 22]) (
.read True (ld T.int (Addr.add a0 4)) (sI .i64) (u1 fun (n36 : Int) =>
.ex [.adr] (c1 fun a37 => (n36 == 1 && not b29) = true → v = some a37) (u1 fun a38 =>
.read ((n36 == 1 && not b29) = true) (ld T.m_int64_iso_life (Addr.add a38 1)) sM (u1 fun m39 =>
.read ((n36 == 1 && not b29) = true) (Builtin.len_ #[T.m_int64_iso_life] T.int #[.map m39]) (sI .i64) (u1 fun (n40 : Int) =>
.lt (.bool) (n36 == 1 && not b29 && decide (n40 ≥ 1024)) fun b41 =>
.ite (b41) (
.done 0 [.int .i64 5]) (
.read True (ld T.int (Addr.add a0 4)) (sI .i64) (u1 fun (n42 : Int) =>
.ex [.adr] (c1 fun a43 => (n42 == 3 && b29) = true → v = some a43) (u1 fun a44 =>
.read ((n42 == 3 && b29) = true) (ld T.m_iso_key_iso_life (Addr.add a44 2)) sM (u1 fun m45 =>
.read ((n42 == 3 && b29) = true) (Builtin.len_ #[T.m_iso_key_iso_life] T.int #[.map m45]) (sI .i64) (u1 fun (n46 : Int) =>
.lt (.bool) (n42 == 3 && b29 && decide (n46 ≥ 4096)) fun b47 =>
.ite (b47) (
.done 0 [.int .i64 5]) (
.done 0 [.int .i64 0]))))))))))))))))))))
theorem iso_View_may_eq (v : Option Addr) (b_0 : Int) (b_1 : Int) (b_2 : Int) (b_3 : Int) (b_4 : Int) (b_5 : Int) (b_6 : Sl) : decomp P 75 ⟨okFs, []⟩ { cnd := [], blk := [], reg := [(2, [(7, .one .bool)]), (3, [(8, .one .adr), (9, .one .bool)])], lps := [] } [.tmp 4] (bodyOf Go.Proofs.Tryz.f34) [.val (.pointer v), .val (.agg #[.int .i64 b_0, .int .i64 b_1, .int .i64 b_2, .int .i64 b_3, .int .i64 b_4, .int .i64 b_5, .slice b_6.a b_6.len b_6.cap])] = iso_View_may v b_0 b_1 b_2 b_3 b_4 b_5 b_6 := by kernel_rfl
theorem iso_View_may_calls (v : Option Addr) (b_0 : Int) (b_1 : Int) (b_2 : Int) (b_3 : Int) (b_4 : Int) (b_5 : Int) (b_6 : Sl) {w : World} {R : List Value → World → Prop} (h : (iso_View_may v b_0 b_1 b_2 b_3 b_4 b_5 b_6).wp P (fun _ => True) w fun e vs w' => e = 0 ∧ R vs w') :
    Calls P F.iso_View_may #[.pointer v, .agg #[.int .i64 b_0, .int .i64 b_1, .int .i64 b_2, .int .i64 b_3, .int .i64 b_4, .int .i64 b_5, .slice b_6.a b_6.len b_6.cap]] w fun e w' => ∃ vs, e = .returned (pack vs) ∧ R vs w' :=
  decomp_sound (isFn_of Go.Proofs.Tryz.func34 (by kernel_rfl) (by kernel_rfl) (by kernel_rfl)) okFs_ok mix [.val (.pointer v), .val (.agg #[.int .i64 b_0, .int .i64 b_1, .int .i64 b_2, .int .i64 b_3, .int .i64 b_4, .int .i64 b_5, .slice b_6.a b_6.len b_6.cap])] (by rw [iso_View_may_eq]; exact h)

def rec_Next (b_0 : Int) (b_1 : Int) (b_2 : Int) (b_3 : Int) (b_4 : Int) (b_5 : Int) (b_6 : Sl) : Prog :=
.act (Instr.box T.api_Batch (.agg #[.int .i64 b_0, .int .i64 b_1, .int .i64 b_2, .int .i64 b_3, .int .i64 b_4, .int .i64 b_5, b_6.v])) sA (u1 fun a0 =>
.read True (ld T.api_Batch a0) (sG [.int .i64, .int .i64, .int .i64, .int .i64, .int .i64, .int .i64, .slc]) (u7 fun (n1 : Int) (n2 : Int) (n3 : Int) (n4 : Int) (n5 : Int) (n6 : Int) l7 =>
.call F.rec_Valid [.agg #[.int .i64 n1, .int .i64 n2, .int .i64 n3, .int .i64 n4, .int .i64 n5, .int .i64 n6, l7.v]] (sI .i64) (u1 fun (n8 : Int) =>
.ite (n8 != 0) (
.done 0 [.int .i64 0]) (
.tick <|
.hold True (ld T.int64 (Addr.add a0 0)) (sI .i64) (u1 fun (n9 : Int) =>
.read True (ld T.api_Batch a0) (sG [.int .i64, .int .i64, .int .i64, .int .i64, .int .i64, .int .i64, .slc]) (u7 fun (n10 : Int) (n11 : Int) (n12 : Int) (n13 : Int) (n14 : Int) (n15 : Int) l16 =>
.call F.rec_Span [.agg #[.int .i64 n10, .int .i64 n11, .int .i64 n12, .int .i64 n13, .int .i64 n14, .int .i64 n15, l16.v]] (sI .i64) (u1 fun (n17 : Int) =>
.lt (.int .i64) (IntKind.wrap .i64 (n9 + n17)) fun (n18 : Int) =>
.untick <|
.done 0 [.int .i64 n18])))))))
theorem rec_Next_eq (b_0 : Int) (b_1 : Int) (b_2 : Int) (b_3 : Int) (b_4 : Int) (b_5 : Int) (b_6 : Sl) : decomp P 11 ⟨okFs, []⟩ { cnd := [], blk := [], reg := [], lps := [] } [.tmp 2] (bodyOf Go.Proofs.Tryz.f35) [.val (.agg #[.int .i64 b_0, .int .i64 b_1, .int .i64 b_2, .int .i64 b_3, .int .i64 b_4, .int .i64 b_5, .slice b_6.a b_6.len b_6.cap])] = rec_Next b_0 b_1 b_2 b_3 b_4 b_5 b_6 := by kernel_rfl
theorem rec_Next_calls (b_0 : Int) (b_1 : Int) (b_2 : Int) (b_3 : Int) (b_4 : Int) (b_5 : Int) (b_6 : Sl) {w : World} {R : List Value → World → Prop} (h : (rec_Next b_0 b_1 b_2 b_3 b_4 b_5 b_6).wp P (fun _ => True) w fun e vs w' => e = 0 ∧ R vs w') :
    Calls P F.rec_Next #[.agg #[.int .i64 b_0, .int .i64 b_1, .int .i64 b_2, .int .i64 b_3, .int .i64 b_4, .int .i64 b_5, .slice b_6.a b_6.len b_6.cap]] w fun e w' => ∃ vs, e = .returned (pack vs) ∧ R vs w' :=
  decomp_sound (isFn_of Go.Proofs.Tryz.func35 (by kernel_rfl) (by kernel_rfl) (by kernel_rfl)) okFs_ok mix [.val (.agg #[.int .i64 b_0, .int .i64 b_1, .int .i64 b_2, .int .i64 b_3, .int .i64 b_4, .int .i64 b_5, .slice b_6.a b_6.len b_6.cap])] (by rw [rec_Next_eq]; exact h)

def iso_mark (b_0 : Int) (b_1 : Int) (b_2 : Int) (b_3 : Int) (b_4 : Int) (b_5 : Int) (b_6 : Sl) : Prog :=
.act (Instr.box T.api_Batch (.agg #[.int .i64 b_0, .int .i64 b_1, .int .i64 b_2, .int .i64 b_3, .int .i64 b_4, .int .i64 b_5, b_6.v])) sA (u1 fun a0 =>
.read True (ld T.int (Addr.add a0 4)) (sI .i64) (u1 fun (n1 : Int) =>
.read ((n1 == 2) = false) (ld T.int (Addr.add a0 4)) (sI .i64) (u1 fun (n2 : Int) =>
.lt (.bool) (n1 == 2 || n2 == 3) fun b3 =>
.done 0 [.bool b3])))
theorem iso_mark_eq (b_0 : Int) (b_1 : Int) (b_2 : Int) (b_3 : Int) (b_4 : Int) (b_5 : Int) (b_6 : Sl) : decomp P 11 ⟨okFs, []⟩ { cnd := [], blk := [], reg := [], lps := [] } [.tmp 2] (bodyOf Go.Proofs.Tryz.f36) [.val (.agg #[.int .i64 b_0, .int .i64 b_1, .int .i64 b_2, .int .i64 b_3, .int .i64 b_4, .int .i64 b_5, .slice b_6.a b_6.len b_6.cap])] = iso_mark b_0 b_1 b_2 b_3 b_4 b_5 b_6 := by kernel_rfl
theorem iso_mark_calls (b_0 : Int) (b_1 : Int) (b_2 : Int) (b_3 : Int) (b_4 : Int) (b_5 : Int) (b_6 : Sl) {w : World} {R : List Value → World → Prop} (h : (iso_mark b_0 b_1 b_2 b_3 b_4 b_5 b_6).wp P (fun _ => True) w fun e vs w' => e = 0 ∧ R vs w') :
    Calls P F.iso_mark #[.agg #[.int .i64 b_0, .int .i64 b_1, .int .i64 b_2, .int .i64 b_3, .int .i64 b_4, .int .i64 b_5, .slice b_6.a b_6.len b_6.cap]] w fun e w' => ∃ vs, e = .returned (pack vs) ∧ R vs w' :=
  decomp_sound (isFn_of Go.Proofs.Tryz.func36 (by kernel_rfl) (by kernel_rfl) (by kernel_rfl)) okFs_ok mix [.val (.agg #[.int .i64 b_0, .int .i64 b_1, .int .i64 b_2, .int .i64 b_3, .int .i64 b_4, .int .i64 b_5, .slice b_6.a b_6.len b_6.cap])] (by rw [iso_mark_eq]; exact h)

def towpathref03_Valid (b_0 : Int) (b_1 : Int) (b_2 : Int) (b_3 : Int) (b_4 : Int) (b_5 : Int) (b_6 : Sl) : Prog :=
.act (Instr.box T.api_Batch (.agg #[.int .i64 b_0, .int .i64 b_1, .int .i64 b_2, .int .i64 b_3, .int .i64 b_4, .int .i64 b_5, b_6.v])) sA (u1 fun a0 =>
.bind 1 [.one .bool] (
.read True (ld T.int (Addr.add a0 4)) (sI .i64) (u1 fun (n1 : Int) =>
.call F.towpathref03_out [.int .i64 n1, .int .i64 0, .int .i64 3] sB (u1 fun b2 =>
.read (b2 = false) (ld T.int64 (Addr.add a0 0)) (sI .i64) (u1 fun (n3 : Int) =>
.ite (b2) (
.done 1 [.bool true]) (
.call F.towpathref03_out [.int .i64 n3, .int .i64 0, .int .i64 1099511627776] sB (u1 fun b4 =>
.read (b4 = false) (ld T.int64 (Addr.add a0 1)) (sI .i64) (u1 fun (n5 : Int) =>
.ite (b4) (
.done 1 [.bool true]) (
.call F.towpathref03_out [.int .i64 n5, .int .i64 0, .int .i64 1048576] sB (u1 fun b6 =>
.read (b6 = false) (ld T.int (Addr.add a0 2)) (sI .i64) (u1 fun (n7 : Int) =>
.ite (b6) (
.done 1 [.bool true]) (
.call F.towpathref03_out [.int .i64 n7, .int .i64 0, .int .i64 32767] sB (u1 fun b8 =>
.read (b8 = false) (ld T.int (Addr.add a0 3)) (sI .i64) (u1 fun (n9 : Int) =>
.ite (b8) (
.done 1 [.bool true]) (
.call F.towpathref03_out [.int .i64 n9, .int .i64 0, .int .i64 2147483647] sB (u1 fun b10 =>
.read (b10 = false) (ld T.int64 (Addr.add a0 5)) (sI .i64) (u1 fun (n11 : Int) =>
.ite (b10) (
.done 1 [.bool true]) (
.call F.towpathref03_out [.int .i64 n11, .int .i64 0, .int .i64 1099511627776] sB (u1 fun b12 =>
.done 1 [.bool b12])))))))))))))))))) (u1 fun b13 =>
.ite (b13) (
.done 0 [.int .i64 2]) (
.read True (ld T.int64 (Addr.add a0 1)) (sI .i64) (u1 fun (n14 : Int) =>
.read ((n14 == 0) = true) (ld T.int (Addr.add a0 4)) (sI .i64) (u1 fun (n15 : Int) =>
.read ((n14 == 0) = true ∧ (n15 != 0) = false) (ld T.int (Addr.add a0 2)) (sI .i64) (u1 fun (n16 : Int) =>
.read ((n14 == 0) = true ∧ (n15 != 0 || n16 != 0) = false) (ld T.int (Addr.add a0 3)) (sI .i64) (u1 fun (n17 : Int) =>
.ite (n14 == 0 && (n15 != 0 || n16 != 0 || n17 != 0)) (
.done 0 [.int .i64 2]) (
.bind 1 [.one .bool] (
.tick <|
.read True (ld T.api_Batch a0) (sG [.int .i64, .int .i64, .int .i64, .int .i64, .int .i64, .int .i64, .slc]) (u7 fun (n18 : Int) (n19 : Int) (n20 : Int) (n21 : Int) (n22 : Int) (n23 : Int) l24 =>
.hold True (ld T.s_api_Record (Addr.add a0 6)) sL (u1 fun l25 =>
.call F.towpathref03_Mark [.agg #[.int .i64 n18, .int .i64 n19, .int .i64 n20, .int .i64 n21, .int .i64 n22, .int .i64 n23, l24.v]] sB (u1 fun b26 =>
.read (not (b26 == (((l25.len : Nat) : Int) == 0)) = false) (ld T.api_Batch a0) (sG [.int .i64, .int .i64, .int .i64, .int .i64, .int .i64, .int .i64, .slc]) (u7 fun (n27 : Int) (n28 : Int) (n29 : Int) (n30 : Int) (n31 : Int) (n32 : Int) l33 =>
.untick <|
.ite (not (b26 == (((l25.len : Nat) : Int) == 0))) (
.untick <|
.done 1 [.bool true]) (
.call F.towpathref03_Mark [.agg #[.int .i64 n27, .int .i64 n28, .int .i64 n29, .int .i64 n30, .int .i64 n31, .int .i64 n32, l33.v]] sB (u1 fun b34 =>
.read (b34 = true) (ld T.int (Addr.add a0 3)) (sI .i64) (u1 fun (n35 : Int) =>
.untick <|
.done 1 [.bool (b34 && n35 != 0)])))))))) (u1 fun b36 =>
.ite (b36) (
.done 0 [.int .i64 2]) (
.read True (ld T.s_api_Record (Addr.add a0 6)) sL (u1 fun l37 =>
.ite (decide (((l37.len : Nat) : Int) > 64)) (
.done 0 [.int .i64 7]) (
.read True (ld T.s_api_Record (Addr.add a0 6)) sL (u1 fun l38 =>
.bind 1 [] (
.loop 2 [.one (.int .i64)] (0, ()) (u1 fun (n39 : Int) =>
.ite (decide (n39 < ((l38.len : Nat) : Int))) (
.ex [.adr] (c1 fun a40 => 0 ≤ n39 ∧ n39 < ((l38.len : Nat) : Int) ∧ l38.a = some a40) (u1 fun a41 =>
.read True (ld T.api_Record (Addr.add a41 (Int.toNat n39 * 4))) (sG [.str, .str, .bool, .int .i64]) (u4 fun s42 s43 b44 (n45 : Int) =>
.act (new T.api_Record) sA (u1 fun a46 =>
.actU (st T.api_Record a46 (.agg #[.string s42, .string s43, .bool b44, .int .i64 n45])) <|
.read True (ld T.string (Addr.add a46 0)) sS (u1 fun s47 =>
.read (decide (((ByteArray.size s47 : Nat) : Int) > 1024) = false) (ld T.string (Addr.add a46 1)) sS (u1 fun s48 =>
.ite (decide (((ByteArray.size s47 : Nat) : Int) > 1024) || decide (((ByteArray.size s48 : Nat) : Int) > 1024)) (
.done 0 [.int .i64 7]) (
.read True (ld T.int64 (Addr.add a46 3)) (sI .i64) (u1 fun (n49 : Int) =>
.call F.towpathref03_out [.int .i64 n49, .int .i64 0, .int .i64 1099511627776] sB (u1 fun b50 =>
.read (b50 = false) (ld T.bool (Addr.add a46 2)) sB (u1 fun b51 =>
.read (b50 = false ∧ b51 = true) (ld T.string (Addr.add a46 1)) sS (u1 fun s52 =>
.ite (b50 || b51 && decide (((ByteArray.size s52 : Nat) : Int) > 0)) (
.done 0 [.int .i64 2]) (
.done 2 [.int .i64 (IntKind.wrap .i64 (n39 + 1))])))))))))))) (
.done 1 []))) (u0 <|
.tick <|
.hold True (ld T.int64 (Addr.add a0 0)) (sI .i64) (u1 fun (n53 : Int) =>
.read True (ld T.api_Batch a0) (sG [.int .i64, .int .i64, .int .i64, .int .i64, .int .i64, .int .i64, .slc]) (u7 fun (n54 : Int) (n55 : Int) (n56 : Int) (n57 : Int) (n58 : Int) (n59 : Int) l60 =>
.call F.towpathref03_Span [.agg #[.int .i64 n54, .int .i64 n55, .int .i64 n56, .int .i64 n57, .int .i64 n58, .int .i64 n59, l60.v]] (sI .i64) (u1 fun (n61 : Int) =>
.untick <|
.ite (decide (IntKind.wrap .i64 (IntKind.wrap .i64 (n53 + n61) - 1) > 1099511627776)) (
.done 0 [.int .i64 24]) (
.bind 1 [.one .bool] (
.read True (ld T.int64 (Addr.add a0 1)) (sI .i64) (u1 fun (n62 : Int) =>
.read (decide (n62 > 0) = true) (ld T.api_Batch a0) (sG [.int .i64, .int .i64, .int .i64, .int .i64, .int .i64, .int .i64, .slc]) (u7 fun (n63 : Int) (n64 : Int) (n65 : Int) (n66 : Int) (n67 : Int) (n68 : Int) l69 =>
.ite (decide (n62 > 0)) (
.call F.towpathref03_Mark [.agg #[.int .i64 n63, .int .i64 n64, .int .i64 n65, .int .i64 n66, .int .i64 n67, .int .i64 n68, l69.v]] sB (u1 fun b70 =>
.read (not b70 = true) (ld T.int (Addr.add a0 3)) (sI .i64) (u1 fun (n71 : Int) =>
.read (not b70 = true) (ld T.s_api_Record (Addr.add a0 6)) sL (u1 fun l72 =>
.done 1 [.bool (not b70 && decide (IntKind.wrap .i64 (IntKind.wrap .i64 (n71 + ((l72.len : Nat) : Int)) - 1) > 2147483647))])))) (
.done 1 [.bool false])))) (u1 fun b73 =>
.ite (b73) (
.done 0 [.int .i64 24]) (
.done 0 [.int .i64 0]))))))))))))))))))))
theorem towpathref03_Valid_eq (b_0 : Int) (b_1 : Int) (b_2 : Int) (b_3 : Int) (b_4 : Int) (b_5 : Int) (b_6 : Sl) : decomp P 127 ⟨okFs, []⟩ { cnd := [], blk := [(0, [])], reg := [(1, [(32, .one .bool)]), (5, [(66, .one .bool)]), (19, [(126, .one .bool)])], lps := [(0, [(74, .one (.int .i64))])] } [.tmp 2] (bodyOf Go.Proofs.Tryz.f37) [.val (.agg #[.int .i64 b_0, .int .i64 b_1, .int .i64 b_2, .int .i64 b_3, .int .i64 b_4, .int .i64 b_5, .slice b_6.a b_6.len b_6.cap])] = towpathref03_Valid b_0 b_1 b_2 b_3 b_4 b_5 b_6 := by kernel_rfl
theorem towpathref03_Valid_calls (b_0 : Int) (b_1 : Int) (b_2 : Int) (b_3 : Int) (b_4 : Int) (b_5 : Int) (b_6 : Sl) {w : World} {R : List Value → World → Prop} (h : (towpathref03_Valid b_0 b_1 b_2 b_3 b_4 b_5 b_6).wp P (fun _ => True) w fun e vs w' => e = 0 ∧ R vs w') :
    Calls P F.towpathref03_Valid #[.agg #[.int .i64 b_0, .int .i64 b_1, .int .i64 b_2, .int .i64 b_3, .int .i64 b_4, .int .i64 b_5, .slice b_6.a b_6.len b_6.cap]] w fun e w' => ∃ vs, e = .returned (pack vs) ∧ R vs w' :=
  decomp_sound (isFn_of Go.Proofs.Tryz.func37 (by kernel_rfl) (by kernel_rfl) (by kernel_rfl)) okFs_ok mix [.val (.agg #[.int .i64 b_0, .int .i64 b_1, .int .i64 b_2, .int .i64 b_3, .int .i64 b_4, .int .i64 b_5, .slice b_6.a b_6.len b_6.cap])] (by rw [towpathref03_Valid_eq]; exact h)

def towpathref08_of (l : Sl) (pid : Int) : Prog :=
.bind 1 [] (
.loop 2 [.one (.int .i64)] (0, ()) (u1 fun (n0 : Int) =>
.ite (decide (n0 < ((l.len : Nat) : Int))) (
.ex [.adr] (c1 fun a1 => 0 ≤ n0 ∧ n0 < ((l.len : Nat) : Int) ∧ l.a = some a1) (u1 fun a2 =>
.read True (ld T.towpathref08_Txn (Addr.add a2 (Int.toNat n0 * 4))) (sG [.int .i64, .int .i64, .int .i64, .int .i64]) (u4 fun (n3 : Int) (n4 : Int) (n5 : Int) (n6 : Int) =>
.act (new T.towpathref08_Txn) sA (u1 fun a7 =>
.lt (.int .i64) (n0) fun (n8 : Int) =>
.actU (st T.towpathref08_Txn a7 (.agg #[.int .i64 n3, .int .i64 n4, .int .i64 n5, .int .i64 n6])) <|
.read True (ld T.int64 (Addr.add a7 0)) (sI .i64) (u1 fun (n9 : Int) =>
.ite (n9 == pid) (
.lt (.int .i64) (n8) fun (n10 : Int) =>
.done 0 [.int .i64 n10]) (
.done 2 [.int .i64 (IntKind.wrap .i64 (n0 + 1))])))))) (
.done 1 []))) (u0 <|
.done 0 [.int .i64 (-1)])
theorem towpathref08_of_eq (l : Sl) (pid : Int) : decomp P 20 ⟨okFs, []⟩ { cnd := [], blk := [(0, [])], reg := [], lps := [(0, [(9, .one (.int .i64))])] } [.tmp 4] (bodyOf Go.Proofs.Tryz.f38) [.val (.slice l.a l.len l.cap), .val (.int .i64 pid)] = towpathref08_of l pid := by kernel_rfl
theorem towpathref08_of_calls (l : Sl) (pid : Int) {w : World} {R : List Value → World → Prop} (h : (towpathref08_of l pid).wp P (fun _ => True) w fun e vs w' => e = 0 ∧ R vs w') :
    Calls P F.towpathref08_of #[.slice l.a l.len l.cap, .int .i64 pid] w fun e w' => ∃ vs, e = .returned (pack vs) ∧ R vs w' :=
  decomp_sound (isFn_of Go.Proofs.Tryz.func38 (by kernel_rfl) (by kernel_rfl) (by kernel_rfl)) okFs_ok mix [.val (.slice l.a l.len l.cap), .val (.int .i64 pid)] (by rw [towpathref08_of_eq]; exact h)

def towpathref08_find (l : Sl) (pid : Int) (epoch : Int) : Prog :=
.bind 1 [] (
.loop 2 [.one (.int .i64)] (0, ()) (u1 fun (n0 : Int) =>
.ite (decide (n0 < ((l.len : Nat) : Int))) (
.ex [.adr] (c1 fun a1 => 0 ≤ n0 ∧ n0 < ((l.len : Nat) : Int) ∧ l.a = some a1) (u1 fun a2 =>
.read True (ld T.towpathref08_Txn (Addr.add a2 (Int.toNat n0 * 4))) (sG [.int .i64, .int .i64, .int .i64, .int .i64]) (u4 fun (n3 : Int) (n4 : Int) (n5 : Int) (n6 : Int) =>
.act (new T.towpathref08_Txn) sA (u1 fun a7 =>
.lt (.int .i64) (n0) fun (n8 : Int) =>
.actU (st T.towpathref08_Txn a7 (.agg #[.int .i64 n3, .int .i64 n4, .int .i64 n5, .int .i64 n6])) <|
.read True (ld T.int64 (Addr.add a7 0)) (sI .i64) (u1 fun (n9 : Int) =>
.read ((n9 == pid) = true) (ld T.int (Addr.add a7 1)) (sI .i64) (u1 fun (n10 : Int) =>
.ite (n9 == pid && n10 == epoch) (
.lt (.int .i64) (n8) fun (n11 : Int) =>
.done 0 [.int .i64 n11]) (
.done 2 [.int .i64 (IntKind.wrap .i64 (n0 + 1))]))))))) (
.done 1 []))) (u0 <|
.done 0 [.int .i64 (-1)])
theorem towpathref08_find_eq (l : Sl) (pid : Int) (epoch : Int) : decomp P 28 ⟨okFs, []⟩ { cnd := [], blk := [(0, [])], reg := [], lps := [(0, [(11, .one (.int .i64))])] } [.tmp 6] (bodyOf Go.Proofs.Tryz.f39) [.val (.slice l.a l.len l.cap), .val (.int .i64 pid), .val (.int .i64 epoch)] = towpathref08_find l pid epoch := by kernel_rfl
theorem towpathref08_find_calls (l : Sl) (pid : Int) (epoch : Int) {w : World} {R : List Value → World → Prop} (h : (towpathref08_find l pid epoch).wp P (fun _ => True) w fun e vs w' => e = 0 ∧ R vs w') :
    Calls P F.towpathref08_find #[.slice l.a l.len l.cap, .int .i64 pid, .int .i64 epoch] w fun e w' => ∃ vs, e = .returned (pack vs) ∧ R vs w' :=
  decomp_sound (isFn_of Go.Proofs.Tryz.func39 (by kernel_rfl) (by kernel_rfl) (by kernel_rfl)) okFs_ok mix [.val (.slice l.a l.len l.cap), .val (.int .i64 pid), .val (.int .i64 epoch)] (by rw [towpathref08_find_eq]; exact h)

def towpathref03_Span (b_0 : Int) (b_1 : Int) (b_2 : Int) (b_3 : Int) (b_4 : Int) (b_5 : Int) (b_6 : Sl) : Prog :=
.act (Instr.box T.api_Batch (.agg #[.int .i64 b_0, .int .i64 b_1, .int .i64 b_2, .int .i64 b_3, .int .i64 b_4, .int .i64 b_5, b_6.v])) sA (u1 fun a0 =>
.read True (ld T.api_Batch a0) (sG [.int .i64, .int .i64, .int .i64, .int .i64, .int .i64, .int .i64, .slc]) (u7 fun (n1 : Int) (n2 : Int) (n3 : Int) (n4 : Int) (n5 : Int) (n6 : Int) l7 =>
.call F.towpathref03_Mark [.agg #[.int .i64 n1, .int .i64 n2, .int .i64 n3, .int .i64 n4, .int .i64 n5, .int .i64 n6, l7.v]] sB (u1 fun b8 =>
.ite (b8) (
.done 0 [.int .i64 1]) (
.read True (ld T.s_api_Record (Addr.add a0 6)) sL (u1 fun l9 =>
.lt (.int .i64) (((l9.len : Nat) : Int)) fun (n10 : Int) =>
.done 0 [.int .i64 n10])))))
theorem towpathref03_Span_eq (b_0 : Int) (b_1 : Int) (b_2 : Int) (b_3 : Int) (b_4 : Int) (b_5 : Int) (b_6 : Sl) : decomp P 8 ⟨okFs, []⟩ { cnd := [], blk := [], reg := [], lps := [] } [.tmp 2] (bodyOf Go.Proofs.Tryz.f40) [.val (.agg #[.int .i64 b_0, .int .i64 b_1, .int .i64 b_2, .int .i64 b_3, .int .i64 b_4, .int .i64 b_5, .slice b_6.a b_6.len b_6.cap])] = towpathref03_Span b_0 b_1 b_2 b_3 b_4 b_5 b_6 := by kernel_rfl
theorem towpathref03_Span_calls (b_0 : Int) (b_1 : Int) (b_2 : Int) (b_3 : Int) (b_4 : Int) (b_5 : Int) (b_6 : Sl) {w : World} {R : List Value → World → Prop} (h : (towpathref03_Span b_0 b_1 b_2 b_3 b_4 b_5 b_6).wp P (fun _ => True) w fun e vs w' => e = 0 ∧ R vs w') :
    Calls P F.towpathref03_Span #[.agg #[.int .i64 b_0, .int .i64 b_1, .int .i64 b_2, .int .i64 b_3, .int .i64 b_4, .int .i64 b_5, .slice b_6.a b_6.len b_6.cap]] w fun e w' => ∃ vs, e = .returned (pack vs) ∧ R vs w' :=
  decomp_sound (isFn_of Go.Proofs.Tryz.func40 (by kernel_rfl) (by kernel_rfl) (by kernel_rfl)) okFs_ok mix [.val (.agg #[.int .i64 b_0, .int .i64 b_1, .int .i64 b_2, .int .i64 b_3, .int .i64 b_4, .int .i64 b_5, .slice b_6.a b_6.len b_6.cap])] (by rw [towpathref03_Span_eq]; exact h)

def towpathref03_Mark (b_0 : Int) (b_1 : Int) (b_2 : Int) (b_3 : Int) (b_4 : Int) (b_5 : Int) (b_6 : Sl) : Prog :=
.act (Instr.box T.api_Batch (.agg #[.int .i64 b_0, .int .i64 b_1, .int .i64 b_2, .int .i64 b_3, .int .i64 b_4, .int .i64 b_5, b_6.v])) sA (u1 fun a0 =>
.read True (ld T.int (Addr.add a0 4)) (sI .i64) (u1 fun (n1 : Int) =>
.read ((n1 == 2) = false) (ld T.int (Addr.add a0 4)) (sI .i64) (u1 fun (n2 : Int) =>
.lt (.bool) (n1 == 2 || n2 == 3) fun b3 =>
.done 0 [.bool b3])))
theorem towpathref03_Mark_eq (b_0 : Int) (b_1 : Int) (b_2 : Int) (b_3 : Int) (b_4 : Int) (b_5 : Int) (b_6 : Sl) : decomp P 11 ⟨okFs, []⟩ { cnd := [], blk := [], reg := [], lps := [] } [.tmp 2] (bodyOf Go.Proofs.Tryz.f41) [.val (.agg #[.int .i64 b_0, .int .i64 b_1, .int .i64 b_2, .int .i64 b_3, .int .i64 b_4, .int .i64 b_5, .slice b_6.a b_6.len b_6.cap])] = towpathref03_Mark b_0 b_1 b_2 b_3 b_4 b_5 b_6 := by kernel_rfl
theorem towpathref03_Mark_calls (b_0 : Int) (b_1 : Int) (b_2 : Int) (b_3 : Int) (b_4 : Int) (b_5 : Int) (b_6 : Sl) {w : World} {R : List Value → World → Prop} (h : (towpathref03_Mark b_0 b_1 b_2 b_3 b_4 b_5 b_6).wp P (fun _ => True) w fun e vs w' => e = 0 ∧ R vs w') :
    Calls P F.towpathref03_Mark #[.agg #[.int .i64 b_0, .int .i64 b_1, .int .i64 b_2, .int .i64 b_3, .int .i64 b_4, .int .i64 b_5, .slice b_6.a b_6.len b_6.cap]] w fun e w' => ∃ vs, e = .returned (pack vs) ∧ R vs w' :=
  decomp_sound (isFn_of Go.Proofs.Tryz.func41 (by kernel_rfl) (by kernel_rfl) (by kernel_rfl)) okFs_ok mix [.val (.agg #[.int .i64 b_0, .int .i64 b_1, .int .i64 b_2, .int .i64 b_3, .int .i64 b_4, .int .i64 b_5, .slice b_6.a b_6.len b_6.cap])] (by rw [towpathref03_Mark_eq]; exact h)

def maps_DeleteFunc_map_iso_key_iso_life_iso_key_iso_life (m : Option Nat) (del : Value) : Prog :=
.act (Instr.range T.m_iso_key_iso_life (.map m)) sA (u1 fun a0 =>
.bind 1 [] (
.loop 2 [] () (u0 <|
.next (Instr.next (.pointer (some a0)) false T.unit) ([.agg [.int .i64, .int .i64], .agg [.int .i64, .int .i64, .int .i64, .int .i64]]) (u6 fun (n1 : Int) (n2 : Int) (n3 : Int) (n4 : Int) (n5 : Int) (n6 : Int) =>
.act (Instr.entry (.pointer (some a0))) (.tup [.agg [.int .i64, .int .i64], .agg [.int .i64, .int .i64, .int .i64, .int .i64]]) (u6 fun (n7 : Int) (n8 : Int) (n9 : Int) (n10 : Int) (n11 : Int) (n12 : Int) =>
.act (new T.iso_key) sA (u1 fun a13 =>
.act (new T.iso_life) sA (u1 fun a14 =>
.actU (st T.iso_key a13 (.agg #[.int .i64 n7, .int .i64 n8])) <|
.actU (st T.iso_life a14 (.agg #[.int .i64 n9, .int .i64 n10, .int .i64 n11, .int .i64 n12])) <|
.read True (ld T.iso_key a13) (sG [.int .i64, .int .i64]) (u2 fun (n15 : Int) (n16 : Int) =>
.read True (ld T.iso_life a14) (sG [.int .i64, .int .i64, .int .i64, .int .i64]) (u4 fun (n17 : Int) (n18 : Int) (n19 : Int) (n20 : Int) =>
.callv (del) [.agg #[.int .i64 n15, .int .i64 n16], .agg #[.int .i64 n17, .int .i64 n18, .int .i64 n19, .int .i64 n20]] sB (u1 fun b21 =>
.bind 3 [] (
.ite (b21) (
.read True (ld T.iso_key a13) (sG [.int .i64, .int .i64]) (u2 fun (n22 : Int) (n23 : Int) =>
.act (Builtin.delete_ #[T.m_iso_key_iso_life, T.iso_key] T.unit #[.map m, .agg #[.int .i64 n22, .int .i64 n23]]) (.tup []) (u0 <|
.done 3 []))) (
.done 3 [])) (u0 <|
.done 2 [])))))))) (
.done 1 []))) (u0 <|
.done 0 []))
theorem maps_DeleteFunc_map_iso_key_iso_life_iso_key_iso_life_eq (m : Option Nat) (del : Value) : decomp P 19 ⟨okFs, [(8, [.agg [.int .i64, .int .i64], .agg [.int .i64, .int .i64, .int .i64, .int .i64]]), (10, [.agg [.int .i64, .int .i64], .agg [.int .i64, .int .i64, .int .i64, .int .i64]])]⟩ { cnd := [(1610612752, [])], blk := [(0, [])], reg := [], lps := [(0, [])] } [] (bodyOf Go.Proofs.Tryz.f42) [.val (.map m), .any del] = maps_DeleteFunc_map_iso_key_iso_life_iso_key_iso_life m del := by kernel_rfl
theorem maps_DeleteFunc_map_iso_key_iso_life_iso_key_iso_life_calls (m : Option Nat) (del : Value) {w : World} {R : List Value → World → Prop} (h : (maps_DeleteFunc_map_iso_key_iso_life_iso_key_iso_life m del).wp P (fun _ => True) w fun e vs w' => e = 0 ∧ R vs w') :
    Calls P F.maps_DeleteFunc_map_iso_key_iso_life_iso_key_iso_life #[.map m, del] w fun e w' => ∃ vs, e = .returned (pack vs) ∧ R vs w' :=
  decomp_sound (isFn_of Go.Proofs.Tryz.func42 (by kernel_rfl) (by kernel_rfl) (by kernel_rfl)) okFs_ok mix [.val (.map m), .any del] (by rw [maps_DeleteFunc_map_iso_key_iso_life_iso_key_iso_life_eq]; exact h)

def iso_View_Forget_1 (x0_0 : Int) (x0_1 : Int) (l_0 : Int) (l_1 : Int) (l_2 : Int) (l_3 : Int) (fv0 : Option Addr) : Prog :=
.act (Instr.box T.iso_key (.agg #[.int .i64 x0_0, .int .i64 x0_1])) sA (u1 fun a0 =>
.act (Instr.box T.iso_life (.agg #[.int .i64 l_0, .int .i64 l_1, .int .i64 l_2, .int .i64 l_3])) sA (u1 fun a1 =>
.read True (ld T.int64 (Addr.add a1 3)) (sI .i64) (u1 fun (n2 : Int) =>
.read True (Instr.loadAt T.int64 (.pointer fv0)) (sI .i64) (u1 fun (n3 : Int) =>
.lt (.bool) (decide (n2 < n3)) fun b4 =>
.done 0 [.bool b4]))))
theorem iso_View_Forget_1_eq (x0_0 : Int) (x0_1 : Int) (l_0 : Int) (l_1 : Int) (l_2 : Int) (l_3 : Int) (fv0 : Option Addr) : decomp P 10 ⟨okFs, []⟩ { cnd := [], blk := [], reg := [], lps := [] } [.tmp 5] (bodyOf Go.Proofs.Tryz.f43) [.val (.agg #[.int .i64 x0_0, .int .i64 x0_1]), .val (.agg #[.int .i64 l_0, .int .i64 l_1, .int .i64 l_2, .int .i64 l_3]), .val (.pointer fv0)] = iso_View_Forget_1 x0_0 x0_1 l_0 l_1 l_2 l_3 fv0 := by kernel_rfl
theorem iso_View_Forget_1_calls (x0_0 : Int) (x0_1 : Int) (l_0 : Int) (l_1 : Int) (l_2 : Int) (l_3 : Int) (fv0 : Option Addr) {w : World} {R : List Value → World → Prop} (h : (iso_View_Forget_1 x0_0 x0_1 l_0 l_1 l_2 l_3 fv0).wp P (fun _ => True) w fun e vs w' => e = 0 ∧ R vs w') :
    Calls P F.iso_View_Forget_1 #[.agg #[.int .i64 x0_0, .int .i64 x0_1], .agg #[.int .i64 l_0, .int .i64 l_1, .int .i64 l_2, .int .i64 l_3], .pointer fv0] w fun e w' => ∃ vs, e = .returned (pack vs) ∧ R vs w' :=
  decomp_sound (isFn_of Go.Proofs.Tryz.func43 (by kernel_rfl) (by kernel_rfl) (by kernel_rfl)) okFs_ok mix [.val (.agg #[.int .i64 x0_0, .int .i64 x0_1]), .val (.agg #[.int .i64 l_0, .int .i64 l_1, .int .i64 l_2, .int .i64 l_3]), .val (.pointer fv0)] (by rw [iso_View_Forget_1_eq]; exact h)

def iso_life_told (l_0 : Int) (l_1 : Int) (l_2 : Int) (l_3 : Int) : Prog :=
.act (Instr.box T.iso_life (.agg #[.int .i64 l_0, .int .i64 l_1, .int .i64 l_2, .int .i64 l_3])) sA (u1 fun a0 =>
.act (new T.iso_Txn) sA (u1 fun a1 =>
.read True (ld T.int64 (Addr.add (Addr.add a0 0) 0)) (sI .i64) (u1 fun (n2 : Int) =>
.read True (ld T.int (Addr.add (Addr.add a0 0) 1)) (sI .i64) (u1 fun (n3 : Int) =>
.read True (ld T.int64 (Addr.add a0 2)) (sI .i64) (u1 fun (n4 : Int) =>
.read True (ld T.int64 (Addr.add a0 3)) (sI .i64) (u1 fun (n5 : Int) =>
.actU (st T.iso_Txn a1 (.agg #[.int .i64 n2, .int .i64 n3, .int .i64 n4, .int .i64 n5])) <|
.read True (ld T.iso_Txn a1) (sG [.int .i64, .int .i64, .int .i64, .int .i64]) (u4 fun (n6 : Int) (n7 : Int) (n8 : Int) (n9 : Int) =>
.done 0 [.agg #[.int .i64 n6, .int .i64 n7, .int .i64 n8, .int .i64 n9]])))))))
theorem iso_life_told_eq (l_0 : Int) (l_1 : Int) (l_2 : Int) (l_3 : Int) : decomp P 14 ⟨okFs, []⟩ { cnd := [], blk := [], reg := [], lps := [] } [.cell 2 75] (bodyOf Go.Proofs.Tryz.f54) [.val (.agg #[.int .i64 l_0, .int .i64 l_1, .int .i64 l_2, .int .i64 l_3])] = iso_life_told l_0 l_1 l_2 l_3 := by kernel_rfl
theorem iso_life_told_calls (l_0 : Int) (l_1 : Int) (l_2 : Int) (l_3 : Int) {w : World} {R : List Value → World → Prop} (h : (iso_life_told l_0 l_1 l_2 l_3).wp P (fun _ => True) w fun e vs w' => e = 0 ∧ R vs w') :
    Calls P F.iso_life_told #[.agg #[.int .i64 l_0, .int .i64 l_1, .int .i64 l_2, .int .i64 l_3]] w fun e w' => ∃ vs, e = .returned (pack vs) ∧ R vs w' :=
  decomp_sound (isFn_of Go.Proofs.Tryz.func54 (by kernel_rfl) (by kernel_rfl) (by kernel_rfl)) okFs_ok mix [.val (.agg #[.int .i64 l_0, .int .i64 l_1, .int .i64 l_2, .int .i64 l_3])] (by rw [iso_life_told_eq]; exact h)

def slices_SortFunc_s_iso_Txn_iso_Txn (x : Sl) (cmp : Value) : Prog :=
.lt (.int .i64) (((x.len : Nat) : Int)) fun (n0 : Int) =>
.call F.math_bits_Len [.int .u64 (IntKind.wrap .u64 n0)] (sI .i64) (u1 fun (n1 : Int) =>
.call F.slices_pdqsortCmpFunc_iso_Txn [x.v, .int .i64 0, .int .i64 n0, .int .i64 n1, cmp] (.tup []) (u0 <|
.done 0 []))
theorem slices_SortFunc_s_iso_Txn_iso_Txn_eq (x : Sl) (cmp : Value) : decomp P 14 ⟨okFs, []⟩ { cnd := [], blk := [], reg := [], lps := [] } [] (bodyOf Go.Proofs.Tryz.f55) [.val (.slice x.a x.len x.cap), .any cmp] = slices_SortFunc_s_iso_Txn_iso_Txn x cmp := by kernel_rfl
theorem slices_SortFunc_s_iso_Txn_iso_Txn_calls (x : Sl) (cmp : Value) {w : World} {R : List Value → World → Prop} (h : (slices_SortFunc_s_iso_Txn_iso_Txn x cmp).wp P (fun _ => True) w fun e vs w' => e = 0 ∧ R vs w') :
    Calls P F.slices_SortFunc_s_iso_Txn_iso_Txn #[.slice x.a x.len x.cap, cmp] w fun e w' => ∃ vs, e = .returned (pack vs) ∧ R vs w' :=
  decomp_sound (isFn_of Go.Proofs.Tryz.func55 (by kernel_rfl) (by kernel_rfl) (by kernel_rfl)) okFs_ok mix [.val (.slice x.a x.len x.cap), .any cmp] (by rw [slices_SortFunc_s_iso_Txn_iso_Txn_eq]; exact h)

def iso_View_Open_1 (a_0 : Int) (a_1 : Int) (a_2 : Int) (a_3 : Int) (b_0 : Int) (b_1 : Int) (b_2 : Int) (b_3 : Int) : Prog :=
.act (Instr.box T.iso_Txn (.agg #[.int .i64 a_0, .int .i64 a_1, .int .i64 a_2, .int .i64 a_3])) sA (u1 fun a0 =>
.act (Instr.box T.iso_Txn (.agg #[.int .i64 b_0, .int .i64 b_1, .int .i64 b_2, .int .i64 b_3])) sA (u1 fun a1 =>
.read True (ld T.int64 (Addr.add a0 2)) (sI .i64) (u1 fun (n2 : Int) =>
.read True (ld T.int64 (Addr.add a1 2)) (sI .i64) (u1 fun (n3 : Int) =>
.call F.cmp_Compare_int64 [.int .i64 n2, .int .i64 n3] (sI .i64) (u1 fun (n4 : Int) =>
.lt (.int .i64) (n4) fun (n5 : Int) =>
.done 0 [.int .i64 n5])))))
theorem iso_View_Open_1_eq (a_0 : Int) (a_1 : Int) (a_2 : Int) (a_3 : Int) (b_0 : Int) (b_1 : Int) (b_2 : Int) (b_3 : Int) : decomp P 10 ⟨okFs, []⟩ { cnd := [], blk := [], reg := [], lps := [] } [.tmp 4] (bodyOf Go.Proofs.Tryz.f56) [.val (.agg #[.int .i64 a_0, .int .i64 a_1, .int .i64 a_2, .int .i64 a_3]), .val (.agg #[.int .i64 b_0, .int .i64 b_1, .int .i64 b_2, .int .i64 b_3])] = iso_View_Open_1 a_0 a_1 a_2 a_3 b_0 b_1 b_2 b_3 := by kernel_rfl
theorem iso_View_Open_1_calls (a_0 : Int) (a_1 : Int) (a_2 : Int) (a_3 : Int) (b_0 : Int) (b_1 : Int) (b_2 : Int) (b_3 : Int) {w : World} {R : List Value → World → Prop} (h : (iso_View_Open_1 a_0 a_1 a_2 a_3 b_0 b_1 b_2 b_3).wp P (fun _ => True) w fun e vs w' => e = 0 ∧ R vs w') :
    Calls P F.iso_View_Open_1 #[.agg #[.int .i64 a_0, .int .i64 a_1, .int .i64 a_2, .int .i64 a_3], .agg #[.int .i64 b_0, .int .i64 b_1, .int .i64 b_2, .int .i64 b_3]] w fun e w' => ∃ vs, e = .returned (pack vs) ∧ R vs w' :=
  decomp_sound (isFn_of Go.Proofs.Tryz.func56 (by kernel_rfl) (by kernel_rfl) (by kernel_rfl)) okFs_ok mix [.val (.agg #[.int .i64 a_0, .int .i64 a_1, .int .i64 a_2, .int .i64 a_3]), .val (.agg #[.int .i64 b_0, .int .i64 b_1, .int .i64 b_2, .int .i64 b_3])] (by rw [iso_View_Open_1_eq]; exact h)

def cmp_Compare_int64 (x : Int) (y : Int) : Prog :=
.call F.cmp_isNaN_int64 [.int .i64 x] sB (u1 fun b0 =>
.lt (.bool) (b0) fun b1 =>
.call F.cmp_isNaN_int64 [.int .i64 y] sB (u1 fun b2 =>
.lt (.bool) (b2) fun b3 =>
.ite (b1) (
.ite (b3) (
.done 0 [.int .i64 0]) (
.done 0 [.int .i64 (-1)])) (
.ite (b3) (
.done 0 [.int .i64 1]) (
.ite (decide (x < y)) (
.done 0 [.int .i64 (-1)]) (
.ite (decide (x > y)) (
.done 0 [.int .i64 1]) (
.done 0 [.int .i64 0]))))))
theorem cmp_Compare_int64_eq (x : Int) (y : Int) : decomp P 20 ⟨okFs, []⟩ { cnd := [], blk := [], reg := [], lps := [] } [.tmp 4] (bodyOf Go.Proofs.Tryz.f57) [.val (.int .i64 x), .val (.int .i64 y)] = cmp_Compare_int64 x y := by kernel_rfl
theorem cmp_Compare_int64_calls (x : Int) (y : Int) {w : World} {R : List Value → World → Prop} (h : (cmp_Compare_int64 x y).wp P (fun _ => True) w fun e vs w' => e = 0 ∧ R vs w') :
    Calls P F.cmp_Compare_int64 #[.int .i64 x, .int .i64 y] w fun e w' => ∃ vs, e = .returned (pack vs) ∧ R vs w' :=
  decomp_sound (isFn_of Go.Proofs.Tryz.func57 (by kernel_rfl) (by kernel_rfl) (by kernel_rfl)) okFs_ok mix [.val (.int .i64 x), .val (.int .i64 y)] (by rw [cmp_Compare_int64_eq]; exact h)

def iso_View_Fallen_1 (a_0 : Int) (a_1 : Int) (a_2 : Int) (a_3 : Int) (b_0 : Int) (b_1 : Int) (b_2 : Int) (b_3 : Int) : Prog :=
.act (Instr.box T.iso_Txn (.agg #[.int .i64 a_0, .int .i64 a_1, .int .i64 a_2, .int .i64 a_3])) sA (u1 fun a0 =>
.act (Instr.box T.iso_Txn (.agg #[.int .i64 b_0, .int .i64 b_1, .int .i64 b_2, .int .i64 b_3])) sA (u1 fun a1 =>
.read True (ld T.int64 (Addr.add a0 3)) (sI .i64) (u1 fun (n2 : Int) =>
.read True (ld T.int64 (Addr.add a1 3)) (sI .i64) (u1 fun (n3 : Int) =>
.call F.cmp_Compare_int64 [.int .i64 n2, .int .i64 n3] (sI .i64) (u1 fun (n4 : Int) =>
.lt (.int .i64) (n4) fun (n5 : Int) =>
.done 0 [.int .i64 n5])))))
theorem iso_View_Fallen_1_eq (a_0 : Int) (a_1 : Int) (a_2 : Int) (a_3 : Int) (b_0 : Int) (b_1 : Int) (b_2 : Int) (b_3 : Int) : decomp P 10 ⟨okFs, []⟩ { cnd := [], blk := [], reg := [], lps := [] } [.tmp 4] (bodyOf Go.Proofs.Tryz.f58) [.val (.agg #[.int .i64 a_0, .int .i64 a_1, .int .i64 a_2, .int .i64 a_3]), .val (.agg #[.int .i64 b_0, .int .i64 b_1, .int .i64 b_2, .int .i64 b_3])] = iso_View_Fallen_1 a_0 a_1 a_2 a_3 b_0 b_1 b_2 b_3 := by kernel_rfl
theorem iso_View_Fallen_1_calls (a_0 : Int) (a_1 : Int) (a_2 : Int) (a_3 : Int) (b_0 : Int) (b_1 : Int) (b_2 : Int) (b_3 : Int) {w : World} {R : List Value → World → Prop} (h : (iso_View_Fallen_1 a_0 a_1 a_2 a_3 b_0 b_1 b_2 b_3).wp P (fun _ => True) w fun e vs w' => e = 0 ∧ R vs w') :
    Calls P F.iso_View_Fallen_1 #[.agg #[.int .i64 a_0, .int .i64 a_1, .int .i64 a_2, .int .i64 a_3], .agg #[.int .i64 b_0, .int .i64 b_1, .int .i64 b_2, .int .i64 b_3]] w fun e w' => ∃ vs, e = .returned (pack vs) ∧ R vs w' :=
  decomp_sound (isFn_of Go.Proofs.Tryz.func58 (by kernel_rfl) (by kernel_rfl) (by kernel_rfl)) okFs_ok mix [.val (.agg #[.int .i64 a_0, .int .i64 a_1, .int .i64 a_2, .int .i64 a_3]), .val (.agg #[.int .i64 b_0, .int .i64 b_1, .int .i64 b_2, .int .i64 b_3])] (by rw [iso_View_Fallen_1_eq]; exact h)

def rec_Flat (l : Sl) : Prog :=
.bind 1 [.one .slc] (
.loop 2 [.one .slc, .one (.int .i64)] (⟨none, 0, 0⟩, (0, ())) (u2 fun l0 (n1 : Int) =>
.ite (decide (n1 < ((l.len : Nat) : Int))) (
.bind 3 [.one .slc] (
.ex [.adr] (c1 fun a2 => 0 ≤ n1 ∧ n1 < ((l.len : Nat) : Int) ∧ l.a = some a2) (u1 fun a3 =>
.read True (ld T.api_Batch (Addr.add a3 (Int.toNat n1 * 7))) (sG [.int .i64, .int .i64, .int .i64, .int .i64, .int .i64, .int .i64, .slc]) (u7 fun (n4 : Int) (n5 : Int) (n6 : Int) (n7 : Int) (n8 : Int) (n9 : Int) l10 =>
.act (new T.api_Batch) sA (u1 fun a11 =>
.actU (st T.api_Batch a11 (.agg #[.int .i64 n4, .int .i64 n5, .int .i64 n6, .int .i64 n7, .int .i64 n8, .int .i64 n9, l10.v])) <|
.read True (ld T.api_Batch a11) (sG [.int .i64, .int .i64, .int .i64, .int .i64, .int .i64, .int .i64, .slc]) (u7 fun (n12 : Int) (n13 : Int) (n14 : Int) (n15 : Int) (n16 : Int) (n17 : Int) l18 =>
.call F.rec_mark [.agg #[.int .i64 n12, .int .i64 n13, .int .i64 n14, .int .i64 n15, .int .i64 n16, .int .i64 n17, l18.v]] sB (u1 fun b19 =>
.ite (b19) (
.done 3 [l0.v]) (
.read True (ld T.s_api_Record (Addr.add a11 6)) sL (u1 fun l20 =>
.bind 4 [.one .slc] (
.loop 5 [.one .slc, .one (.int .i64)] ({ a := l0.a, len := l0.len, cap := l0.cap }, (0, ())) (u2 fun l21 (n22 : Int) =>
.ite (decide (n22 < ((l20.len : Nat) : Int))) (
.ex [.adr] (c1 fun a23 => 0 ≤ n22 ∧ n22 < ((l20.len : Nat) : Int) ∧ l20.a = some a23) (u1 fun a24 =>
.read True (ld T.api_Record (Addr.add a24 (Int.toNat n22 * 4))) (sG [.str, .str, .bool, .int .i64]) (u4 fun s25 s26 b27 (n28 : Int) =>
.act (new T.api_Record) sA (u1 fun a29 =>
.lt (.int .i64) (n22) fun (n30 : Int) =>
.actU (st T.api_Record a29 (.agg #[.string s25, .string s26, .bool b27, .int .i64 n28])) <|
.read True (ld T.int64 (Addr.add a11 0)) (sI .i64) (u1 fun (n31 : Int) =>
.read True (ld T.api_Record a29) (sG [.str, .str, .bool, .int .i64]) (u4 fun s32 s33 b34 (n35 : Int) =>
.act (Instr.buildSlice T.s_rec_At 1 #[(0, .agg #[.int .i64 (IntKind.wrap .i64 (n31 + n30)), .string s32, .string s33, .bool b34, .int .i64 n35])]) sL (u1 fun l36 =>
.act (app T.s_rec_At T.s_rec_At T.s_rec_At l21.v l36.v) sL (u1 fun l37 =>
.done 5 [l37.v, .int .i64 (IntKind.wrap .i64 (n22 + 1))])))))))) (
.done 4 [l21.v]))) (u1 fun l38 =>
.done 3 [l38.v]))))))))) (u1 fun l39 =>
.done 2 [l39.v, .int .i64 (IntKind.wrap .i64 (n1 + 1))])) (
.done 1 [l0.v]))) (u1 fun l40 =>
.done 0 [l40.v])
theorem rec_Flat_eq (l : Sl) : decomp P 36 ⟨okFs, []⟩ { cnd := [], blk := [(0, [(3, .one .slc)]), (1, [(3, .one .slc)]), (2, [(3, .one .slc)])], reg := [], lps := [(0, [(3, .one .slc), (10, .one (.int .i64))]), (2, [(3, .one .slc), (19, .one (.int .i64))])] } [.tmp 2] (bodyOf Go.Proofs.Tryz.f61) [.val (.slice l.a l.len l.cap)] = rec_Flat l := by kernel_rfl
theorem rec_Flat_calls (l : Sl) {w : World} {R : List Value → World → Prop} (h : (rec_Flat l).wp P (fun _ => True) w fun e vs w' => e = 0 ∧ R vs w') :
    Calls P F.rec_Flat #[.slice l.a l.len l.cap] w fun e w' => ∃ vs, e = .returned (pack vs) ∧ R vs w' :=
  decomp_sound (isFn_of Go.Proofs.Tryz.func61 (by kernel_rfl) (by kernel_rfl) (by kernel_rfl)) okFs_ok mix [.val (.slice l.a l.len l.cap)] (by rw [rec_Flat_eq]; exact h)

def towpathref03_Flat (l : Sl) : Prog :=
.bind 1 [.one .slc] (
.loop 2 [.one .slc, .one (.int .i64)] (⟨none, 0, 0⟩, (0, ())) (u2 fun l0 (n1 : Int) =>
.ite (decide (n1 < ((l.len : Nat) : Int))) (
.bind 3 [.one .slc] (
.ex [.adr] (c1 fun a2 => 0 ≤ n1 ∧ n1 < ((l.len : Nat) : Int) ∧ l.a = some a2) (u1 fun a3 =>
.read True (ld T.api_Batch (Addr.add a3 (Int.toNat n1 * 7))) (sG [.int .i64, .int .i64, .int .i64, .int .i64, .int .i64, .int .i64, .slc]) (u7 fun (n4 : Int) (n5 : Int) (n6 : Int) (n7 : Int) (n8 : Int) (n9 : Int) l10 =>
.act (new T.api_Batch) sA (u1 fun a11 =>
.actU (st T.api_Batch a11 (.agg #[.int .i64 n4, .int .i64 n5, .int .i64 n6, .int .i64 n7, .int .i64 n8, .int .i64 n9, l10.v])) <|
.read True (ld T.s_api_Record (Addr.add a11 6)) sL (u1 fun l12 =>
.bind 4 [.one .slc] (
.loop 5 [.one .slc, .one (.int .i64)] ({ a := l0.a, len := l0.len, cap := l0.cap }, (0, ())) (u2 fun l13 (n14 : Int) =>
.ite (decide (n14 < ((l12.len : Nat) : Int))) (
.ex [.adr] (c1 fun a15 => 0 ≤ n14 ∧ n14 < ((l12.len : Nat) : Int) ∧ l12.a = some a15) (u1 fun a16 =>
.read True (ld T.api_Record (Addr.add a16 (Int.toNat n14 * 4))) (sG [.str, .str, .bool, .int .i64]) (u4 fun s17 s18 b19 (n20 : Int) =>
.act (new T.api_Record) sA (u1 fun a21 =>
.lt (.int .i64) (n14) fun (n22 : Int) =>
.actU (st T.api_Record a21 (.agg #[.string s17, .string s18, .bool b19, .int .i64 n20])) <|
.read True (ld T.api_Batch a11) (sG [.int .i64, .int .i64, .int .i64, .int .i64, .int .i64, .int .i64, .slc]) (u7 fun (n23 : Int) (n24 : Int) (n25 : Int) (n26 : Int) (n27 : Int) (n28 : Int) l29 =>
.call F.towpathref03_Mark [.agg #[.int .i64 n23, .int .i64 n24, .int .i64 n25, .int .i64 n26, .int .i64 n27, .int .i64 n28, l29.v]] sB (u1 fun b30 =>
.bind 6 [.one .slc] (
.ite (not b30) (
.read True (ld T.int64 (Addr.add a11 0)) (sI .i64) (u1 fun (n31 : Int) =>
.read True (ld T.api_Record a21) (sG [.str, .str, .bool, .int .i64]) (u4 fun s32 s33 b34 (n35 : Int) =>
.act (Instr.buildSlice T.s_towpathref03_At 1 #[(0, .agg #[.int .i64 (IntKind.wrap .i64 (n31 + n22)), .string s32, .string s33, .bool b34, .int .i64 n35])]) sL (u1 fun l36 =>
.act (app T.s_towpathref03_At T.s_towpathref03_At T.s_towpathref03_At l13.v l36.v) sL (u1 fun l37 =>
.done 6 [l37.v]))))) (
.done 6 [l13.v])) (u1 fun l38 =>
.done 5 [l38.v, .int .i64 (IntKind.wrap .i64 (n14 + 1))]))))))) (
.done 4 [l13.v]))) (u1 fun l39 =>
.done 3 [l39.v])))))) (u1 fun l40 =>
.done 2 [l40.v, .int .i64 (IntKind.wrap .i64 (n1 + 1))])) (
.done 1 [l0.v]))) (u1 fun l41 =>
.done 0 [l41.v])
theorem towpathref03_Flat_eq (l : Sl) : decomp P 37 ⟨okFs, []⟩ { cnd := [(70231305256984, [(3, .one .slc)])], blk := [(0, [(3, .one .slc)]), (1, [(3, .one .slc)]), (2, [(3, .one .slc)])], reg := [], lps := [(0, [(3, .one .slc), (10, .one (.int .i64))]), (2, [(3, .one .slc), (17, .one (.int .i64))])] } [.tmp 2] (bodyOf Go.Proofs.Tryz.f62) [.val (.slice l.a l.len l.cap)] = towpathref03_Flat l := by kernel_rfl
theorem towpathref03_Flat_calls (l : Sl) {w : World} {R : List Value → World → Prop} (h : (towpathref03_Flat l).wp P (fun _ => True) w fun e vs w' => e = 0 ∧ R vs w') :
    Calls P F.towpathref03_Flat #[.slice l.a l.len l.cap] w fun e w' => ∃ vs, e = .returned (pack vs) ∧ R vs w' :=
  decomp_sound (isFn_of Go.Proofs.Tryz.func62 (by kernel_rfl) (by kernel_rfl) (by kernel_rfl)) okFs_ok mix [.val (.slice l.a l.len l.cap)] (by rw [towpathref03_Flat_eq]; exact h)

def rec_numbers (b_0 : Int) (b_1 : Int) (b_2 : Int) (b_3 : Int) (b_4 : Int) (b_5 : Int) (b_6 : Sl) : Prog :=
.act (Instr.box T.api_Batch (.agg #[.int .i64 b_0, .int .i64 b_1, .int .i64 b_2, .int .i64 b_3, .int .i64 b_4, .int .i64 b_5, b_6.v])) sA (u1 fun a0 =>
.bind 1 [.one .bool] (
.read True (ld T.int (Addr.add a0 4)) (sI .i64) (u1 fun (n1 : Int) =>
.read (decide (n1 ≥ 0) = true) (ld T.int (Addr.add a0 4)) (sI .i64) (u1 fun (n2 : Int) =>
.read ((decide (n1 ≥ 0) && decide (n2 ≤ 3)) = true) (ld T.int64 (Addr.add a0 0)) (sI .i64) (u1 fun (n3 : Int) =>
.ite (decide (n1 ≥ 0) && decide (n2 ≤ 3)) (
.call F.rec_within [.int .i64 n3, .int .i64 0, .int .i64 1099511627776] sB (u1 fun b4 =>
.read (b4 = true) (ld T.int64 (Addr.add a0 1)) (sI .i64) (u1 fun (n5 : Int) =>
.ite (b4) (
.call F.rec_within [.int .i64 n5, .int .i64 0, .int .i64 1048576] sB (u1 fun b6 =>
.read (b6 = true) (ld T.int (Addr.add a0 2)) (sI .i64) (u1 fun (n7 : Int) =>
.read ((b6 && decide (n7 ≥ 0)) = true) (ld T.int (Addr.add a0 2)) (sI .i64) (u1 fun (n8 : Int) =>
.read ((b6 && decide (n7 ≥ 0) && decide (n8 ≤ 32767)) = true) (ld T.int (Addr.add a0 3)) (sI .i64) (u1 fun (n9 : Int) =>
.read ((b6 && decide (n7 ≥ 0) && decide (n8 ≤ 32767) && decide (n9 ≥ 0)) = true) (ld T.int (Addr.add a0 3)) (sI .i64) (u1 fun (n10 : Int) =>
.read ((b6 && decide (n7 ≥ 0) && decide (n8 ≤ 32767) && decide (n9 ≥ 0) && decide (n10 ≤ 2147483647)) = true) (ld T.int64 (Addr.add a0 5)) (sI .i64) (u1 fun (n11 : Int) =>
.ite (b6 && decide (n7 ≥ 0) && decide (n8 ≤ 32767) && decide (n9 ≥ 0) && decide (n10 ≤ 2147483647)) (
.call F.rec_within [.int .i64 n11, .int .i64 0, .int .i64 1099511627776] sB (u1 fun b12 =>
.lt (.bool) (b12) fun b13 =>
.done 1 [.bool b13])) (
.done 1 [.bool false])))))))) (
.done 1 [.bool false])))) (
.done 1 [.bool false]))))) (u1 fun b14 =>
.done 0 [.bool b14]))
theorem rec_numbers_eq (b_0 : Int) (b_1 : Int) (b_2 : Int) (b_3 : Int) (b_4 : Int) (b_5 : Int) (b_6 : Sl) : decomp P 46 ⟨okFs, []⟩ { cnd := [], blk := [], reg := [(1, [(2, .one .bool)])], lps := [] } [.tmp 2] (bodyOf Go.Proofs.Tryz.f63) [.val (.agg #[.int .i64 b_0, .int .i64 b_1, .int .i64 b_2, .int .i64 b_3, .int .i64 b_4, .int .i64 b_5, .slice b_6.a b_6.len b_6.cap])] = rec_numbers b_0 b_1 b_2 b_3 b_4 b_5 b_6 := by kernel_rfl
theorem rec_numbers_calls (b_0 : Int) (b_1 : Int) (b_2 : Int) (b_3 : Int) (b_4 : Int) (b_5 : Int) (b_6 : Sl) {w : World} {R : List Value → World → Prop} (h : (rec_numbers b_0 b_1 b_2 b_3 b_4 b_5 b_6).wp P (fun _ => True) w fun e vs w' => e = 0 ∧ R vs w') :
    Calls P F.rec_numbers #[.agg #[.int .i64 b_0, .int .i64 b_1, .int .i64 b_2, .int .i64 b_3, .int .i64 b_4, .int .i64 b_5, .slice b_6.a b_6.len b_6.cap]] w fun e w' => ∃ vs, e = .returned (pack vs) ∧ R vs w' :=
  decomp_sound (isFn_of Go.Proofs.Tryz.func63 (by kernel_rfl) (by kernel_rfl) (by kernel_rfl)) okFs_ok mix [.val (.agg #[.int .i64 b_0, .int .i64 b_1, .int .i64 b_2, .int .i64 b_3, .int .i64 b_4, .int .i64 b_5, .slice b_6.a b_6.len b_6.cap])] (by rw [rec_numbers_eq]; exact h)

def rec_fits (b_0 : Int) (b_1 : Int) (b_2 : Int) (b_3 : Int) (b_4 : Int) (b_5 : Int) (b_6 : Sl) : Prog :=
.act (Instr.box T.api_Batch (.agg #[.int .i64 b_0, .int .i64 b_1, .int .i64 b_2, .int .i64 b_3, .int .i64 b_4, .int .i64 b_5, b_6.v])) sA (u1 fun a0 =>
.read True (ld T.int64 (Addr.add a0 1)) (sI .i64) (u1 fun (n1 : Int) =>
.read ((n1 == 0) = true) (ld T.int (Addr.add a0 4)) (sI .i64) (u1 fun (n2 : Int) =>
.read ((n1 == 0) = true ∧ (n2 != 0) = false) (ld T.int (Addr.add a0 2)) (sI .i64) (u1 fun (n3 : Int) =>
.read ((n1 == 0) = true ∧ (n2 != 0 || n3 != 0) = false) (ld T.int (Addr.add a0 3)) (sI .i64) (u1 fun (n4 : Int) =>
.ite (n1 == 0 && (n2 != 0 || n3 != 0 || n4 != 0)) (
.done 0 [.bool false]) (
.read True (ld T.api_Batch a0) (sG [.int .i64, .int .i64, .int .i64, .int .i64, .int .i64, .int .i64, .slc]) (u7 fun (n5 : Int) (n6 : Int) (n7 : Int) (n8 : Int) (n9 : Int) (n10 : Int) l11 =>
.call F.rec_mark [.agg #[.int .i64 n5, .int .i64 n6, .int .i64 n7, .int .i64 n8, .int .i64 n9, .int .i64 n10, l11.v]] sB (u1 fun b12 =>
.ite (b12) (
.read True (ld T.int (Addr.add a0 3)) (sI .i64) (u1 fun (n13 : Int) =>
.read ((n13 == 0) = true) (ld T.s_api_Record (Addr.add a0 6)) sL (u1 fun l14 =>
.lt (.bool) (n13 == 0 && ((l14.len : Nat) : Int) == 0) fun b15 =>
.done 0 [.bool b15]))) (
.read True (ld T.s_api_Record (Addr.add a0 6)) sL (u1 fun l16 =>
.lt (.bool) (decide (((l16.len : Nat) : Int) > 0)) fun b17 =>
.done 0 [.bool b17]))))))))))
theorem rec_fits_eq (b_0 : Int) (b_1 : Int) (b_2 : Int) (b_3 : Int) (b_4 : Int) (b_5 : Int) (b_6 : Sl) : decomp P 36 ⟨okFs, []⟩ { cnd := [], blk := [], reg := [], lps := [] } [.tmp 2] (bodyOf Go.Proofs.Tryz.f64) [.val (.agg #[.int .i64 b_0, .int .i64 b_1, .int .i64 b_2, .int .i64 b_3, .int .i64 b_4, .int .i64 b_5, .slice b_6.a b_6.len b_6.cap])] = rec_fits b_0 b_1 b_2 b_3 b_4 b_5 b_6 := by kernel_rfl
theorem rec_fits_calls (b_0 : Int) (b_1 : Int) (b_2 : Int) (b_3 : Int) (b_4 : Int) (b_5 : Int) (b_6 : Sl) {w : World} {R : List Value → World → Prop} (h : (rec_fits b_0 b_1 b_2 b_3 b_4 b_5 b_6).wp P (fun _ => True) w fun e vs w' => e = 0 ∧ R vs w') :
    Calls P F.rec_fits #[.agg #[.int .i64 b_0, .int .i64 b_1, .int .i64 b_2, .int .i64 b_3, .int .i64 b_4, .int .i64 b_5, .slice b_6.a b_6.len b_6.cap]] w fun e w' => ∃ vs, e = .returned (pack vs) ∧ R vs w' :=
  decomp_sound (isFn_of Go.Proofs.Tryz.func64 (by kernel_rfl) (by kernel_rfl) (by kernel_rfl)) okFs_ok mix [.val (.agg #[.int .i64 b_0, .int .i64 b_1, .int .i64 b_2, .int .i64 b_3, .int .i64 b_4, .int .i64 b_5, .slice b_6.a b_6.len b_6.cap])] (by rw [rec_fits_eq]; exact h)

def rec_record (r_0 : ByteArray) (r_1 : ByteArray) (r_2 : Bool) (r_3 : Int) : Prog :=
.act (Instr.box T.api_Record (.agg #[.string r_0, .string r_1, .bool r_2, .int .i64 r_3])) sA (u1 fun a0 =>
.read True (ld T.string (Addr.add a0 0)) sS (u1 fun s1 =>
.read (decide (((ByteArray.size s1 : Nat) : Int) > 1024) = false) (ld T.string (Addr.add a0 1)) sS (u1 fun s2 =>
.lt (.bool) (decide (((ByteArray.size s1 : Nat) : Int) > 1024) || decide (((ByteArray.size s2 : Nat) : Int) > 1024)) fun b3 =>
.ite (b3) (
.done 0 [.int .i64 7]) (
.read True (ld T.int64 (Addr.add a0 3)) (sI .i64) (u1 fun (n4 : Int) =>
.call F.rec_within [.int .i64 n4, .int .i64 0, .int .i64 1099511627776] sB (u1 fun b5 =>
.read (not b5 = false) (ld T.bool (Addr.add a0 2)) sB (u1 fun b6 =>
.read (not b5 = false ∧ b6 = true) (ld T.string (Addr.add a0 1)) sS (u1 fun s7 =>
.lt (.bool) (not b5 || b6 && not (ByteArray.toList s7 == ByteArray.toList (ByteArray.mk #[]))) fun b8 =>
.ite (b8) (
.done 0 [.int .i64 2]) (
.done 0 [.int .i64 0])))))))))
theorem rec_record_eq (r_0 : ByteArray) (r_1 : ByteArray) (r_2 : Bool) (r_3 : Int) : decomp P 28 ⟨okFs, []⟩ { cnd := [], blk := [], reg := [], lps := [] } [.tmp 2] (bodyOf Go.Proofs.Tryz.f65) [.val (.agg #[.string r_0, .string r_1, .bool r_2, .int .i64 r_3])] = rec_record r_0 r_1 r_2 r_3 := by kernel_rfl
theorem rec_record_calls (r_0 : ByteArray) (r_1 : ByteArray) (r_2 : Bool) (r_3 : Int) {w : World} {R : List Value → World → Prop} (h : (rec_record r_0 r_1 r_2 r_3).wp P (fun _ => True) w fun e vs w' => e = 0 ∧ R vs w') :
    Calls P F.rec_record #[.agg #[.string r_0, .string r_1, .bool r_2, .int .i64 r_3]] w fun e w' => ∃ vs, e = .returned (pack vs) ∧ R vs w' :=
  decomp_sound (isFn_of Go.Proofs.Tryz.func65 (by kernel_rfl) (by kernel_rfl) (by kernel_rfl)) okFs_ok mix [.val (.agg #[.string r_0, .string r_1, .bool r_2, .int .i64 r_3])] (by rw [rec_record_eq]; exact h)

def rec_Span (b_0 : Int) (b_1 : Int) (b_2 : Int) (b_3 : Int) (b_4 : Int) (b_5 : Int) (b_6 : Sl) : Prog :=
.act (Instr.box T.api_Batch (.agg #[.int .i64 b_0, .int .i64 b_1, .int .i64 b_2, .int .i64 b_3, .int .i64 b_4, .int .i64 b_5, b_6.v])) sA (u1 fun a0 =>
.read True (ld T.api_Batch a0) (sG [.int .i64, .int .i64, .int .i64, .int .i64, .int .i64, .int .i64, .slc]) (u7 fun (n1 : Int) (n2 : Int) (n3 : Int) (n4 : Int) (n5 : Int) (n6 : Int) l7 =>
.call F.rec_mark [.agg #[.int .i64 n1, .int .i64 n2, .int .i64 n3, .int .i64 n4, .int .i64 n5, .int .i64 n6, l7.v]] sB (u1 fun b8 =>
.ite (b8) (
.done 0 [.int .i64 1]) (
.read True (ld T.s_api_Record (Addr.add a0 6)) sL (u1 fun l9 =>
.lt (.int .i64) (((l9.len : Nat) : Int)) fun (n10 : Int) =>
.done 0 [.int .i64 n10])))))
theorem rec_Span_eq (b_0 : Int) (b_1 : Int) (b_2 : Int) (b_3 : Int) (b_4 : Int) (b_5 : Int) (b_6 : Sl) : decomp P 8 ⟨okFs, []⟩ { cnd := [], blk := [], reg := [], lps := [] } [.tmp 2] (bodyOf Go.Proofs.Tryz.f66) [.val (.agg #[.int .i64 b_0, .int .i64 b_1, .int .i64 b_2, .int .i64 b_3, .int .i64 b_4, .int .i64 b_5, .slice b_6.a b_6.len b_6.cap])] = rec_Span b_0 b_1 b_2 b_3 b_4 b_5 b_6 := by kernel_rfl
theorem rec_Span_calls (b_0 : Int) (b_1 : Int) (b_2 : Int) (b_3 : Int) (b_4 : Int) (b_5 : Int) (b_6 : Sl) {w : World} {R : List Value → World → Prop} (h : (rec_Span b_0 b_1 b_2 b_3 b_4 b_5 b_6).wp P (fun _ => True) w fun e vs w' => e = 0 ∧ R vs w') :
    Calls P F.rec_Span #[.agg #[.int .i64 b_0, .int .i64 b_1, .int .i64 b_2, .int .i64 b_3, .int .i64 b_4, .int .i64 b_5, .slice b_6.a b_6.len b_6.cap]] w fun e w' => ∃ vs, e = .returned (pack vs) ∧ R vs w' :=
  decomp_sound (isFn_of Go.Proofs.Tryz.func66 (by kernel_rfl) (by kernel_rfl) (by kernel_rfl)) okFs_ok mix [.val (.agg #[.int .i64 b_0, .int .i64 b_1, .int .i64 b_2, .int .i64 b_3, .int .i64 b_4, .int .i64 b_5, .slice b_6.a b_6.len b_6.cap])] (by rw [rec_Span_eq]; exact h)

def rec_mark (b_0 : Int) (b_1 : Int) (b_2 : Int) (b_3 : Int) (b_4 : Int) (b_5 : Int) (b_6 : Sl) : Prog :=
.act (Instr.box T.api_Batch (.agg #[.int .i64 b_0, .int .i64 b_1, .int .i64 b_2, .int .i64 b_3, .int .i64 b_4, .int .i64 b_5, b_6.v])) sA (u1 fun a0 =>
.read True (ld T.int (Addr.add a0 4)) (sI .i64) (u1 fun (n1 : Int) =>
.read ((n1 == 2) = false) (ld T.int (Addr.add a0 4)) (sI .i64) (u1 fun (n2 : Int) =>
.lt (.bool) (n1 == 2 || n2 == 3) fun b3 =>
.done 0 [.bool b3])))
theorem rec_mark_eq (b_0 : Int) (b_1 : Int) (b_2 : Int) (b_3 : Int) (b_4 : Int) (b_5 : Int) (b_6 : Sl) : decomp P 11 ⟨okFs, []⟩ { cnd := [], blk := [], reg := [], lps := [] } [.tmp 2] (bodyOf Go.Proofs.Tryz.f67) [.val (.agg #[.int .i64 b_0, .int .i64 b_1, .int .i64 b_2, .int .i64 b_3, .int .i64 b_4, .int .i64 b_5, .slice b_6.a b_6.len b_6.cap])] = rec_mark b_0 b_1 b_2 b_3 b_4 b_5 b_6 := by kernel_rfl
theorem rec_mark_calls (b_0 : Int) (b_1 : Int) (b_2 : Int) (b_3 : Int) (b_4 : Int) (b_5 : Int) (b_6 : Sl) {w : World} {R : List Value → World → Prop} (h : (rec_mark b_0 b_1 b_2 b_3 b_4 b_5 b_6).wp P (fun _ => True) w fun e vs w' => e = 0 ∧ R vs w') :
    Calls P F.rec_mark #[.agg #[.int .i64 b_0, .int .i64 b_1, .int .i64 b_2, .int .i64 b_3, .int .i64 b_4, .int .i64 b_5, .slice b_6.a b_6.len b_6.cap]] w fun e w' => ∃ vs, e = .returned (pack vs) ∧ R vs w' :=
  decomp_sound (isFn_of Go.Proofs.Tryz.func67 (by kernel_rfl) (by kernel_rfl) (by kernel_rfl)) okFs_ok mix [.val (.agg #[.int .i64 b_0, .int .i64 b_1, .int .i64 b_2, .int .i64 b_3, .int .i64 b_4, .int .i64 b_5, .slice b_6.a b_6.len b_6.cap])] (by rw [rec_mark_eq]; exact h)

def towpathref03_out (n : Int) (lo : Int) (hi : Int) : Prog :=
.lt (.bool) (decide (n < lo) || decide (n > hi)) fun b0 =>
.done 0 [.bool b0]
theorem towpathref03_out_eq (n : Int) (lo : Int) (hi : Int) : decomp P 15 ⟨okFs, []⟩ { cnd := [], blk := [], reg := [], lps := [] } [.tmp 6] (bodyOf Go.Proofs.Tryz.f68) [.val (.int .i64 n), .val (.int .i64 lo), .val (.int .i64 hi)] = towpathref03_out n lo hi := by kernel_rfl
theorem towpathref03_out_calls (n : Int) (lo : Int) (hi : Int) {w : World} {R : List Value → World → Prop} (h : (towpathref03_out n lo hi).wp P (fun _ => True) w fun e vs w' => e = 0 ∧ R vs w') :
    Calls P F.towpathref03_out #[.int .i64 n, .int .i64 lo, .int .i64 hi] w fun e w' => ∃ vs, e = .returned (pack vs) ∧ R vs w' :=
  decomp_sound (isFn_of Go.Proofs.Tryz.func68 (by kernel_rfl) (by kernel_rfl) (by kernel_rfl)) okFs_ok mix [.val (.int .i64 n), .val (.int .i64 lo), .val (.int .i64 hi)] (by rw [towpathref03_out_eq]; exact h)

def slices_pdqsortCmpFunc_iso_Txn (data : Sl) (a : Int) (b : Int) (limit : Int) (cmp : Value) : Prog :=
.loop 1 [.one (.int .i64), .one (.int .i64), .one (.int .i64), .one .bool, .one .bool] (a, (b, (limit, (true, (true, ()))))) (u5 fun (n0 : Int) (n1 : Int) (n2 : Int) b3 b4 =>
.bind 2 [.one (.int .i64), .one (.int .i64), .one (.int .i64), .one .bool, .one .bool] (
.lt (.int .i64) (IntKind.wrap .i64 (n1 - n0)) fun (n5 : Int) =>
.ite (decide (n5 ≤ 12)) (
.call F.slices_insertionSortCmpFunc_iso_Txn [data.v, .int .i64 n0, .int .i64 n1, cmp] (.tup []) (u0 <|
.done 0 [])) (
.ite (n2 == 0) (
.call F.slices_heapSortCmpFunc_iso_Txn [data.v, .int .i64 n0, .int .i64 n1, cmp] (.tup []) (u0 <|
.done 0 [])) (
.bind 3 [.one (.int .i64)] (
.ite (not b3) (
.call F.slices_breakPatternsCmpFunc_iso_Txn [data.v, .int .i64 n0, .int .i64 n1, cmp] (.tup []) (u0 <|
.lt (.int .i64) (IntKind.wrap .i64 (n2 - 1)) fun (n6 : Int) =>
.done 3 [.int .i64 n6])) (
.done 3 [.int .i64 n2])) (u1 fun (n7 : Int) =>
.call F.slices_choosePivotCmpFunc_iso_Txn [data.v, .int .i64 n0, .int .i64 n1, cmp] (.tup [.one (.int .i64), .one (.int .i64)]) (u2 fun (n8 : Int) (n9 : Int) =>
.lt (.int .i64) (n8) fun (n10 : Int) =>
.lt (.int .i64) (n9) fun (n11 : Int) =>
.bind 3 [.one (.int .i64), .one (.int .i64)] (
.ite (n11 == 2) (
.call F.slices_reverseRangeCmpFunc_iso_Txn [data.v, .int .i64 n0, .int .i64 n1, cmp] (.tup []) (u0 <|
.lt (.int .i64) (IntKind.wrap .i64 (IntKind.wrap .i64 (n1 - 1) - IntKind.wrap .i64 (n10 - n0))) fun (n12 : Int) =>
.done 3 [.int .i64 n12, .int .i64 1])) (
.done 3 [.int .i64 n10, .int .i64 n11])) (u2 fun (n13 : Int) (n14 : Int) =>
.bind 3 [] (
.ite (b3 && b4 && n14 == 1) (
.call F.slices_partialInsertionSortCmpFunc_iso_Txn [data.v, .int .i64 n0, .int .i64 n1, cmp] sB (u1 fun b15 =>
.ite (b15) (
.done 0 []) (
.done 3 []))) (
.done 3 [])) (u0 <|
.bind 3 [.one .bool] (
.tick <|
.ex [.adr] (c1 fun a16 => decide (n0 > 0) = true → 0 ≤ IntKind.wrap .i64 (n0 - 1) ∧ IntKind.wrap .i64 (n0 - 1) < ((data.len : Nat) : Int) ∧ data.a = some a16) (u1 fun a17 =>
.read (decide (n0 > 0) = true) (ld T.iso_Txn (Addr.add a17 (Int.toNat (IntKind.wrap .i64 (n0 - 1)) * 4))) (sG [.int .i64, .int .i64, .int .i64, .int .i64]) (u4 fun (n18 : Int) (n19 : Int) (n20 : Int) (n21 : Int) =>
.ex [.adr] (c1 fun a22 => decide (n0 > 0) = true → 0 ≤ n13 ∧ n13 < ((data.len : Nat) : Int) ∧ data.a = some a22) (u1 fun a23 =>
.read (decide (n0 > 0) = true) (ld T.iso_Txn (Addr.add a23 (Int.toNat n13 * 4))) (sG [.int .i64, .int .i64, .int .i64, .int .i64]) (u4 fun (n24 : Int) (n25 : Int) (n26 : Int) (n27 : Int) =>
.ite (decide (n0 > 0)) (
.callv (cmp) [.agg #[.int .i64 n18, .int .i64 n19, .int .i64 n20, .int .i64 n21], .agg #[.int .i64 n24, .int .i64 n25, .int .i64 n26, .int .i64 n27]] (sI .i64) (u1 fun (n28 : Int) =>
.untick <|
.done 3 [.bool (not (decide (n28 < 0)))])) (
.untick <|
.done 3 [.bool false])))))) (u1 fun b29 =>
.ite (b29) (
.call F.slices_partitionEqualCmpFunc_iso_Txn [data.v, .int .i64 n0, .int .i64 n1, .int .i64 n13, cmp] (sI .i64) (u1 fun (n30 : Int) =>
.lt (.int .i64) (n30) fun (n31 : Int) =>
.lt (.int .i64) (n31) fun (n32 : Int) =>
.done 2 [.int .i64 n32, .int .i64 n1, .int .i64 n7, .bool b3, .bool b4])) (
.call F.slices_partitionCmpFunc_iso_Txn [data.v, .int .i64 n0, .int .i64 n1, .int .i64 n13, cmp] (.tup [.one (.int .i64), .one .bool]) (u2 fun (n33 : Int) b34 =>
.lt (.int .i64) (n33) fun (n35 : Int) =>
.lt (.bool) (b34) fun b36 =>
.lt (.bool) (b36) fun b37 =>
.lt (.int .i64) (IntKind.wrap .i64 (n35 - n0)) fun (n38 : Int) =>
.lt (.int .i64) (IntKind.wrap .i64 (n1 - n35)) fun (n39 : Int) =>
.lt (.int .i64) (IntKind.wrap .i64 (Int.tdiv n5 8)) fun (n40 : Int) =>
.bind 3 [.one (.int .i64), .one (.int .i64), .one .bool] (
.ite (decide (n38 < n39)) (
.lt (.bool) (decide (n38 ≥ n40)) fun b41 =>
.call F.slices_pdqsortCmpFunc_iso_Txn [data.v, .int .i64 n0, .int .i64 n35, .int .i64 n7, cmp] (.tup []) (u0 <|
.lt (.int .i64) (IntKind.wrap .i64 (n35 + 1)) fun (n42 : Int) =>
.done 3 [.int .i64 n42, .int .i64 n1, .bool b41])) (
.lt (.bool) (decide (n39 ≥ n40)) fun b43 =>
.call F.slices_pdqsortCmpFunc_iso_Txn [data.v, .int .i64 (IntKind.wrap .i64 (n35 + 1)), .int .i64 n1, .int .i64 n7, cmp] (.tup []) (u0 <|
.lt (.int .i64) (n35) fun (n44 : Int) =>
.done 3 [.int .i64 n0, .int .i64 n44, .bool b43]))) (u3 fun (n45 : Int) (n46 : Int) b47 =>
.done 2 [.int .i64 n45, .int .i64 n46, .int .i64 n7, .bool b47, .bool b37]))))))))))) (u5 fun (n48 : Int) (n49 : Int) (n50 : Int) b51 b52 =>
.done 1 [.int .i64 n48, .int .i64 n49, .int .i64 n50, .bool b51, .bool b52]))
theorem slices_pdqsortCmpFunc_iso_Txn_eq (data : Sl) (a : Int) (b : Int) (limit : Int) (cmp : Value) : decomp P 148 ⟨okFs, []⟩ { cnd := [(571957152676085799, [(3, .one (.int .i64))]), (1208335523804270569717816, [(13, .one (.int .i64)), (14, .one (.int .i64))]), (9594035304461697130468212811, []), (1461501288881759191162698246220685009525288231037, [(1, .one (.int .i64)), (2, .one (.int .i64)), (10, .one .bool)])], blk := [(1, [(1, .one (.int .i64)), (2, .one (.int .i64)), (3, .one (.int .i64)), (10, .one .bool), (11, .one .bool)])], reg := [(17, [(97, .one .bool)])], lps := [(0, [(1, .one (.int .i64)), (2, .one (.int .i64)), (3, .one (.int .i64)), (10, .one .bool), (11, .one .bool)])] } [] (bodyOf Go.Proofs.Tryz.f78) [.val (.slice data.a data.len data.cap), .val (.int .i64 a), .val (.int .i64 b), .val (.int .i64 limit), .any cmp] = slices_pdqsortCmpFunc_iso_Txn data a b limit cmp := by kernel_rfl
theorem slices_pdqsortCmpFunc_iso_Txn_calls (data : Sl) (a : Int) (b : Int) (limit : Int) (cmp : Value) {w : World} {R : List Value → World → Prop} (h : (slices_pdqsortCmpFunc_iso_Txn data a b limit cmp).wp P (fun _ => True) w fun e vs w' => e = 0 ∧ R vs w') :
    Calls P F.slices_pdqsortCmpFunc_iso_Txn #[.slice data.a data.len data.cap, .int .i64 a, .int .i64 b, .int .i64 limit, cmp] w fun e w' => ∃ vs, e = .returned (pack vs) ∧ R vs w' :=
  decomp_sound (isFn_of Go.Proofs.Tryz.func78 (by kernel_rfl) (by kernel_rfl) (by kernel_rfl)) okFs_ok mix [.val (.slice data.a data.len data.cap), .val (.int .i64 a), .val (.int .i64 b), .val (.int .i64 limit), .any cmp] (by rw [slices_pdqsortCmpFunc_iso_Txn_eq]; exact h)

def math_bits_Len (x : Int) : Prog :=
.call F.math_bits_Len64 [.int .u64 x] (sI .i64) (u1 fun (n0 : Int) =>
.lt (.int .i64) (n0) fun (n1 : Int) =>
.done 0 [.int .i64 n1])
theorem math_bits_Len_eq (x : Int) : decomp P 8 ⟨okFs, []⟩ { cnd := [], blk := [], reg := [], lps := [] } [.tmp 2] (bodyOf Go.Proofs.Tryz.f79) [.val (.int .u64 x)] = math_bits_Len x := by kernel_rfl
theorem math_bits_Len_calls (x : Int) {w : World} {R : List Value → World → Prop} (h : (math_bits_Len x).wp P (fun _ => True) w fun e vs w' => e = 0 ∧ R vs w') :
    Calls P F.math_bits_Len #[.int .u64 x] w fun e w' => ∃ vs, e = .returned (pack vs) ∧ R vs w' :=
  decomp_sound (isFn_of Go.Proofs.Tryz.func79 (by kernel_rfl) (by kernel_rfl) (by kernel_rfl)) okFs_ok mix [.val (.int .u64 x)] (by rw [math_bits_Len_eq]; exact h)

def cmp_isNaN_int64 (x : Int) : Prog :=
.lt (.bool) (x != x) fun b0 =>
.done 0 [.bool b0]
theorem cmp_isNaN_int64_eq (x : Int) : decomp P 6 ⟨okFs, []⟩ { cnd := [], blk := [], reg := [], lps := [] } [.tmp 2] (bodyOf Go.Proofs.Tryz.f80) [.val (.int .i64 x)] = cmp_isNaN_int64 x := by kernel_rfl
theorem cmp_isNaN_int64_calls (x : Int) {w : World} {R : List Value → World → Prop} (h : (cmp_isNaN_int64 x).wp P (fun _ => True) w fun e vs w' => e = 0 ∧ R vs w') :
    Calls P F.cmp_isNaN_int64 #[.int .i64 x] w fun e w' => ∃ vs, e = .returned (pack vs) ∧ R vs w' :=
  decomp_sound (isFn_of Go.Proofs.Tryz.func80 (by kernel_rfl) (by kernel_rfl) (by kernel_rfl)) okFs_ok mix [.val (.int .i64 x)] (by rw [cmp_isNaN_int64_eq]; exact h)

def rec_within (n : Int) (lo : Int) (hi : Int) : Prog :=
.lt (.bool) (decide (n ≥ lo) && decide (n ≤ hi)) fun b0 =>
.done 0 [.bool b0]
theorem rec_within_eq (n : Int) (lo : Int) (hi : Int) : decomp P 15 ⟨okFs, []⟩ { cnd := [], blk := [], reg := [], lps := [] } [.tmp 6] (bodyOf Go.Proofs.Tryz.f83) [.val (.int .i64 n), .val (.int .i64 lo), .val (.int .i64 hi)] = rec_within n lo hi := by kernel_rfl
theorem rec_within_calls (n : Int) (lo : Int) (hi : Int) {w : World} {R : List Value → World → Prop} (h : (rec_within n lo hi).wp P (fun _ => True) w fun e vs w' => e = 0 ∧ R vs w') :
    Calls P F.rec_within #[.int .i64 n, .int .i64 lo, .int .i64 hi] w fun e w' => ∃ vs, e = .returned (pack vs) ∧ R vs w' :=
  decomp_sound (isFn_of Go.Proofs.Tryz.func83 (by kernel_rfl) (by kernel_rfl) (by kernel_rfl)) okFs_ok mix [.val (.int .i64 n), .val (.int .i64 lo), .val (.int .i64 hi)] (by rw [rec_within_eq]; exact h)

def slices_insertionSortCmpFunc_iso_Txn (data : Sl) (a : Int) (b : Int) (cmp : Value) : Prog :=
.lt (.int .i64) (IntKind.wrap .i64 (a + 1)) fun (n0 : Int) =>
.bind 1 [] (
.loop 2 [.one (.int .i64)] (n0, ()) (u1 fun (n1 : Int) =>
.ite (decide (n1 < b)) (
.bind 3 [] (
.lt (.int .i64) (n1) fun (n2 : Int) =>
.bind 4 [] (
.loop 5 [.one (.int .i64)] (n2, ()) (u1 fun (n3 : Int) =>
.bind 6 [.one .bool] (
.tick <|
.ex [.adr] (c1 fun a4 => decide (n3 > a) = true → 0 ≤ n3 ∧ n3 < ((data.len : Nat) : Int) ∧ data.a = some a4) (u1 fun a5 =>
.read (decide (n3 > a) = true) (ld T.iso_Txn (Addr.add a5 (Int.toNat n3 * 4))) (sG [.int .i64, .int .i64, .int .i64, .int .i64]) (u4 fun (n6 : Int) (n7 : Int) (n8 : Int) (n9 : Int) =>
.ex [.adr] (c1 fun a10 => decide (n3 > a) = true → 0 ≤ IntKind.wrap .i64 (n3 - 1) ∧ IntKind.wrap .i64 (n3 - 1) < ((data.len : Nat) : Int) ∧ data.a = some a10) (u1 fun a11 =>
.read (decide (n3 > a) = true) (ld T.iso_Txn (Addr.add a11 (Int.toNat (IntKind.wrap .i64 (n3 - 1)) * 4))) (sG [.int .i64, .int .i64, .int .i64, .int .i64]) (u4 fun (n12 : Int) (n13 : Int) (n14 : Int) (n15 : Int) =>
.ite (decide (n3 > a)) (
.callv (cmp) [.agg #[.int .i64 n6, .int .i64 n7, .int .i64 n8, .int .i64 n9], .agg #[.int .i64 n12, .int .i64 n13, .int .i64 n14, .int .i64 n15]] (sI .i64) (u1 fun (n16 : Int) =>
.untick <|
.done 6 [.bool (decide (n16 < 0))])) (
.untick <|
.done 6 [.bool false])))))) (u1 fun b17 =>
.ite (b17) (
.bind 6 [] (
.tick <|
.ex [.adr] (c1 fun a18 => 0 ≤ IntKind.wrap .i64 (n3 - 1) ∧ IntKind.wrap .i64 (n3 - 1) < ((data.len : Nat) : Int) ∧ data.a = some a18) (u1 fun a19 =>
.read True (ld T.iso_Txn (Addr.add a19 (Int.toNat (IntKind.wrap .i64 (n3 - 1)) * 4))) (sG [.int .i64, .int .i64, .int .i64, .int .i64]) (u4 fun (n20 : Int) (n21 : Int) (n22 : Int) (n23 : Int) =>
.ex [.adr] (c1 fun a24 => 0 ≤ n3 ∧ n3 < ((data.len : Nat) : Int) ∧ data.a = some a24) (u1 fun a25 =>
.read True (ld T.iso_Txn (Addr.add a25 (Int.toNat n3 * 4))) (sG [.int .i64, .int .i64, .int .i64, .int .i64]) (u4 fun (n26 : Int) (n27 : Int) (n28 : Int) (n29 : Int) =>
.ex [.adr] (c1 fun a30 => 0 ≤ n3 ∧ n3 < ((data.len : Nat) : Int) ∧ data.a = some a30) (u1 fun a31 =>
.actU (st T.iso_Txn (Addr.add a31 (Int.toNat n3 * 4)) (.agg #[.int .i64 n20, .int .i64 n21, .int .i64 n22, .int .i64 n23])) <|
.ex [.adr] (c1 fun a32 => 0 ≤ IntKind.wrap .i64 (n3 - 1) ∧ IntKind.wrap .i64 (n3 - 1) < ((data.len : Nat) : Int) ∧ data.a = some a32) (u1 fun a33 =>
.actU (st T.iso_Txn (Addr.add a33 (Int.toNat (IntKind.wrap .i64 (n3 - 1)) * 4)) (.agg #[.int .i64 n26, .int .i64 n27, .int .i64 n28, .int .i64 n29])) <|
.untick <|
.done 6 []))))))) (u0 <|
.lt (.int .i64) (IntKind.wrap .i64 (n3 - 1)) fun (n34 : Int) =>
.done 5 [.int .i64 n34])) (
.done 4 [])))) (u0 <|
.done 3 [])) (u0 <|
.lt (.int .i64) (IntKind.wrap .i64 (n1 + 1)) fun (n35 : Int) =>
.done 2 [.int .i64 n35])) (
.done 1 []))) (u0 <|
.done 0 [])
theorem slices_insertionSortCmpFunc_iso_Txn_eq (data : Sl) (a : Int) (b : Int) (cmp : Value) : decomp P 53 ⟨okFs, []⟩ { cnd := [], blk := [(0, []), (1, []), (2, [])], reg := [(4, [(34, .one .bool)]), (6, [])], lps := [(0, [(8, .one (.int .i64))]), (2, [(9, .one (.int .i64))])] } [] (bodyOf Go.Proofs.Tryz.f88) [.val (.slice data.a data.len data.cap), .val (.int .i64 a), .val (.int .i64 b), .any cmp] = slices_insertionSortCmpFunc_iso_Txn data a b cmp := by kernel_rfl
theorem slices_insertionSortCmpFunc_iso_Txn_calls (data : Sl) (a : Int) (b : Int) (cmp : Value) {w : World} {R : List Value → World → Prop} (h : (slices_insertionSortCmpFunc_iso_Txn data a b cmp).wp P (fun _ => True) w fun e vs w' => e = 0 ∧ R vs w') :
    Calls P F.slices_insertionSortCmpFunc_iso_Txn #[.slice data.a data.len data.cap, .int .i64 a, .int .i64 b, cmp] w fun e w' => ∃ vs, e = .returned (pack vs) ∧ R vs w' :=
  decomp_sound (isFn_of Go.Proofs.Tryz.func88 (by kernel_rfl) (by kernel_rfl) (by kernel_rfl)) okFs_ok mix [.val (.slice data.a data.len data.cap), .val (.int .i64 a), .val (.int .i64 b), .any cmp] (by rw [slices_insertionSortCmpFunc_iso_Txn_eq]; exact h)

def slices_heapSortCmpFunc_iso_Txn (data : Sl) (a : Int) (b : Int) (cmp : Value) : Prog :=
.lt (.int .i64) (a) fun (n0 : Int) =>
.lt (.int .i64) (IntKind.wrap .i64 (b - a)) fun (n1 : Int) =>
.lt (.int .i64) (IntKind.wrap .i64 (Int.tdiv (IntKind.wrap .i64 (n1 - 1)) 2)) fun (n2 : Int) =>
.bind 1 [] (
.loop 2 [.one (.int .i64)] (n2, ()) (u1 fun (n3 : Int) =>
.ite (decide (n3 ≥ 0)) (
.call F.slices_siftDownCmpFunc_iso_Txn [data.v, .int .i64 n3, .int .i64 n1, .int .i64 n0, cmp] (.tup []) (u0 <|
.lt (.int .i64) (IntKind.wrap .i64 (n3 - 1)) fun (n4 : Int) =>
.done 2 [.int .i64 n4])) (
.done 1 []))) (u0 <|
.lt (.int .i64) (IntKind.wrap .i64 (n1 - 1)) fun (n5 : Int) =>
.bind 1 [] (
.loop 2 [.one (.int .i64)] (n5, ()) (u1 fun (n6 : Int) =>
.ite (decide (n6 ≥ 0)) (
.bind 3 [] (
.tick <|
.ex [.adr] (c1 fun a7 => 0 ≤ IntKind.wrap .i64 (n0 + n6) ∧ IntKind.wrap .i64 (n0 + n6) < ((data.len : Nat) : Int) ∧ data.a = some a7) (u1 fun a8 =>
.read True (ld T.iso_Txn (Addr.add a8 (Int.toNat (IntKind.wrap .i64 (n0 + n6)) * 4))) (sG [.int .i64, .int .i64, .int .i64, .int .i64]) (u4 fun (n9 : Int) (n10 : Int) (n11 : Int) (n12 : Int) =>
.ex [.adr] (c1 fun a13 => 0 ≤ n0 ∧ n0 < ((data.len : Nat) : Int) ∧ data.a = some a13) (u1 fun a14 =>
.read True (ld T.iso_Txn (Addr.add a14 (Int.toNat n0 * 4))) (sG [.int .i64, .int .i64, .int .i64, .int .i64]) (u4 fun (n15 : Int) (n16 : Int) (n17 : Int) (n18 : Int) =>
.ex [.adr] (c1 fun a19 => 0 ≤ n0 ∧ n0 < ((data.len : Nat) : Int) ∧ data.a = some a19) (u1 fun a20 =>
.actU (st T.iso_Txn (Addr.add a20 (Int.toNat n0 * 4)) (.agg #[.int .i64 n9, .int .i64 n10, .int .i64 n11, .int .i64 n12])) <|
.ex [.adr] (c1 fun a21 => 0 ≤ IntKind.wrap .i64 (n0 + n6) ∧ IntKind.wrap .i64 (n0 + n6) < ((data.len : Nat) : Int) ∧ data.a = some a21) (u1 fun a22 =>
.actU (st T.iso_Txn (Addr.add a22 (Int.toNat (IntKind.wrap .i64 (n0 + n6)) * 4)) (.agg #[.int .i64 n15, .int .i64 n16, .int .i64 n17, .int .i64 n18])) <|
.untick <|
.done 3 []))))))) (u0 <|
.call F.slices_siftDownCmpFunc_iso_Txn [data.v, .int .i64 0, .int .i64 n6, .int .i64 n0, cmp] (.tup []) (u0 <|
.lt (.int .i64) (IntKind.wrap .i64 (n6 - 1)) fun (n23 : Int) =>
.done 2 [.int .i64 n23]))) (
.done 1 []))) (u0 <|
.done 0 []))
theorem slices_heapSortCmpFunc_iso_Txn_eq (data : Sl) (a : Int) (b : Int) (cmp : Value) : decomp P 60 ⟨okFs, []⟩ { cnd := [], blk := [(0, []), (2, [])], reg := [(10, [])], lps := [(0, [(11, .one (.int .i64))]), (2, [(12, .one (.int .i64))])] } [] (bodyOf Go.Proofs.Tryz.f89) [.val (.slice data.a data.len data.cap), .val (.int .i64 a), .val (.int .i64 b), .any cmp] = slices_heapSortCmpFunc_iso_Txn data a b cmp := by kernel_rfl
theorem slices_heapSortCmpFunc_iso_Txn_calls (data : Sl) (a : Int) (b : Int) (cmp : Value) {w : World} {R : List Value → World → Prop} (h : (slices_heapSortCmpFunc_iso_Txn data a b cmp).wp P (fun _ => True) w fun e vs w' => e = 0 ∧ R vs w') :
    Calls P F.slices_heapSortCmpFunc_iso_Txn #[.slice data.a data.len data.cap, .int .i64 a, .int .i64 b, cmp] w fun e w' => ∃ vs, e = .returned (pack vs) ∧ R vs w' :=
  decomp_sound (isFn_of Go.Proofs.Tryz.func89 (by kernel_rfl) (by kernel_rfl) (by kernel_rfl)) okFs_ok mix [.val (.slice data.a data.len data.cap), .val (.int .i64 a), .val (.int .i64 b), .any cmp] (by rw [slices_heapSortCmpFunc_iso_Txn_eq]; exact h)

def slices_breakPatternsCmpFunc_iso_Txn (data : Sl) (a : Int) (b : Int) (cmp : Value) : Prog :=
.lt (.int .i64) (IntKind.wrap .i64 (b - a)) fun (n0 : Int) =>
.bind 1 [] (
.ite (decide (n0 ≥ 8)) (
.act (new T.slices_xorshift) sA (u1 fun a1 =>
.actU (st T.slices_xorshift a1 (.int .u64 (IntKind.wrap .u64 n0))) <|
.call F.slices_nextPowerOfTwo [.int .i64 n0] (sI .u64) (u1 fun (n2 : Int) =>
.lt (.int .u64) (n2) fun (n3 : Int) =>
.lt (.int .i64) (IntKind.wrap .i64 (IntKind.wrap .i64 (a + IntKind.wrap .i64 (IntKind.wrap .i64 (Int.tdiv n0 4) * 2)) - 1)) fun (n4 : Int) =>
.bind 2 [] (
.loop 3 [.one (.int .i64)] (n4, ()) (u1 fun (n5 : Int) =>
.ite (decide (n5 ≤ IntKind.wrap .i64 (IntKind.wrap .i64 (a + IntKind.wrap .i64 (IntKind.wrap .i64 (Int.tdiv n0 4) * 2)) + 1))) (
.call F.slices_xorshift_Next [.pointer (some a1)] (sI .u64) (u1 fun (n6 : Int) =>
.lt (.int .i64) (IntKind.wrap .i64 (IntKind.wrap .u64 (((BitVec.toNat (BitVec.ofInt 64 n6 &&& BitVec.ofInt 64 (IntKind.wrap .u64 (n3 - 1))) : Nat) : Int)))) fun (n7 : Int) =>
.bind 4 [.one (.int .i64)] (
.ite (decide (n7 ≥ n0)) (
.lt (.int .i64) (IntKind.wrap .i64 (n7 - n0)) fun (n8 : Int) =>
.done 4 [.int .i64 n8]) (
.done 4 [.int .i64 n7])) (u1 fun (n9 : Int) =>
.bind 4 [] (
.tick <|
.ex [.adr] (c1 fun a10 => 0 ≤ IntKind.wrap .i64 (a + n9) ∧ IntKind.wrap .i64 (a + n9) < ((data.len : Nat) : Int) ∧ data.a = some a10) (u1 fun a11 =>
.read True (ld T.iso_Txn (Addr.add a11 (Int.toNat (IntKind.wrap .i64 (a + n9)) * 4))) (sG [.int .i64, .int .i64, .int .i64, .int .i64]) (u4 fun (n12 : Int) (n13 : Int) (n14 : Int) (n15 : Int) =>
.ex [.adr] (c1 fun a16 => 0 ≤ n5 ∧ n5 < ((data.len : Nat) : Int) ∧ data.a = some a16) (u1 fun a17 =>
.read True (ld T.iso_Txn (Addr.add a17 (Int.toNat n5 * 4))) (sG [.int .i64, .int .i64, .int .i64, .int .i64]) (u4 fun (n18 : Int) (n19 : Int) (n20 : Int) (n21 : Int) =>
.ex [.adr] (c1 fun a22 => 0 ≤ n5 ∧ n5 < ((data.len : Nat) : Int) ∧ data.a = some a22) (u1 fun a23 =>
.actU (st T.iso_Txn (Addr.add a23 (Int.toNat n5 * 4)) (.agg #[.int .i64 n12, .int .i64 n13, .int .i64 n14, .int .i64 n15])) <|
.ex [.adr] (c1 fun a24 => 0 ≤ IntKind.wrap .i64 (a + n9) ∧ IntKind.wrap .i64 (a + n9) < ((data.len : Nat) : Int) ∧ data.a = some a24) (u1 fun a25 =>
.actU (st T.iso_Txn (Addr.add a25 (Int.toNat (IntKind.wrap .i64 (a + n9)) * 4)) (.agg #[.int .i64 n18, .int .i64 n19, .int .i64 n20, .int .i64 n21])) <|
.untick <|
.done 4 []))))))) (u0 <|
.lt (.int .i64) (IntKind.wrap .i64 (n5 + 1)) fun (n26 : Int) =>
.done 3 [.int .i64 n26])))) (
.done 2 []))) (u0 <|
.done 1 [])))) (
.done 1 [])) (u0 <|
.done 0 [])
theorem slices_breakPatternsCmpFunc_iso_Txn_eq (data : Sl) (a : Int) (b : Int) (cmp : Value) : decomp P 67 ⟨okFs, []⟩ { cnd := [(2017612633078759469, [(12, .one (.int .i64))]), (604462909807313545068561, [])], blk := [(0, [])], reg := [(10, [])], lps := [(0, [(11, .one (.int .i64))])] } [] (bodyOf Go.Proofs.Tryz.f90) [.val (.slice data.a data.len data.cap), .val (.int .i64 a), .val (.int .i64 b), .any cmp] = slices_breakPatternsCmpFunc_iso_Txn data a b cmp := by kernel_rfl
theorem slices_breakPatternsCmpFunc_iso_Txn_calls (data : Sl) (a : Int) (b : Int) (cmp : Value) {w : World} {R : List Value → World → Prop} (h : (slices_breakPatternsCmpFunc_iso_Txn data a b cmp).wp P (fun _ => True) w fun e vs w' => e = 0 ∧ R vs w') :
    Calls P F.slices_breakPatternsCmpFunc_iso_Txn #[.slice data.a data.len data.cap, .int .i64 a, .int .i64 b, cmp] w fun e w' => ∃ vs, e = .returned (pack vs) ∧ R vs w' :=
  decomp_sound (isFn_of Go.Proofs.Tryz.func90 (by kernel_rfl) (by kernel_rfl) (by kernel_rfl)) okFs_ok mix [.val (.slice data.a data.len data.cap), .val (.int .i64 a), .val (.int .i64 b), .any cmp] (by rw [slices_breakPatternsCmpFunc_iso_Txn_eq]; exact h)

def slices_choosePivotCmpFunc_iso_Txn (data : Sl) (a : Int) (b : Int) (cmp : Value) : Prog :=
.lt (.int .i64) (IntKind.wrap .i64 (b - a)) fun (n0 : Int) =>
.act (new T.int) sA (u1 fun a1 =>
.lt (.int .i64) (IntKind.wrap .i64 (a + IntKind.wrap .i64 (IntKind.wrap .i64 (Int.tdiv n0 4) * 1))) fun (n2 : Int) =>
.lt (.int .i64) (IntKind.wrap .i64 (a + IntKind.wrap .i64 (IntKind.wrap .i64 (Int.tdiv n0 4) * 2))) fun (n3 : Int) =>
.lt (.int .i64) (IntKind.wrap .i64 (a + IntKind.wrap .i64 (IntKind.wrap .i64 (Int.tdiv n0 4) * 3))) fun (n4 : Int) =>
.bind 1 [.one (.int .i64)] (
.ite (decide (n0 ≥ 8)) (
.bind 2 [.one (.int .i64), .one (.int .i64), .one (.int .i64)] (
.ite (decide (n0 ≥ 50)) (
.call F.slices_medianAdjacentCmpFunc_iso_Txn [data.v, .int .i64 n2, .pointer (some a1), cmp] (sI .i64) (u1 fun (n5 : Int) =>
.lt (.int .i64) (n5) fun (n6 : Int) =>
.call F.slices_medianAdjacentCmpFunc_iso_Txn [data.v, .int .i64 n3, .pointer (some a1), cmp] (sI .i64) (u1 fun (n7 : Int) =>
.lt (.int .i64) (n7) fun (n8 : Int) =>
.call F.slices_medianAdjacentCmpFunc_iso_Txn [data.v, .int .i64 n4, .pointer (some a1), cmp] (sI .i64) (u1 fun (n9 : Int) =>
.lt (.int .i64) (n9) fun (n10 : Int) =>
.done 2 [.int .i64 n6, .int .i64 n8, .int .i64 n10])))) (
.done 2 [.int .i64 n2, .int .i64 n3, .int .i64 n4])) (u3 fun (n11 : Int) (n12 : Int) (n13 : Int) =>
.call F.slices_medianCmpFunc_iso_Txn [data.v, .int .i64 n11, .int .i64 n12, .int .i64 n13, .pointer (some a1), cmp] (sI .i64) (u1 fun (n14 : Int) =>
.lt (.int .i64) (n14) fun (n15 : Int) =>
.done 1 [.int .i64 n15]))) (
.done 1 [.int .i64 n3])) (u1 fun (n16 : Int) =>
.read True (ld T.int a1) (sI .i64) (u1 fun (n17 : Int) =>
.lt (.bool) (n17 == 0) fun b18 =>
.ite (b18) (
.lt (.int .i64) (n16) fun (n19 : Int) =>
.done 0 [.int .i64 n19, .int .i64 1]) (
.lt (.bool) (n17 == 12) fun b20 =>
.ite (b20) (
.lt (.int .i64) (n16) fun (n21 : Int) =>
.done 0 [.int .i64 n21, .int .i64 2]) (
.lt (.int .i64) (n16) fun (n22 : Int) =>
.done 0 [.int .i64 n22, .int .i64 0])))))
theorem slices_choosePivotCmpFunc_iso_Txn_eq (data : Sl) (a : Int) (b : Int) (cmp : Value) : decomp P 63 ⟨okFs, []⟩ { cnd := [(2305280059377713188, [(12, .one (.int .i64)), (13, .one (.int .i64)), (14, .one (.int .i64))]), (147573811852305498146, [(13, .one (.int .i64))])], blk := [], reg := [], lps := [] } [.tmp 8, .tmp 9] (bodyOf Go.Proofs.Tryz.f91) [.val (.slice data.a data.len data.cap), .val (.int .i64 a), .val (.int .i64 b), .any cmp] = slices_choosePivotCmpFunc_iso_Txn data a b cmp := by kernel_rfl
theorem slices_choosePivotCmpFunc_iso_Txn_calls (data : Sl) (a : Int) (b : Int) (cmp : Value) {w : World} {R : List Value → World → Prop} (h : (slices_choosePivotCmpFunc_iso_Txn data a b cmp).wp P (fun _ => True) w fun e vs w' => e = 0 ∧ R vs w') :
    Calls P F.slices_choosePivotCmpFunc_iso_Txn #[.slice data.a data.len data.cap, .int .i64 a, .int .i64 b, cmp] w fun e w' => ∃ vs, e = .returned (pack vs) ∧ R vs w' :=
  decomp_sound (isFn_of Go.Proofs.Tryz.func91 (by kernel_rfl) (by kernel_rfl) (by kernel_rfl)) okFs_ok mix [.val (.slice data.a data.len data.cap), .val (.int .i64 a), .val (.int .i64 b), .any cmp] (by rw [slices_choosePivotCmpFunc_iso_Txn_eq]; exact h)

def slices_reverseRangeCmpFunc_iso_Txn (data : Sl) (a : Int) (b : Int) (cmp : Value) : Prog :=
.lt (.int .i64) (a) fun (n0 : Int) =>
.lt (.int .i64) (IntKind.wrap .i64 (b - 1)) fun (n1 : Int) =>
.bind 1 [] (
.loop 2 [.one (.int .i64), .one (.int .i64)] (n0, (n1, ())) (u2 fun (n2 : Int) (n3 : Int) =>
.ite (decide (n2 < n3)) (
.bind 3 [] (
.tick <|
.ex [.adr] (c1 fun a4 => 0 ≤ n3 ∧ n3 < ((data.len : Nat) : Int) ∧ data.a = some a4) (u1 fun a5 =>
.read True (ld T.iso_Txn (Addr.add a5 (Int.toNat n3 * 4))) (sG [.int .i64, .int .i64, .int .i64, .int .i64]) (u4 fun (n6 : Int) (n7 : Int) (n8 : Int) (n9 : Int) =>
.ex [.adr] (c1 fun a10 => 0 ≤ n2 ∧ n2 < ((data.len : Nat) : Int) ∧ data.a = some a10) (u1 fun a11 =>
.read True (ld T.iso_Txn (Addr.add a11 (Int.toNat n2 * 4))) (sG [.int .i64, .int .i64, .int .i64, .int .i64]) (u4 fun (n12 : Int) (n13 : Int) (n14 : Int) (n15 : Int) =>
.ex [.adr] (c1 fun a16 => 0 ≤ n2 ∧ n2 < ((data.len : Nat) : Int) ∧ data.a = some a16) (u1 fun a17 =>
.actU (st T.iso_Txn (Addr.add a17 (Int.toNat n2 * 4)) (.agg #[.int .i64 n6, .int .i64 n7, .int .i64 n8, .int .i64 n9])) <|
.ex [.adr] (c1 fun a18 => 0 ≤ n3 ∧ n3 < ((data.len : Nat) : Int) ∧ data.a = some a18) (u1 fun a19 =>
.actU (st T.iso_Txn (Addr.add a19 (Int.toNat n3 * 4)) (.agg #[.int .i64 n12, .int .i64 n13, .int .i64 n14, .int .i64 n15])) <|
.untick <|
.done 3 []))))))) (u0 <|
.lt (.int .i64) (IntKind.wrap .i64 (n2 + 1)) fun (n20 : Int) =>
.lt (.int .i64) (IntKind.wrap .i64 (n3 - 1)) fun (n21 : Int) =>
.done 2 [.int .i64 n20, .int .i64 n21])) (
.done 1 []))) (u0 <|
.done 0 [])
theorem slices_reverseRangeCmpFunc_iso_Txn_eq (data : Sl) (a : Int) (b : Int) (cmp : Value) : decomp P 34 ⟨okFs, []⟩ { cnd := [], blk := [(0, [])], reg := [(3, [])], lps := [(0, [(8, .one (.int .i64)), (9, .one (.int .i64))])] } [] (bodyOf Go.Proofs.Tryz.f92) [.val (.slice data.a data.len data.cap), .val (.int .i64 a), .val (.int .i64 b), .any cmp] = slices_reverseRangeCmpFunc_iso_Txn data a b cmp := by kernel_rfl
theorem slices_reverseRangeCmpFunc_iso_Txn_calls (data : Sl) (a : Int) (b : Int) (cmp : Value) {w : World} {R : List Value → World → Prop} (h : (slices_reverseRangeCmpFunc_iso_Txn data a b cmp).wp P (fun _ => True) w fun e vs w' => e = 0 ∧ R vs w') :
    Calls P F.slices_reverseRangeCmpFunc_iso_Txn #[.slice data.a data.len data.cap, .int .i64 a, .int .i64 b, cmp] w fun e w' => ∃ vs, e = .returned (pack vs) ∧ R vs w' :=
  decomp_sound (isFn_of Go.Proofs.Tryz.func92 (by kernel_rfl) (by kernel_rfl) (by kernel_rfl)) okFs_ok mix [.val (.slice data.a data.len data.cap), .val (.int .i64 a), .val (.int .i64 b), .any cmp] (by rw [slices_reverseRangeCmpFunc_iso_Txn_eq]; exact h)

def slices_partialInsertionSortCmpFunc_iso_Txn (data : Sl) (a : Int) (b : Int) (cmp : Value) : Prog :=
.lt (.int .i64) (IntKind.wrap .i64 (a + 1)) fun (n0 : Int) =>
.bind 1 [] (
.loop 2 [.one (.int .i64), .one (.int .i64)] (n0, (0, ())) (u2 fun (n1 : Int) (n2 : Int) =>
.ite (decide (n2 < 5)) (
.bind 3 [.one (.int .i64)] (
.bind 4 [.one (.int .i64)] (
.loop 5 [.one (.int .i64)] (n1, ()) (u1 fun (n3 : Int) =>
.bind 6 [.one .bool] (
.tick <|
.ex [.adr] (c1 fun a4 => decide (n3 < b) = true → 0 ≤ n3 ∧ n3 < ((data.len : Nat) : Int) ∧ data.a = some a4) (u1 fun a5 =>
.read (decide (n3 < b) = true) (ld T.iso_Txn (Addr.add a5 (Int.toNat n3 * 4))) (sG [.int .i64, .int .i64, .int .i64, .int .i64]) (u4 fun (n6 : Int) (n7 : Int) (n8 : Int) (n9 : Int) =>
.ex [.adr] (c1 fun a10 => decide (n3 < b) = true → 0 ≤ IntKind.wrap .i64 (n3 - 1) ∧ IntKind.wrap .i64 (n3 - 1) < ((data.len : Nat) : Int) ∧ data.a = some a10) (u1 fun a11 =>
.read (decide (n3 < b) = true) (ld T.iso_Txn (Addr.add a11 (Int.toNat (IntKind.wrap .i64 (n3 - 1)) * 4))) (sG [.int .i64, .int .i64, .int .i64, .int .i64]) (u4 fun (n12 : Int) (n13 : Int) (n14 : Int) (n15 : Int) =>
.ite (decide (n3 < b)) (
.callv (cmp) [.agg #[.int .i64 n6, .int .i64 n7, .int .i64 n8, .int .i64 n9], .agg #[.int .i64 n12, .int .i64 n13, .int .i64 n14, .int .i64 n15]] (sI .i64) (u1 fun (n16 : Int) =>
.untick <|
.done 6 [.bool (not (decide (n16 < 0)))])) (
.untick <|
.done 6 [.bool false])))))) (u1 fun b17 =>
.ite (b17) (
.lt (.int .i64) (IntKind.wrap .i64 (n3 + 1)) fun (n18 : Int) =>
.done 5 [.int .i64 n18]) (
.done 4 [.int .i64 n3])))) (u1 fun (n19 : Int) =>
.ite (n19 == b) (
.done 0 [.bool true]) (
.ite (decide (IntKind.wrap .i64 (b - a) < 50)) (
.done 0 [.bool false]) (
.bind 4 [] (
.tick <|
.ex [.adr] (c1 fun a20 => 0 ≤ IntKind.wrap .i64 (n19 - 1) ∧ IntKind.wrap .i64 (n19 - 1) < ((data.len : Nat) : Int) ∧ data.a = some a20) (u1 fun a21 =>
.read True (ld T.iso_Txn (Addr.add a21 (Int.toNat (IntKind.wrap .i64 (n19 - 1)) * 4))) (sG [.int .i64, .int .i64, .int .i64, .int .i64]) (u4 fun (n22 : Int) (n23 : Int) (n24 : Int) (n25 : Int) =>
.ex [.adr] (c1 fun a26 => 0 ≤ n19 ∧ n19 < ((data.len : Nat) : Int) ∧ data.a = some a26) (u1 fun a27 =>
.read True (ld T.iso_Txn (Addr.add a27 (Int.toNat n19 * 4))) (sG [.int .i64, .int .i64, .int .i64, .int .i64]) (u4 fun (n28 : Int) (n29 : Int) (n30 : Int) (n31 : Int) =>
.ex [.adr] (c1 fun a32 => 0 ≤ n19 ∧ n19 < ((data.len : Nat) : Int) ∧ data.a = some a32) (u1 fun a33 =>
.actU (st T.iso_Txn (Addr.add a33 (Int.toNat n19 * 4)) (.agg #[.int .i64 n22, .int .i64 n23, .int .i64 n24, .int .i64 n25])) <|
.ex [.adr] (c1 fun a34 => 0 ≤ IntKind.wrap .i64 (n19 - 1) ∧ IntKind.wrap .i64 (n19 - 1) < ((data.len : Nat) : Int) ∧ data.a = some a34) (u1 fun a35 =>
.actU (st T.iso_Txn (Addr.add a35 (Int.toNat (IntKind.wrap .i64 (n19 - 1)) * 4)) (.agg #[.int .i64 n28, .int .i64 n29, .int .i64 n30, .int .i64 n31])) <|
.untick <|
.done 4 []))))))) (u0 <|
.bind 4 [] (
.ite (decide (IntKind.wrap .i64 (n19 - a) ≥ 2)) (
.lt (.int .i64) (IntKind.wrap .i64 (n19 - 1)) fun (n36 : Int) =>
.bind 5 [] (
.loop 6 [.one (.int .i64)] (n36, ()) (u1 fun (n37 : Int) =>
.ite (decide (n37 ≥ 1)) (
.tick <|
.ex [.adr] (c1 fun a38 => 0 ≤ n37 ∧ n37 < ((data.len : Nat) : Int) ∧ data.a = some a38) (u1 fun a39 =>
.read True (ld T.iso_Txn (Addr.add a39 (Int.toNat n37 * 4))) (sG [.int .i64, .int .i64, .int .i64, .int .i64]) (u4 fun (n40 : Int) (n41 : Int) (n42 : Int) (n43 : Int) =>
.ex [.adr] (c1 fun a44 => 0 ≤ IntKind.wrap .i64 (n37 - 1) ∧ IntKind.wrap .i64 (n37 - 1) < ((data.len : Nat) : Int) ∧ data.a = some a44) (u1 fun a45 =>
.read True (ld T.iso_Txn (Addr.add a45 (Int.toNat (IntKind.wrap .i64 (n37 - 1)) * 4))) (sG [.int .i64, .int .i64, .int .i64, .int .i64]) (u4 fun (n46 : Int) (n47 : Int) (n48 : Int) (n49 : Int) =>
.callv (cmp) [.agg #[.int .i64 n40, .int .i64 n41, .int .i64 n42, .int .i64 n43], .agg #[.int .i64 n46, .int .i64 n47, .int .i64 n48, .int .i64 n49]] (sI .i64) (u1 fun (n50 : Int) =>
.untick <|
.ite (not (decide (n50 < 0))) (
.done 5 []) (
.bind 7 [] (
.tick <|
.ex [.adr] (c1 fun a51 => 0 ≤ IntKind.wrap .i64 (n37 - 1) ∧ IntKind.wrap .i64 (n37 - 1) < ((data.len : Nat) : Int) ∧ data.a = some a51) (u1 fun a52 =>
.read True (ld T.iso_Txn (Addr.add a52 (Int.toNat (IntKind.wrap .i64 (n37 - 1)) * 4))) (sG [.int .i64, .int .i64, .int .i64, .int .i64]) (u4 fun (n53 : Int) (n54 : Int) (n55 : Int) (n56 : Int) =>
.ex [.adr] (c1 fun a57 => 0 ≤ n37 ∧ n37 < ((data.len : Nat) : Int) ∧ data.a = some a57) (u1 fun a58 =>
.read True (ld T.iso_Txn (Addr.add a58 (Int.toNat n37 * 4))) (sG [.int .i64, .int .i64, .int .i64, .int .i64]) (u4 fun (n59 : Int) (n60 : Int) (n61 : Int) (n62 : Int) =>
.ex [.adr] (c1 fun a63 => 0 ≤ n37 ∧ n37 < ((data.len : Nat) : Int) ∧ data.a = some a63) (u1 fun a64 =>
.actU (st T.iso_Txn (Addr.add a64 (Int.toNat n37 * 4)) (.agg #[.int .i64 n53, .int .i64 n54, .int .i64 n55, .int .i64 n56])) <|
.ex [.adr] (c1 fun a65 => 0 ≤ IntKind.wrap .i64 (n37 - 1) ∧ IntKind.wrap .i64 (n37 - 1) < ((data.len : Nat) : Int) ∧ data.a = some a65) (u1 fun a66 =>
.actU (st T.iso_Txn (Addr.add a66 (Int.toNat (IntKind.wrap .i64 (n37 - 1)) * 4)) (.agg #[.int .i64 n59, .int .i64 n60, .int .i64 n61, .int .i64 n62])) <|
.untick <|
.done 7 []))))))) (u0 <|
.lt (.int .i64) (IntKind.wrap .i64 (n37 - 1)) fun (n67 : Int) =>
.done 6 [.int .i64 n67])))))))) (
.done 5 []))) (u0 <|
.done 4 [])) (
.done 4 [])) (u0 <|
.bind 4 [] (
.ite (decide (IntKind.wrap .i64 (b - n19) ≥ 2)) (
.lt (.int .i64) (IntKind.wrap .i64 (n19 + 1)) fun (n68 : Int) =>
.bind 5 [] (
.loop 6 [.one (.int .i64)] (n68, ()) (u1 fun (n69 : Int) =>
.ite (decide (n69 < b)) (
.tick <|
.ex [.adr] (c1 fun a70 => 0 ≤ n69 ∧ n69 < ((data.len : Nat) : Int) ∧ data.a = some a70) (u1 fun a71 =>
.read True (ld T.iso_Txn (Addr.add a71 (Int.toNat n69 * 4))) (sG [.int .i64, .int .i64, .int .i64, .int .i64]) (u4 fun (n72 : Int) (n73 : Int) (n74 : Int) (n75 : Int) =>
.ex [.adr] (c1 fun a76 => 0 ≤ IntKind.wrap .i64 (n69 - 1) ∧ IntKind.wrap .i64 (n69 - 1) < ((data.len : Nat) : Int) ∧ data.a = some a76) (u1 fun a77 =>
.read True (ld T.iso_Txn (Addr.add a77 (Int.toNat (IntKind.wrap .i64 (n69 - 1)) * 4))) (sG [.int .i64, .int .i64, .int .i64, .int .i64]) (u4 fun (n78 : Int) (n79 : Int) (n80 : Int) (n81 : Int) =>
.callv (cmp) [.agg #[.int .i64 n72, .int .i64 n73, .int .i64 n74, .int .i64 n75], .agg #[.int .i64 n78, .int .i64 n79, .int .i64 n80, .int .i64 n81]] (sI .i64) (u1 fun (n82 : Int) =>
.untick <|
.ite (not (decide (n82 < 0))) (
.done 5 []) (
.bind 7 [] (
.tick <|
.ex [.adr] (c1 fun a83 => 0 ≤ IntKind.wrap .i64 (n69 - 1) ∧ IntKind.wrap .i64 (n69 - 1) < ((data.len : Nat) : Int) ∧ data.a = some a83) (u1 fun a84 =>
.read True (ld T.iso_Txn (Addr.add a84 (Int.toNat (IntKind.wrap .i64 (n69 - 1)) * 4))) (sG [.int .i64, .int .i64, .int .i64, .int .i64]) (u4 fun (n85 : Int) (n86 : Int) (n87 : Int) (n88 : Int) =>
.ex [.adr] (c1 fun a89 => 0 ≤ n69 ∧ n69 < ((data.len : Nat) : Int) ∧ data.a = some a89) (u1 fun a90 =>
.read True (ld T.iso_Txn (Addr.add a90 (Int.toNat n69 * 4))) (sG [.int .i64, .int .i64, .int .i64, .int .i64]) (u4 fun (n91 : Int) (n92 : Int) (n93 : Int) (n94 : Int) =>
.ex [.adr] (c1 fun a95 => 0 ≤ n69 ∧ n69 < ((data.len : Nat) : Int) ∧ data.a = some a95) (u1 fun a96 =>
.actU (st T.iso_Txn (Addr.add a96 (Int.toNat n69 * 4)) (.agg #[.int .i64 n85, .int .i64 n86, .int .i64 n87, .int .i64 n88])) <|
.ex [.adr] (c1 fun a97 => 0 ≤ IntKind.wrap .i64 (n69 - 1) ∧ IntKind.wrap .i64 (n69 - 1) < ((data.len : Nat) : Int) ∧ data.a = some a97) (u1 fun a98 =>
.actU (st T.iso_Txn (Addr.add a98 (Int.toNat (IntKind.wrap .i64 (n69 - 1)) * 4)) (.agg #[.int .i64 n91, .int .i64 n92, .int .i64 n93, .int .i64 n94])) <|
.untick <|
.done 7 []))))))) (u0 <|
.lt (.int .i64) (IntKind.wrap .i64 (n69 + 1)) fun (n99 : Int) =>
.done 6 [.int .i64 n99])))))))) (
.done 5 []))) (u0 <|
.done 4 [])) (
.done 4 [])) (u0 <|
.done 3 [.int .i64 n19]))))))) (u1 fun (n100 : Int) =>
.lt (.int .i64) (IntKind.wrap .i64 (n2 + 1)) fun (n101 : Int) =>
.done 2 [.int .i64 n100, .int .i64 n101])) (
.done 1 []))) (u0 <|
.done 0 [.bool false])
theorem slices_partialInsertionSortCmpFunc_iso_Txn_eq (data : Sl) (a : Int) (b : Int) (cmp : Value) : decomp P 141 ⟨okFs, []⟩ { cnd := [(10384593716767423802157335373152321, []), (11417981541481525548993173271482985208543707240, [])], blk := [(0, []), (1, [(9, .one (.int .i64))]), (2, [(9, .one (.int .i64))]), (4, []), (6, [])], reg := [(5, [(36, .one .bool)]), (11, []), (17, []), (23, [])], lps := [(0, [(9, .one (.int .i64)), (10, .one (.int .i64))]), (2, [(9, .one (.int .i64))]), (4, [(11, .one (.int .i64))]), (6, [(12, .one (.int .i64))])] } [.tmp 8] (bodyOf Go.Proofs.Tryz.f93) [.val (.slice data.a data.len data.cap), .val (.int .i64 a), .val (.int .i64 b), .any cmp] = slices_partialInsertionSortCmpFunc_iso_Txn data a b cmp := by kernel_rfl
theorem slices_partialInsertionSortCmpFunc_iso_Txn_calls (data : Sl) (a : Int) (b : Int) (cmp : Value) {w : World} {R : List Value → World → Prop} (h : (slices_partialInsertionSortCmpFunc_iso_Txn data a b cmp).wp P (fun _ => True) w fun e vs w' => e = 0 ∧ R vs w') :
    Calls P F.slices_partialInsertionSortCmpFunc_iso_Txn #[.slice data.a data.len data.cap, .int .i64 a, .int .i64 b, cmp] w fun e w' => ∃ vs, e = .returned (pack vs) ∧ R vs w' :=
  decomp_sound (isFn_of Go.Proofs.Tryz.func93 (by kernel_rfl) (by kernel_rfl) (by kernel_rfl)) okFs_ok mix [.val (.slice data.a data.len data.cap), .val (.int .i64 a), .val (.int .i64 b), .any cmp] (by rw [slices_partialInsertionSortCmpFunc_iso_Txn_eq]; exact h)

def slices_partitionEqualCmpFunc_iso_Txn (data : Sl) (a : Int) (b : Int) (pivot : Int) (cmp : Value) : Prog :=
.bind 1 [] (
.tick <|
.ex [.adr] (c1 fun a0 => 0 ≤ pivot ∧ pivot < ((data.len : Nat) : Int) ∧ data.a = some a0) (u1 fun a1 =>
.read True (ld T.iso_Txn (Addr.add a1 (Int.toNat pivot * 4))) (sG [.int .i64, .int .i64, .int .i64, .int .i64]) (u4 fun (n2 : Int) (n3 : Int) (n4 : Int) (n5 : Int) =>
.ex [.adr] (c1 fun a6 => 0 ≤ a ∧ a < ((data.len : Nat) : Int) ∧ data.a = some a6) (u1 fun a7 =>
.read True (ld T.iso_Txn (Addr.add a7 (Int.toNat a * 4))) (sG [.int .i64, .int .i64, .int .i64, .int .i64]) (u4 fun (n8 : Int) (n9 : Int) (n10 : Int) (n11 : Int) =>
.ex [.adr] (c1 fun a12 => 0 ≤ a ∧ a < ((data.len : Nat) : Int) ∧ data.a = some a12) (u1 fun a13 =>
.actU (st T.iso_Txn (Addr.add a13 (Int.toNat a * 4)) (.agg #[.int .i64 n2, .int .i64 n3, .int .i64 n4, .int .i64 n5])) <|
.ex [.adr] (c1 fun a14 => 0 ≤ pivot ∧ pivot < ((data.len : Nat) : Int) ∧ data.a = some a14) (u1 fun a15 =>
.actU (st T.iso_Txn (Addr.add a15 (Int.toNat pivot * 4)) (.agg #[.int .i64 n8, .int .i64 n9, .int .i64 n10, .int .i64 n11])) <|
.untick <|
.done 1 []))))))) (u0 <|
.lt (.int .i64) (IntKind.wrap .i64 (a + 1)) fun (n16 : Int) =>
.lt (.int .i64) (IntKind.wrap .i64 (b - 1)) fun (n17 : Int) =>
.bind 1 [.one (.int .i64)] (
.loop 2 [.one (.int .i64), .one (.int .i64)] (n16, (n17, ())) (u2 fun (n18 : Int) (n19 : Int) =>
.bind 3 [.one (.int .i64), .one (.int .i64)] (
.bind 4 [.one (.int .i64)] (
.loop 5 [.one (.int .i64)] (n18, ()) (u1 fun (n20 : Int) =>
.bind 6 [.one .bool] (
.tick <|
.ex [.adr] (c1 fun a21 => decide (n20 ≤ n19) = true → 0 ≤ a ∧ a < ((data.len : Nat) : Int) ∧ data.a = some a21) (u1 fun a22 =>
.read (decide (n20 ≤ n19) = true) (ld T.iso_Txn (Addr.add a22 (Int.toNat a * 4))) (sG [.int .i64, .int .i64, .int .i64, .int .i64]) (u4 fun (n23 : Int) (n24 : Int) (n25 : Int) (n26 : Int) =>
.ex [.adr] (c1 fun a27 => decide (n20 ≤ n19) = true → 0 ≤ n20 ∧ n20 < ((data.len : Nat) : Int) ∧ data.a = some a27) (u1 fun a28 =>
.read (decide (n20 ≤ n19) = true) (ld T.iso_Txn (Addr.add a28 (Int.toNat n20 * 4))) (sG [.int .i64, .int .i64, .int .i64, .int .i64]) (u4 fun (n29 : Int) (n30 : Int) (n31 : Int) (n32 : Int) =>
.ite (decide (n20 ≤ n19)) (
.callv (cmp) [.agg #[.int .i64 n23, .int .i64 n24, .int .i64 n25, .int .i64 n26], .agg #[.int .i64 n29, .int .i64 n30, .int .i64 n31, .int .i64 n32]] (sI .i64) (u1 fun (n33 : Int) =>
.untick <|
.done 6 [.bool (not (decide (n33 < 0)))])) (
.untick <|
.done 6 [.bool false])))))) (u1 fun b34 =>
.ite (b34) (
.lt (.int .i64) (IntKind.wrap .i64 (n20 + 1)) fun (n35 : Int) =>
.done 5 [.int .i64 n35]) (
.done 4 [.int .i64 n20])))) (u1 fun (n36 : Int) =>
.bind 4 [.one (.int .i64)] (
.loop 5 [.one (.int .i64)] (n19, ()) (u1 fun (n37 : Int) =>
.bind 6 [.one .bool] (
.tick <|
.ex [.adr] (c1 fun a38 => decide (n36 ≤ n37) = true → 0 ≤ a ∧ a < ((data.len : Nat) : Int) ∧ data.a = some a38) (u1 fun a39 =>
.read (decide (n36 ≤ n37) = true) (ld T.iso_Txn (Addr.add a39 (Int.toNat a * 4))) (sG [.int .i64, .int .i64, .int .i64, .int .i64]) (u4 fun (n40 : Int) (n41 : Int) (n42 : Int) (n43 : Int) =>
.ex [.adr] (c1 fun a44 => decide (n36 ≤ n37) = true → 0 ≤ n37 ∧ n37 < ((data.len : Nat) : Int) ∧ data.a = some a44) (u1 fun a45 =>
.read (decide (n36 ≤ n37) = true) (ld T.iso_Txn (Addr.add a45 (Int.toNat n37 * 4))) (sG [.int .i64, .int .i64, .int .i64, .int .i64]) (u4 fun (n46 : Int) (n47 : Int) (n48 : Int) (n49 : Int) =>
.ite (decide (n36 ≤ n37)) (
.callv (cmp) [.agg #[.int .i64 n40, .int .i64 n41, .int .i64 n42, .int .i64 n43], .agg #[.int .i64 n46, .int .i64 n47, .int .i64 n48, .int .i64 n49]] (sI .i64) (u1 fun (n50 : Int) =>
.untick <|
.done 6 [.bool (decide (n50 < 0))])) (
.untick <|
.done 6 [.bool false])))))) (u1 fun b51 =>
.ite (b51) (
.lt (.int .i64) (IntKind.wrap .i64 (n37 - 1)) fun (n52 : Int) =>
.done 5 [.int .i64 n52]) (
.done 4 [.int .i64 n37])))) (u1 fun (n53 : Int) =>
.ite (decide (n36 > n53)) (
.done 1 [.int .i64 n36]) (
.bind 4 [] (
.tick <|
.ex [.adr] (c1 fun a54 => 0 ≤ n53 ∧ n53 < ((data.len : Nat) : Int) ∧ data.a = some a54) (u1 fun a55 =>
.read True (ld T.iso_Txn (Addr.add a55 (Int.toNat n53 * 4))) (sG [.int .i64, .int .i64, .int .i64, .int .i64]) (u4 fun (n56 : Int) (n57 : Int) (n58 : Int) (n59 : Int) =>
.ex [.adr] (c1 fun a60 => 0 ≤ n36 ∧ n36 < ((data.len : Nat) : Int) ∧ data.a = some a60) (u1 fun a61 =>
.read True (ld T.iso_Txn (Addr.add a61 (Int.toNat n36 * 4))) (sG [.int .i64, .int .i64, .int .i64, .int .i64]) (u4 fun (n62 : Int) (n63 : Int) (n64 : Int) (n65 : Int) =>
.ex [.adr] (c1 fun a66 => 0 ≤ n36 ∧ n36 < ((data.len : Nat) : Int) ∧ data.a = some a66) (u1 fun a67 =>
.actU (st T.iso_Txn (Addr.add a67 (Int.toNat n36 * 4)) (.agg #[.int .i64 n56, .int .i64 n57, .int .i64 n58, .int .i64 n59])) <|
.ex [.adr] (c1 fun a68 => 0 ≤ n53 ∧ n53 < ((data.len : Nat) : Int) ∧ data.a = some a68) (u1 fun a69 =>
.actU (st T.iso_Txn (Addr.add a69 (Int.toNat n53 * 4)) (.agg #[.int .i64 n62, .int .i64 n63, .int .i64 n64, .int .i64 n65])) <|
.untick <|
.done 4 []))))))) (u0 <|
.lt (.int .i64) (IntKind.wrap .i64 (n36 + 1)) fun (n70 : Int) =>
.lt (.int .i64) (IntKind.wrap .i64 (n53 - 1)) fun (n71 : Int) =>
.done 3 [.int .i64 n70, .int .i64 n71]))))) (u2 fun (n72 : Int) (n73 : Int) =>
.done 2 [.int .i64 n72, .int .i64 n73]))) (u1 fun (n74 : Int) =>
.lt (.int .i64) (n74) fun (n75 : Int) =>
.done 0 [.int .i64 n75]))
theorem slices_partitionEqualCmpFunc_iso_Txn_eq (data : Sl) (a : Int) (b : Int) (pivot : Int) (cmp : Value) : decomp P 90 ⟨okFs, []⟩ { cnd := [], blk := [(0, [(11, .one (.int .i64))]), (1, [(11, .one (.int .i64)), (12, .one (.int .i64))]), (2, [(11, .one (.int .i64))]), (4, [(12, .one (.int .i64))])], reg := [(1, []), (3, [(47, .one .bool)]), (5, [(65, .one .bool)]), (8, [])], lps := [(0, [(11, .one (.int .i64)), (12, .one (.int .i64))]), (2, [(11, .one (.int .i64))]), (4, [(12, .one (.int .i64))])] } [.tmp 10] (bodyOf Go.Proofs.Tryz.f94) [.val (.slice data.a data.len data.cap), .val (.int .i64 a), .val (.int .i64 b), .val (.int .i64 pivot), .any cmp] = slices_partitionEqualCmpFunc_iso_Txn data a b pivot cmp := by kernel_rfl
theorem slices_partitionEqualCmpFunc_iso_Txn_calls (data : Sl) (a : Int) (b : Int) (pivot : Int) (cmp : Value) {w : World} {R : List Value → World → Prop} (h : (slices_partitionEqualCmpFunc_iso_Txn data a b pivot cmp).wp P (fun _ => True) w fun e vs w' => e = 0 ∧ R vs w') :
    Calls P F.slices_partitionEqualCmpFunc_iso_Txn #[.slice data.a data.len data.cap, .int .i64 a, .int .i64 b, .int .i64 pivot, cmp] w fun e w' => ∃ vs, e = .returned (pack vs) ∧ R vs w' :=
  decomp_sound (isFn_of Go.Proofs.Tryz.func94 (by kernel_rfl) (by kernel_rfl) (by kernel_rfl)) okFs_ok mix [.val (.slice data.a data.len data.cap), .val (.int .i64 a), .val (.int .i64 b), .val (.int .i64 pivot), .any cmp] (by rw [slices_partitionEqualCmpFunc_iso_Txn_eq]; exact h)

def slices_partitionCmpFunc_iso_Txn (data : Sl) (a : Int) (b : Int) (pivot : Int) (cmp : Value) : Prog :=
.bind 1 [] (
.tick <|
.ex [.adr] (c1 fun a0 => 0 ≤ pivot ∧ pivot < ((data.len : Nat) : Int) ∧ data.a = some a0) (u1 fun a1 =>
.read True (ld T.iso_Txn (Addr.add a1 (Int.toNat pivot * 4))) (sG [.int .i64, .int .i64, .int .i64, .int .i64]) (u4 fun (n2 : Int) (n3 : Int) (n4 : Int) (n5 : Int) =>
.ex [.adr] (c1 fun a6 => 0 ≤ a ∧ a < ((data.len : Nat) : Int) ∧ data.a = some a6) (u1 fun a7 =>
.read True (ld T.iso_Txn (Addr.add a7 (Int.toNat a * 4))) (sG [.int .i64, .int .i64, .int .i64, .int .i64]) (u4 fun (n8 : Int) (n9 : Int) (n10 : Int) (n11 : Int) =>
.ex [.adr] (c1 fun a12 => 0 ≤ a ∧ a < ((data.len : Nat) : Int) ∧ data.a = some a12) (u1 fun a13 =>
.actU (st T.iso_Txn (Addr.add a13 (Int.toNat a * 4)) (.agg #[.int .i64 n2, .int .i64 n3, .int .i64 n4, .int .i64 n5])) <|
.ex [.adr] (c1 fun a14 => 0 ≤ pivot ∧ pivot < ((data.len : Nat) : Int) ∧ data.a = some a14) (u1 fun a15 =>
.actU (st T.iso_Txn (Addr.add a15 (Int.toNat pivot * 4)) (.agg #[.int .i64 n8, .int .i64 n9, .int .i64 n10, .int .i64 n11])) <|
.untick <|
.done 1 []))))))) (u0 <|
.lt (.int .i64) (IntKind.wrap .i64 (a + 1)) fun (n16 : Int) =>
.lt (.int .i64) (IntKind.wrap .i64 (b - 1)) fun (n17 : Int) =>
.bind 1 [.one (.int .i64)] (
.loop 2 [.one (.int .i64)] (n16, ()) (u1 fun (n18 : Int) =>
.bind 3 [.one .bool] (
.tick <|
.ex [.adr] (c1 fun a19 => decide (n18 ≤ n17) = true → 0 ≤ n18 ∧ n18 < ((data.len : Nat) : Int) ∧ data.a = some a19) (u1 fun a20 =>
.read (decide (n18 ≤ n17) = true) (ld T.iso_Txn (Addr.add a20 (Int.toNat n18 * 4))) (sG [.int .i64, .int .i64, .int .i64, .int .i64]) (u4 fun (n21 : Int) (n22 : Int) (n23 : Int) (n24 : Int) =>
.ex [.adr] (c1 fun a25 => decide (n18 ≤ n17) = true → 0 ≤ a ∧ a < ((data.len : Nat) : Int) ∧ data.a = some a25) (u1 fun a26 =>
.read (decide (n18 ≤ n17) = true) (ld T.iso_Txn (Addr.add a26 (Int.toNat a * 4))) (sG [.int .i64, .int .i64, .int .i64, .int .i64]) (u4 fun (n27 : Int) (n28 : Int) (n29 : Int) (n30 : Int) =>
.ite (decide (n18 ≤ n17)) (
.callv (cmp) [.agg #[.int .i64 n21, .int .i64 n22, .int .i64 n23, .int .i64 n24], .agg #[.int .i64 n27, .int .i64 n28, .int .i64 n29, .int .i64 n30]] (sI .i64) (u1 fun (n31 : Int) =>
.untick <|
.done 3 [.bool (decide (n31 < 0))])) (
.untick <|
.done 3 [.bool false])))))) (u1 fun b32 =>
.ite (b32) (
.lt (.int .i64) (IntKind.wrap .i64 (n18 + 1)) fun (n33 : Int) =>
.done 2 [.int .i64 n33]) (
.done 1 [.int .i64 n18])))) (u1 fun (n34 : Int) =>
.bind 1 [.one (.int .i64)] (
.loop 2 [.one (.int .i64)] (n17, ()) (u1 fun (n35 : Int) =>
.bind 3 [.one .bool] (
.tick <|
.ex [.adr] (c1 fun a36 => decide (n34 ≤ n35) = true → 0 ≤ n35 ∧ n35 < ((data.len : Nat) : Int) ∧ data.a = some a36) (u1 fun a37 =>
.read (decide (n34 ≤ n35) = true) (ld T.iso_Txn (Addr.add a37 (Int.toNat n35 * 4))) (sG [.int .i64, .int .i64, .int .i64, .int .i64]) (u4 fun (n38 : Int) (n39 : Int) (n40 : Int) (n41 : Int) =>
.ex [.adr] (c1 fun a42 => decide (n34 ≤ n35) = true → 0 ≤ a ∧ a < ((data.len : Nat) : Int) ∧ data.a = some a42) (u1 fun a43 =>
.read (decide (n34 ≤ n35) = true) (ld T.iso_Txn (Addr.add a43 (Int.toNat a * 4))) (sG [.int .i64, .int .i64, .int .i64, .int .i64]) (u4 fun (n44 : Int) (n45 : Int) (n46 : Int) (n47 : Int) =>
.ite (decide (n34 ≤ n35)) (
.callv (cmp) [.agg #[.int .i64 n38, .int .i64 n39, .int .i64 n40, .int .i64 n41], .agg #[.int .i64 n44, .int .i64 n45, .int .i64 n46, .int .i64 n47]] (sI .i64) (u1 fun (n48 : Int) =>
.untick <|
.done 3 [.bool (not (decide (n48 < 0)))])) (
.untick <|
.done 3 [.bool false])))))) (u1 fun b49 =>
.ite (b49) (
.lt (.int .i64) (IntKind.wrap .i64 (n35 - 1)) fun (n50 : Int) =>
.done 2 [.int .i64 n50]) (
.done 1 [.int .i64 n35])))) (u1 fun (n51 : Int) =>
.ite (decide (n34 > n51)) (
.bind 1 [] (
.tick <|
.ex [.adr] (c1 fun a52 => 0 ≤ a ∧ a < ((data.len : Nat) : Int) ∧ data.a = some a52) (u1 fun a53 =>
.read True (ld T.iso_Txn (Addr.add a53 (Int.toNat a * 4))) (sG [.int .i64, .int .i64, .int .i64, .int .i64]) (u4 fun (n54 : Int) (n55 : Int) (n56 : Int) (n57 : Int) =>
.ex [.adr] (c1 fun a58 => 0 ≤ n51 ∧ n51 < ((data.len : Nat) : Int) ∧ data.a = some a58) (u1 fun a59 =>
.read True (ld T.iso_Txn (Addr.add a59 (Int.toNat n51 * 4))) (sG [.int .i64, .int .i64, .int .i64, .int .i64]) (u4 fun (n60 : Int) (n61 : Int) (n62 : Int) (n63 : Int) =>
.ex [.adr] (c1 fun a64 => 0 ≤ n51 ∧ n51 < ((data.len : Nat) : Int) ∧ data.a = some a64) (u1 fun a65 =>
.actU (st T.iso_Txn (Addr.add a65 (Int.toNat n51 * 4)) (.agg #[.int .i64 n54, .int .i64 n55, .int .i64 n56, .int .i64 n57])) <|
.ex [.adr] (c1 fun a66 => 0 ≤ a ∧ a < ((data.len : Nat) : Int) ∧ data.a = some a66) (u1 fun a67 =>
.actU (st T.iso_Txn (Addr.add a67 (Int.toNat a * 4)) (.agg #[.int .i64 n60, .int .i64 n61, .int .i64 n62, .int .i64 n63])) <|
.untick <|
.done 1 []))))))) (u0 <|
.lt (.int .i64) (n51) fun (n68 : Int) =>
.done 0 [.int .i64 n68, .bool true])) (
.bind 1 [] (
.tick <|
.ex [.adr] (c1 fun a69 => 0 ≤ n51 ∧ n51 < ((data.len : Nat) : Int) ∧ data.a = some a69) (u1 fun a70 =>
.read True (ld T.iso_Txn (Addr.add a70 (Int.toNat n51 * 4))) (sG [.int .i64, .int .i64, .int .i64, .int .i64]) (u4 fun (n71 : Int) (n72 : Int) (n73 : Int) (n74 : Int) =>
.ex [.adr] (c1 fun a75 => 0 ≤ n34 ∧ n34 < ((data.len : Nat) : Int) ∧ data.a = some a75) (u1 fun a76 =>
.read True (ld T.iso_Txn (Addr.add a76 (Int.toNat n34 * 4))) (sG [.int .i64, .int .i64, .int .i64, .int .i64]) (u4 fun (n77 : Int) (n78 : Int) (n79 : Int) (n80 : Int) =>
.ex [.adr] (c1 fun a81 => 0 ≤ n34 ∧ n34 < ((data.len : Nat) : Int) ∧ data.a = some a81) (u1 fun a82 =>
.actU (st T.iso_Txn (Addr.add a82 (Int.toNat n34 * 4)) (.agg #[.int .i64 n71, .int .i64 n72, .int .i64 n73, .int .i64 n74])) <|
.ex [.adr] (c1 fun a83 => 0 ≤ n51 ∧ n51 < ((data.len : Nat) : Int) ∧ data.a = some a83) (u1 fun a84 =>
.actU (st T.iso_Txn (Addr.add a84 (Int.toNat n51 * 4)) (.agg #[.int .i64 n77, .int .i64 n78, .int .i64 n79, .int .i64 n80])) <|
.untick <|
.done 1 []))))))) (u0 <|
.lt (.int .i64) (IntKind.wrap .i64 (n34 + 1)) fun (n85 : Int) =>
.lt (.int .i64) (IntKind.wrap .i64 (n51 - 1)) fun (n86 : Int) =>
.bind 1 [.one (.int .i64)] (
.loop 2 [.one (.int .i64), .one (.int .i64)] (n85, (n86, ())) (u2 fun (n87 : Int) (n88 : Int) =>
.bind 3 [.one (.int .i64), .one (.int .i64)] (
.bind 4 [.one (.int .i64)] (
.loop 5 [.one (.int .i64)] (n87, ()) (u1 fun (n89 : Int) =>
.bind 6 [.one .bool] (
.tick <|
.ex [.adr] (c1 fun a90 => decide (n89 ≤ n88) = true → 0 ≤ n89 ∧ n89 < ((data.len : Nat) : Int) ∧ data.a = some a90) (u1 fun a91 =>
.read (decide (n89 ≤ n88) = true) (ld T.iso_Txn (Addr.add a91 (Int.toNat n89 * 4))) (sG [.int .i64, .int .i64, .int .i64, .int .i64]) (u4 fun (n92 : Int) (n93 : Int) (n94 : Int) (n95 : Int) =>
.ex [.adr] (c1 fun a96 => decide (n89 ≤ n88) = true → 0 ≤ a ∧ a < ((data.len : Nat) : Int) ∧ data.a = some a96) (u1 fun a97 =>
.read (decide (n89 ≤ n88) = true) (ld T.iso_Txn (Addr.add a97 (Int.toNat a * 4))) (sG [.int .i64, .int .i64, .int .i64, .int .i64]) (u4 fun (n98 : Int) (n99 : Int) (n100 : Int) (n101 : Int) =>
.ite (decide (n89 ≤ n88)) (
.callv (cmp) [.agg #[.int .i64 n92, .int .i64 n93, .int .i64 n94, .int .i64 n95], .agg #[.int .i64 n98, .int .i64 n99, .int .i64 n100, .int .i64 n101]] (sI .i64) (u1 fun (n102 : Int) =>
.untick <|
.done 6 [.bool (decide (n102 < 0))])) (
.untick <|
.done 6 [.bool false])))))) (u1 fun b103 =>
.ite (b103) (
.lt (.int .i64) (IntKind.wrap .i64 (n89 + 1)) fun (n104 : Int) =>
.done 5 [.int .i64 n104]) (
.done 4 [.int .i64 n89])))) (u1 fun (n105 : Int) =>
.bind 4 [.one (.int .i64)] (
.loop 5 [.one (.int .i64)] (n88, ()) (u1 fun (n106 : Int) =>
.bind 6 [.one .bool] (
.tick <|
.ex [.adr] (c1 fun a107 => decide (n105 ≤ n106) = true → 0 ≤ n106 ∧ n106 < ((data.len : Nat) : Int) ∧ data.a = some a107) (u1 fun a108 =>
.read (decide (n105 ≤ n106) = true) (ld T.iso_Txn (Addr.add a108 (Int.toNat n106 * 4))) (sG [.int .i64, .int .i64, .int .i64, .int .i64]) (u4 fun (n109 : Int) (n110 : Int) (n111 : Int) (n112 : Int) =>
.ex [.adr] (c1 fun a113 => decide (n105 ≤ n106) = true → 0 ≤ a ∧ a < ((data.len : Nat) : Int) ∧ data.a = some a113) (u1 fun a114 =>
.read (decide (n105 ≤ n106) = true) (ld T.iso_Txn (Addr.add a114 (Int.toNat a * 4))) (sG [.int .i64, .int .i64, .int .i64, .int .i64]) (u4 fun (n115 : Int) (n116 : Int) (n117 : Int) (n118 : Int) =>
.ite (decide (n105 ≤ n106)) (
.callv (cmp) [.agg #[.int .i64 n109, .int .i64 n110, .int .i64 n111, .int .i64 n112], .agg #[.int .i64 n115, .int .i64 n116, .int .i64 n117, .int .i64 n118]] (sI .i64) (u1 fun (n119 : Int) =>
.untick <|
.done 6 [.bool (not (decide (n119 < 0)))])) (
.untick <|
.done 6 [.bool false])))))) (u1 fun b120 =>
.ite (b120) (
.lt (.int .i64) (IntKind.wrap .i64 (n106 - 1)) fun (n121 : Int) =>
.done 5 [.int .i64 n121]) (
.done 4 [.int .i64 n106])))) (u1 fun (n122 : Int) =>
.ite (decide (n105 > n122)) (
.done 1 [.int .i64 n122]) (
.bind 4 [] (
.tick <|
.ex [.adr] (c1 fun a123 => 0 ≤ n122 ∧ n122 < ((data.len : Nat) : Int) ∧ data.a = some a123) (u1 fun a124 =>
.read True (ld T.iso_Txn (Addr.add a124 (Int.toNat n122 * 4))) (sG [.int .i64, .int .i64, .int .i64, .int .i64]) (u4 fun (n125 : Int) (n126 : Int) (n127 : Int) (n128 : Int) =>
.ex [.adr] (c1 fun a129 => 0 ≤ n105 ∧ n105 < ((data.len : Nat) : Int) ∧ data.a = some a129) (u1 fun a130 =>
.read True (ld T.iso_Txn (Addr.add a130 (Int.toNat n105 * 4))) (sG [.int .i64, .int .i64, .int .i64, .int .i64]) (u4 fun (n131 : Int) (n132 : Int) (n133 : Int) (n134 : Int) =>
.ex [.adr] (c1 fun a135 => 0 ≤ n105 ∧ n105 < ((data.len : Nat) : Int) ∧ data.a = some a135) (u1 fun a136 =>
.actU (st T.iso_Txn (Addr.add a136 (Int.toNat n105 * 4)) (.agg #[.int .i64 n125, .int .i64 n126, .int .i64 n127, .int .i64 n128])) <|
.ex [.adr] (c1 fun a137 => 0 ≤ n122 ∧ n122 < ((data.len : Nat) : Int) ∧ data.a = some a137) (u1 fun a138 =>
.actU (st T.iso_Txn (Addr.add a138 (Int.toNat n122 * 4)) (.agg #[.int .i64 n131, .int .i64 n132, .int .i64 n133, .int .i64 n134])) <|
.untick <|
.done 4 []))))))) (u0 <|
.lt (.int .i64) (IntKind.wrap .i64 (n105 + 1)) fun (n139 : Int) =>
.lt (.int .i64) (IntKind.wrap .i64 (n122 - 1)) fun (n140 : Int) =>
.done 3 [.int .i64 n139, .int .i64 n140]))))) (u2 fun (n141 : Int) (n142 : Int) =>
.done 2 [.int .i64 n141, .int .i64 n142]))) (u1 fun (n143 : Int) =>
.bind 1 [] (
.tick <|
.ex [.adr] (c1 fun a144 => 0 ≤ a ∧ a < ((data.len : Nat) : Int) ∧ data.a = some a144) (u1 fun a145 =>
.read True (ld T.iso_Txn (Addr.add a145 (Int.toNat a * 4))) (sG [.int .i64, .int .i64, .int .i64, .int .i64]) (u4 fun (n146 : Int) (n147 : Int) (n148 : Int) (n149 : Int) =>
.ex [.adr] (c1 fun a150 => 0 ≤ n143 ∧ n143 < ((data.len : Nat) : Int) ∧ data.a = some a150) (u1 fun a151 =>
.read True (ld T.iso_Txn (Addr.add a151 (Int.toNat n143 * 4))) (sG [.int .i64, .int .i64, .int .i64, .int .i64]) (u4 fun (n152 : Int) (n153 : Int) (n154 : Int) (n155 : Int) =>
.ex [.adr] (c1 fun a156 => 0 ≤ n143 ∧ n143 < ((data.len : Nat) : Int) ∧ data.a = some a156) (u1 fun a157 =>
.actU (st T.iso_Txn (Addr.add a157 (Int.toNat n143 * 4)) (.agg #[.int .i64 n146, .int .i64 n147, .int .i64 n148, .int .i64 n149])) <|
.ex [.adr] (c1 fun a158 => 0 ≤ a ∧ a < ((data.len : Nat) : Int) ∧ data.a = some a158) (u1 fun a159 =>
.actU (st T.iso_Txn (Addr.add a159 (Int.toNat a * 4)) (.agg #[.int .i64 n152, .int .i64 n153, .int .i64 n154, .int .i64 n155])) <|
.untick <|
.done 1 []))))))) (u0 <|
.lt (.int .i64) (n143) fun (n160 : Int) =>
.done 0 [.int .i64 n160, .bool false])))))))
theorem slices_partitionCmpFunc_iso_Txn_eq (data : Sl) (a : Int) (b : Int) (pivot : Int) (cmp : Value) : decomp P 178 ⟨okFs, []⟩ { cnd := [], blk := [(0, [(12, .one (.int .i64))]), (2, [(13, .one (.int .i64))]), (4, [(13, .one (.int .i64))]), (5, [(12, .one (.int .i64)), (13, .one (.int .i64))]), (6, [(12, .one (.int .i64))]), (8, [(13, .one (.int .i64))])], reg := [(1, []), (3, [(47, .one .bool)]), (5, [(66, .one .bool)]), (8, []), (10, []), (13, [(120, .one .bool)]), (15, [(139, .one .bool)]), (18, []), (21, [])], lps := [(0, [(12, .one (.int .i64))]), (2, [(13, .one (.int .i64))]), (4, [(12, .one (.int .i64)), (13, .one (.int .i64))]), (6, [(12, .one (.int .i64))]), (8, [(13, .one (.int .i64))])] } [.tmp 10, .tmp 11] (bodyOf Go.Proofs.Tryz.f95) [.val (.slice data.a data.len data.cap), .val (.int .i64 a), .val (.int .i64 b), .val (.int .i64 pivot), .any cmp] = slices_partitionCmpFunc_iso_Txn data a b pivot cmp := by kernel_rfl
theorem slices_partitionCmpFunc_iso_Txn_calls (data : Sl) (a : Int) (b : Int) (pivot : Int) (cmp : Value) {w : World} {R : List Value → World → Prop} (h : (slices_partitionCmpFunc_iso_Txn data a b pivot cmp).wp P (fun _ => True) w fun e vs w' => e = 0 ∧ R vs w') :
    Calls P F.slices_partitionCmpFunc_iso_Txn #[.slice data.a data.len data.cap, .int .i64 a, .int .i64 b, .int .i64 pivot, cmp] w fun e w' => ∃ vs, e = .returned (pack vs) ∧ R vs w' :=
  decomp_sound (isFn_of Go.Proofs.Tryz.func95 (by kernel_rfl) (by kernel_rfl) (by kernel_rfl)) okFs_ok mix [.val (.slice data.a data.len data.cap), .val (.int .i64 a), .val (.int .i64 b), .val (.int .i64 pivot), .any cmp] (by rw [slices_partitionCmpFunc_iso_Txn_eq]; exact h)

def math_bits_Len32 (x : Int) : Prog :=
.bind 1 [.one (.int .u32), .one (.int .i64)] (
.ite (decide (x ≥ 65536)) (
.lt (.int .u32) (Int.fdiv x 65536) fun (n0 : Int) =>
.done 1 [.int .u32 n0, .int .i64 16]) (
.done 1 [.int .u32 x, .int .i64 0])) (u2 fun (n1 : Int) (n2 : Int) =>
.bind 1 [.one (.int .u32), .one (.int .i64)] (
.ite (decide (n1 ≥ 256)) (
.lt (.int .u32) (Int.fdiv n1 256) fun (n3 : Int) =>
.lt (.int .i64) (IntKind.wrap .i64 (n2 + 8)) fun (n4 : Int) =>
.done 1 [.int .u32 n3, .int .i64 n4]) (
.done 1 [.int .u32 n1, .int .i64 n2])) (u2 fun (n5 : Int) (n6 : Int) =>
.must (0 ≤ IntKind.wrap .u8 n5 ∧ IntKind.wrap .u8 n5 < 256) <|
.lt (.int .i64) (IntKind.wrap .i64 (n6 + IntKind.wrap .i64 (bt (ByteArray.mk #[0, 1, 2, 2, 3, 3, 3, 3, 4, 4, 4, 4, 4, 4, 4, 4, 5, 5, 5, 5, 5, 5, 5, 5, 5, 5, 5, 5, 5, 5, 5, 5, 6, 6, 6, 6, 6, 6, 6, 6, 6, 6, 6, 6, 6, 6, 6, 6, 6, 6, 6, 6, 6, 6, 6, 6, 6, 6, 6, 6, 6, 6, 6, 6, 7, 7, 7, 7, 7, 7, 7, 7, 7, 7, 7, 7, 7, 7, 7, 7, 7, 7, 7, 7, 7, 7, 7, 7, 7, 7, 7, 7, 7, 7, 7, 7, 7, 7, 7, 7, 7, 7, 7, 7, 7, 7, 7, 7, 7, 7, 7, 7, 7, 7, 7, 7, 7, 7, 7, 7, 7, 7, 7, 7, 7, 7, 7, 7, 8, 8, 8, 8, 8, 8, 8, 8, 8, 8, 8, 8, 8, 8, 8, 8, 8, 8, 8, 8, 8, 8, 8, 8, 8, 8, 8, 8, 8, 8, 8, 8, 8, 8, 8, 8, 8, 8, 8, 8, 8, 8, 8, 8, 8, 8, 8, 8, 8, 8, 8, 8, 8, 8, 8, 8, 8, 8, 8, 8, 8, 8, 8, 8, 8, 8, 8, 8, 8, 8, 8, 8, 8, 8, 8, 8, 8, 8, 8, 8, 8, 8, 8, 8, 8, 8, 8, 8, 8, 8, 8, 8, 8, 8, 8, 8, 8, 8, 8, 8, 8, 8, 8, 8, 8, 8, 8, 8, 8, 8, 8, 8, 8, 8, 8, 8, 8, 8, 8, 8, 8, 8, 8, 8, 8, 8, 8, 8]) (IntKind.wrap .u8 n5)))) fun (n7 : Int) =>
.done 0 [.int .i64 n7]))
theorem math_bits_Len32_eq (x : Int) : decomp P 19 ⟨okFs, []⟩ { cnd := [(413700, [(0, .one (.int .u32)), (2, .one (.int .i64))]), (31477768, [(0, .one (.int .u32)), (2, .one (.int .i64))])], blk := [], reg := [], lps := [] } [.tmp 2] (bodyOf Go.Proofs.Tryz.f96) [.val (.int .u32 x)] = math_bits_Len32 x := by kernel_rfl
theorem math_bits_Len32_calls (x : Int) {w : World} {R : List Value → World → Prop} (h : (math_bits_Len32 x).wp P (fun _ => True) w fun e vs w' => e = 0 ∧ R vs w') :
    Calls P F.math_bits_Len32 #[.int .u32 x] w fun e w' => ∃ vs, e = .returned (pack vs) ∧ R vs w' :=
  decomp_sound (isFn_of Go.Proofs.Tryz.func96 (by kernel_rfl) (by kernel_rfl) (by kernel_rfl)) okFs_ok mix [.val (.int .u32 x)] (by rw [math_bits_Len32_eq]; exact h)

def math_bits_Len64 (x : Int) : Prog :=
.bind 1 [.one (.int .u64), .one (.int .i64)] (
.ite (decide (x ≥ 4294967296)) (
.lt (.int .u64) (Int.fdiv x 4294967296) fun (n0 : Int) =>
.done 1 [.int .u64 n0, .int .i64 32]) (
.done 1 [.int .u64 x, .int .i64 0])) (u2 fun (n1 : Int) (n2 : Int) =>
.bind 1 [.one (.int .u64), .one (.int .i64)] (
.ite (decide (n1 ≥ 65536)) (
.lt (.int .u64) (Int.fdiv n1 65536) fun (n3 : Int) =>
.lt (.int .i64) (IntKind.wrap .i64 (n2 + 16)) fun (n4 : Int) =>
.done 1 [.int .u64 n3, .int .i64 n4]) (
.done 1 [.int .u64 n1, .int .i64 n2])) (u2 fun (n5 : Int) (n6 : Int) =>
.bind 1 [.one (.int .u64), .one (.int .i64)] (
.ite (decide (n5 ≥ 256)) (
.lt (.int .u64) (Int.fdiv n5 256) fun (n7 : Int) =>
.lt (.int .i64) (IntKind.wrap .i64 (n6 + 8)) fun (n8 : Int) =>
.done 1 [.int .u64 n7, .int .i64 n8]) (
.done 1 [.int .u64 n5, .int .i64 n6])) (u2 fun (n9 : Int) (n10 : Int) =>
.must (0 ≤ IntKind.wrap .u8 n9 ∧ IntKind.wrap .u8 n9 < 256) <|
.lt (.int .i64) (IntKind.wrap .i64 (n10 + IntKind.wrap .i64 (bt (ByteArray.mk #[0, 1, 2, 2, 3, 3, 3, 3, 4, 4, 4, 4, 4, 4, 4, 4, 5, 5, 5, 5, 5, 5, 5, 5, 5, 5, 5, 5, 5, 5, 5, 5, 6, 6, 6, 6, 6, 6, 6, 6, 6, 6, 6, 6, 6, 6, 6, 6, 6, 6, 6, 6, 6, 6, 6, 6, 6, 6, 6, 6, 6, 6, 6, 6, 7, 7, 7, 7, 7, 7, 7, 7, 7, 7, 7, 7, 7, 7, 7, 7, 7, 7, 7, 7, 7, 7, 7, 7, 7, 7, 7, 7, 7, 7, 7, 7, 7, 7, 7, 7, 7, 7, 7, 7, 7, 7, 7, 7, 7, 7, 7, 7, 7, 7, 7, 7, 7, 7, 7, 7, 7, 7, 7, 7, 7, 7, 7, 7, 8, 8, 8, 8, 8, 8, 8, 8, 8, 8, 8, 8, 8, 8, 8, 8, 8, 8, 8, 8, 8, 8, 8, 8, 8, 8, 8, 8, 8, 8, 8, 8, 8, 8, 8, 8, 8, 8, 8, 8, 8, 8, 8, 8, 8, 8, 8, 8, 8, 8, 8, 8, 8, 8, 8, 8, 8, 8, 8, 8, 8, 8, 8, 8, 8, 8, 8, 8, 8, 8, 8, 8, 8, 8, 8, 8, 8, 8, 8, 8, 8, 8, 8, 8, 8, 8, 8, 8, 8, 8, 8, 8, 8, 8, 8, 8, 8, 8, 8, 8, 8, 8, 8, 8, 8, 8, 8, 8, 8, 8, 8, 8, 8, 8, 8, 8, 8, 8, 8, 8, 8, 8, 8, 8, 8, 8, 8, 8]) (IntKind.wrap .u8 n9)))) fun (n11 : Int) =>
.done 0 [.int .i64 n11])))
theorem math_bits_Len64_eq (x : Int) : decomp P 25 ⟨okFs, []⟩ { cnd := [(413700, [(0, .one (.int .u64)), (2, .one (.int .i64))]), (31477768, [(0, .one (.int .u64)), (2, .one (.int .i64))]), (2013286414, [(0, .one (.int .u64)), (2, .one (.int .i64))])], blk := [], reg := [], lps := [] } [.tmp 2] (bodyOf Go.Proofs.Tryz.f97) [.val (.int .u64 x)] = math_bits_Len64 x := by kernel_rfl
theorem math_bits_Len64_calls (x : Int) {w : World} {R : List Value → World → Prop} (h : (math_bits_Len64 x).wp P (fun _ => True) w fun e vs w' => e = 0 ∧ R vs w') :
    Calls P F.math_bits_Len64 #[.int .u64 x] w fun e w' => ∃ vs, e = .returned (pack vs) ∧ R vs w' :=
  decomp_sound (isFn_of Go.Proofs.Tryz.func97 (by kernel_rfl) (by kernel_rfl) (by kernel_rfl)) okFs_ok mix [.val (.int .u64 x)] (by rw [math_bits_Len64_eq]; exact h)

def slices_siftDownCmpFunc_iso_Txn (data : Sl) (lo : Int) (hi : Int) (first : Int) (cmp : Value) : Prog :=
.lt (.int .i64) (lo) fun (n0 : Int) =>
.bind 1 [] (
.loop 2 [.one (.int .i64)] (n0, ()) (u1 fun (n1 : Int) =>
.lt (.int .i64) (IntKind.wrap .i64 (IntKind.wrap .i64 (2 * n1) + 1)) fun (n2 : Int) =>
.ite (decide (n2 ≥ hi)) (
.done 1 []) (
.bind 3 [.one .bool] (
.tick <|
.ex [.adr] (c1 fun a3 => decide (IntKind.wrap .i64 (n2 + 1) < hi) = true → 0 ≤ IntKind.wrap .i64 (first + n2) ∧ IntKind.wrap .i64 (first + n2) < ((data.len : Nat) : Int) ∧ data.a = some a3) (u1 fun a4 =>
.read (decide (IntKind.wrap .i64 (n2 + 1) < hi) = true) (ld T.iso_Txn (Addr.add a4 (Int.toNat (IntKind.wrap .i64 (first + n2)) * 4))) (sG [.int .i64, .int .i64, .int .i64, .int .i64]) (u4 fun (n5 : Int) (n6 : Int) (n7 : Int) (n8 : Int) =>
.ex [.adr] (c1 fun a9 => decide (IntKind.wrap .i64 (n2 + 1) < hi) = true → 0 ≤ IntKind.wrap .i64 (IntKind.wrap .i64 (first + n2) + 1) ∧ IntKind.wrap .i64 (IntKind.wrap .i64 (first + n2) + 1) < ((data.len : Nat) : Int) ∧ data.a = some a9) (u1 fun a10 =>
.read (decide (IntKind.wrap .i64 (n2 + 1) < hi) = true) (ld T.iso_Txn (Addr.add a10 (Int.toNat (IntKind.wrap .i64 (IntKind.wrap .i64 (first + n2) + 1)) * 4))) (sG [.int .i64, .int .i64, .int .i64, .int .i64]) (u4 fun (n11 : Int) (n12 : Int) (n13 : Int) (n14 : Int) =>
.ite (decide (IntKind.wrap .i64 (n2 + 1) < hi)) (
.callv (cmp) [.agg #[.int .i64 n5, .int .i64 n6, .int .i64 n7, .int .i64 n8], .agg #[.int .i64 n11, .int .i64 n12, .int .i64 n13, .int .i64 n14]] (sI .i64) (u1 fun (n15 : Int) =>
.untick <|
.done 3 [.bool (decide (n15 < 0))])) (
.untick <|
.done 3 [.bool false])))))) (u1 fun b16 =>
.bind 3 [.one (.int .i64)] (
.ite (b16) (
.lt (.int .i64) (IntKind.wrap .i64 (n2 + 1)) fun (n17 : Int) =>
.done 3 [.int .i64 n17]) (
.done 3 [.int .i64 n2])) (u1 fun (n18 : Int) =>
.tick <|
.ex [.adr] (c1 fun a19 => 0 ≤ IntKind.wrap .i64 (first + n1) ∧ IntKind.wrap .i64 (first + n1) < ((data.len : Nat) : Int) ∧ data.a = some a19) (u1 fun a20 =>
.read True (ld T.iso_Txn (Addr.add a20 (Int.toNat (IntKind.wrap .i64 (first + n1)) * 4))) (sG [.int .i64, .int .i64, .int .i64, .int .i64]) (u4 fun (n21 : Int) (n22 : Int) (n23 : Int) (n24 : Int) =>
.ex [.adr] (c1 fun a25 => 0 ≤ IntKind.wrap .i64 (first + n18) ∧ IntKind.wrap .i64 (first + n18) < ((data.len : Nat) : Int) ∧ data.a = some a25) (u1 fun a26 =>
.read True (ld T.iso_Txn (Addr.add a26 (Int.toNat (IntKind.wrap .i64 (first + n18)) * 4))) (sG [.int .i64, .int .i64, .int .i64, .int .i64]) (u4 fun (n27 : Int) (n28 : Int) (n29 : Int) (n30 : Int) =>
.callv (cmp) [.agg #[.int .i64 n21, .int .i64 n22, .int .i64 n23, .int .i64 n24], .agg #[.int .i64 n27, .int .i64 n28, .int .i64 n29, .int .i64 n30]] (sI .i64) (u1 fun (n31 : Int) =>
.untick <|
.ite (not (decide (n31 < 0))) (
.done 0 []) (
.bind 3 [] (
.tick <|
.ex [.adr] (c1 fun a32 => 0 ≤ IntKind.wrap .i64 (first + n18) ∧ IntKind.wrap .i64 (first + n18) < ((data.len : Nat) : Int) ∧ data.a = some a32) (u1 fun a33 =>
.read True (ld T.iso_Txn (Addr.add a33 (Int.toNat (IntKind.wrap .i64 (first + n18)) * 4))) (sG [.int .i64, .int .i64, .int .i64, .int .i64]) (u4 fun (n34 : Int) (n35 : Int) (n36 : Int) (n37 : Int) =>
.ex [.adr] (c1 fun a38 => 0 ≤ IntKind.wrap .i64 (first + n1) ∧ IntKind.wrap .i64 (first + n1) < ((data.len : Nat) : Int) ∧ data.a = some a38) (u1 fun a39 =>
.read True (ld T.iso_Txn (Addr.add a39 (Int.toNat (IntKind.wrap .i64 (first + n1)) * 4))) (sG [.int .i64, .int .i64, .int .i64, .int .i64]) (u4 fun (n40 : Int) (n41 : Int) (n42 : Int) (n43 : Int) =>
.ex [.adr] (c1 fun a44 => 0 ≤ IntKind.wrap .i64 (first + n1) ∧ IntKind.wrap .i64 (first + n1) < ((data.len : Nat) : Int) ∧ data.a = some a44) (u1 fun a45 =>
.actU (st T.iso_Txn (Addr.add a45 (Int.toNat (IntKind.wrap .i64 (first + n1)) * 4)) (.agg #[.int .i64 n34, .int .i64 n35, .int .i64 n36, .int .i64 n37])) <|
.ex [.adr] (c1 fun a46 => 0 ≤ IntKind.wrap .i64 (first + n18) ∧ IntKind.wrap .i64 (first + n18) < ((data.len : Nat) : Int) ∧ data.a = some a46) (u1 fun a47 =>
.actU (st T.iso_Txn (Addr.add a47 (Int.toNat (IntKind.wrap .i64 (first + n18)) * 4)) (.agg #[.int .i64 n40, .int .i64 n41, .int .i64 n42, .int .i64 n43])) <|
.untick <|
.done 3 []))))))) (u0 <|
.lt (.int .i64) (n18) fun (n48 : Int) =>
.done 2 [.int .i64 n48])))))))))))) (u0 <|
.done 0 [])
theorem slices_siftDownCmpFunc_iso_Txn_eq (data : Sl) (lo : Int) (hi : Int) (first : Int) (cmp : Value) : decomp P 82 ⟨okFs, []⟩ { cnd := [(27021597772611624, [(11, .one (.int .i64))])], blk := [(0, [])], reg := [(3, [(40, .one .bool)]), (6, [])], lps := [(0, [(10, .one (.int .i64))])] } [] (bodyOf Go.Proofs.Tryz.f98) [.val (.slice data.a data.len data.cap), .val (.int .i64 lo), .val (.int .i64 hi), .val (.int .i64 first), .any cmp] = slices_siftDownCmpFunc_iso_Txn data lo hi first cmp := by kernel_rfl
theorem slices_siftDownCmpFunc_iso_Txn_calls (data : Sl) (lo : Int) (hi : Int) (first : Int) (cmp : Value) {w : World} {R : List Value → World → Prop} (h : (slices_siftDownCmpFunc_iso_Txn data lo hi first cmp).wp P (fun _ => True) w fun e vs w' => e = 0 ∧ R vs w') :
    Calls P F.slices_siftDownCmpFunc_iso_Txn #[.slice data.a data.len data.cap, .int .i64 lo, .int .i64 hi, .int .i64 first, cmp] w fun e w' => ∃ vs, e = .returned (pack vs) ∧ R vs w' :=
  decomp_sound (isFn_of Go.Proofs.Tryz.func98 (by kernel_rfl) (by kernel_rfl) (by kernel_rfl)) okFs_ok mix [.val (.slice data.a data.len data.cap), .val (.int .i64 lo), .val (.int .i64 hi), .val (.int .i64 first), .any cmp] (by rw [slices_siftDownCmpFunc_iso_Txn_eq]; exact h)

def slices_nextPowerOfTwo (length : Int) : Prog :=
.call F.math_bits_Len [.int .u64 (IntKind.wrap .u64 length)] (sI .i64) (u1 fun (n0 : Int) =>
.must (0 ≤ n0) <|
.lt (.int .u64) (IntKind.wrap .u64 (1 * 2 ^ min (Int.toNat n0) 64)) fun (n1 : Int) =>
.done 0 [.int .u64 n1])
theorem slices_nextPowerOfTwo_eq (length : Int) : decomp P 7 ⟨okFs, []⟩ { cnd := [], blk := [], reg := [], lps := [] } [.tmp 2] (bodyOf Go.Proofs.Tryz.f99) [.val (.int .i64 length)] = slices_nextPowerOfTwo length := by kernel_rfl
theorem slices_nextPowerOfTwo_calls (length : Int) {w : World} {R : List Value → World → Prop} (h : (slices_nextPowerOfTwo length).wp P (fun _ => True) w fun e vs w' => e = 0 ∧ R vs w') :
    Calls P F.slices_nextPowerOfTwo #[.int .i64 length] w fun e w' => ∃ vs, e = .returned (pack vs) ∧ R vs w' :=
  decomp_sound (isFn_of Go.Proofs.Tryz.func99 (by kernel_rfl) (by kernel_rfl) (by kernel_rfl)) okFs_ok mix [.val (.int .i64 length)] (by rw [slices_nextPowerOfTwo_eq]; exact h)

def slices_xorshift_Next (r : Option Addr) : Prog :=
.tick <|
.ex [.adr] (c1 fun a0 => r = some a0) (u1 fun a1 =>
.read True (ld T.slices_xorshift a1) (sI .u64) (u1 fun (n2 : Int) =>
.ex [.adr] (c1 fun a3 => r = some a3) (u1 fun a4 =>
.read True (ld T.slices_xorshift a4) (sI .u64) (u1 fun (n5 : Int) =>
.ex [.adr] (c1 fun a6 => r = some a6) (u1 fun a7 =>
.actU (st T.slices_xorshift a7 (.int .u64 (IntKind.wrap .u64 (((BitVec.toNat (BitVec.ofInt 64 n2 ^^^ BitVec.ofInt 64 (IntKind.wrap .u64 (n5 * 8192))) : Nat) : Int))))) <|
.untick <|
.tick <|
.ex [.adr] (c1 fun a8 => r = some a8) (u1 fun a9 =>
.read True (ld T.slices_xorshift a9) (sI .u64) (u1 fun (n10 : Int) =>
.ex [.adr] (c1 fun a11 => r = some a11) (u1 fun a12 =>
.read True (ld T.slices_xorshift a12) (sI .u64) (u1 fun (n13 : Int) =>
.ex [.adr] (c1 fun a14 => r = some a14) (u1 fun a15 =>
.actU (st T.slices_xorshift a15 (.int .u64 (IntKind.wrap .u64 (((BitVec.toNat (BitVec.ofInt 64 n10 ^^^ BitVec.ofInt 64 (Int.fdiv n13 128)) : Nat) : Int))))) <|
.untick <|
.tick <|
.ex [.adr] (c1 fun a16 => r = some a16) (u1 fun a17 =>
.read True (ld T.slices_xorshift a17) (sI .u64) (u1 fun (n18 : Int) =>
.ex [.adr] (c1 fun a19 => r = some a19) (u1 fun a20 =>
.read True (ld T.slices_xorshift a20) (sI .u64) (u1 fun (n21 : Int) =>
.ex [.adr] (c1 fun a22 => r = some a22) (u1 fun a23 =>
.actU (st T.slices_xorshift a23 (.int .u64 (IntKind.wrap .u64 (((BitVec.toNat (BitVec.ofInt 64 n18 ^^^ BitVec.ofInt 64 (IntKind.wrap .u64 (n21 * 131072))) : Nat) : Int))))) <|
.untick <|
.ex [.adr] (c1 fun a24 => r = some a24) (u1 fun a25 =>
.read True (ld T.slices_xorshift a25) (sI .u64) (u1 fun (n26 : Int) =>
.lt (.int .u64) (n26) fun (n27 : Int) =>
.done 0 [.int .u64 n27])))))))))))))))))
theorem slices_xorshift_Next_eq (r : Option Addr) : decomp P 33 ⟨okFs, []⟩ { cnd := [], blk := [], reg := [], lps := [] } [.tmp 2] (bodyOf Go.Proofs.Tryz.f100) [.val (.pointer r)] = slices_xorshift_Next r := by kernel_rfl
theorem slices_xorshift_Next_calls (r : Option Addr) {w : World} {R : List Value → World → Prop} (h : (slices_xorshift_Next r).wp P (fun _ => True) w fun e vs w' => e = 0 ∧ R vs w') :
    Calls P F.slices_xorshift_Next #[.pointer r] w fun e w' => ∃ vs, e = .returned (pack vs) ∧ R vs w' :=
  decomp_sound (isFn_of Go.Proofs.Tryz.func100 (by kernel_rfl) (by kernel_rfl) (by kernel_rfl)) okFs_ok mix [.val (.pointer r)] (by rw [slices_xorshift_Next_eq]; exact h)

def slices_medianAdjacentCmpFunc_iso_Txn (data : Sl) (a : Int) (swaps : Option Addr) (cmp : Value) : Prog :=
.call F.slices_medianCmpFunc_iso_Txn [data.v, .int .i64 (IntKind.wrap .i64 (a - 1)), .int .i64 a, .int .i64 (IntKind.wrap .i64 (a + 1)), .pointer swaps, cmp] (sI .i64) (u1 fun (n0 : Int) =>
.lt (.int .i64) (n0) fun (n1 : Int) =>
.done 0 [.int .i64 n1])
theorem slices_medianAdjacentCmpFunc_iso_Txn_eq (data : Sl) (a : Int) (swaps : Option Addr) (cmp : Value) : decomp P 18 ⟨okFs, []⟩ { cnd := [], blk := [], reg := [], lps := [] } [.tmp 8] (bodyOf Go.Proofs.Tryz.f101) [.val (.slice data.a data.len data.cap), .val (.int .i64 a), .val (.pointer swaps), .any cmp] = slices_medianAdjacentCmpFunc_iso_Txn data a swaps cmp := by kernel_rfl
theorem slices_medianAdjacentCmpFunc_iso_Txn_calls (data : Sl) (a : Int) (swaps : Option Addr) (cmp : Value) {w : World} {R : List Value → World → Prop} (h : (slices_medianAdjacentCmpFunc_iso_Txn data a swaps cmp).wp P (fun _ => True) w fun e vs w' => e = 0 ∧ R vs w') :
    Calls P F.slices_medianAdjacentCmpFunc_iso_Txn #[.slice data.a data.len data.cap, .int .i64 a, .pointer swaps, cmp] w fun e w' => ∃ vs, e = .returned (pack vs) ∧ R vs w' :=
  decomp_sound (isFn_of Go.Proofs.Tryz.func101 (by kernel_rfl) (by kernel_rfl) (by kernel_rfl)) okFs_ok mix [.val (.slice data.a data.len data.cap), .val (.int .i64 a), .val (.pointer swaps), .any cmp] (by rw [slices_medianAdjacentCmpFunc_iso_Txn_eq]; exact h)

def slices_medianCmpFunc_iso_Txn (data : Sl) (a : Int) (b : Int) (c : Int) (swaps : Option Addr) (cmp : Value) : Prog :=
.call F.slices_order2CmpFunc_iso_Txn [data.v, .int .i64 a, .int .i64 b, .pointer swaps, cmp] (.tup [.one (.int .i64), .one (.int .i64)]) (u2 fun (n0 : Int) (n1 : Int) =>
.lt (.int .i64) (n0) fun (n2 : Int) =>
.lt (.int .i64) (n1) fun (n3 : Int) =>
.call F.slices_order2CmpFunc_iso_Txn [data.v, .int .i64 n3, .int .i64 c, .pointer swaps, cmp] (.tup [.one (.int .i64), .one (.int .i64)]) (u2 fun (n4 : Int) (n5 : Int) =>
.lt (.int .i64) (n4) fun (n6 : Int) =>
.lt (.int .i64) (n5) fun (n7 : Int) =>
.call F.slices_order2CmpFunc_iso_Txn [data.v, .int .i64 n2, .int .i64 n6, .pointer swaps, cmp] (.tup [.one (.int .i64), .one (.int .i64)]) (u2 fun (n8 : Int) (n9 : Int) =>
.lt (.int .i64) (n8) fun (n10 : Int) =>
.lt (.int .i64) (n9) fun (n11 : Int) =>
.lt (.int .i64) (n11) fun (n12 : Int) =>
.done 0 [.int .i64 n12])))
theorem slices_medianCmpFunc_iso_Txn_eq (data : Sl) (a : Int) (b : Int) (c : Int) (swaps : Option Addr) (cmp : Value) : decomp P 41 ⟨okFs, []⟩ { cnd := [], blk := [], reg := [], lps := [] } [.tmp 12] (bodyOf Go.Proofs.Tryz.f102) [.val (.slice data.a data.len data.cap), .val (.int .i64 a), .val (.int .i64 b), .val (.int .i64 c), .val (.pointer swaps), .any cmp] = slices_medianCmpFunc_iso_Txn data a b c swaps cmp := by kernel_rfl
theorem slices_medianCmpFunc_iso_Txn_calls (data : Sl) (a : Int) (b : Int) (c : Int) (swaps : Option Addr) (cmp : Value) {w : World} {R : List Value → World → Prop} (h : (slices_medianCmpFunc_iso_Txn data a b c swaps cmp).wp P (fun _ => True) w fun e vs w' => e = 0 ∧ R vs w') :
    Calls P F.slices_medianCmpFunc_iso_Txn #[.slice data.a data.len data.cap, .int .i64 a, .int .i64 b, .int .i64 c, .pointer swaps, cmp] w fun e w' => ∃ vs, e = .returned (pack vs) ∧ R vs w' :=
  decomp_sound (isFn_of Go.Proofs.Tryz.func102 (by kernel_rfl) (by kernel_rfl) (by kernel_rfl)) okFs_ok mix [.val (.slice data.a data.len data.cap), .val (.int .i64 a), .val (.int .i64 b), .val (.int .i64 c), .val (.pointer swaps), .any cmp] (by rw [slices_medianCmpFunc_iso_Txn_eq]; exact h)

def slices_order2CmpFunc_iso_Txn (data : Sl) (a : Int) (b : Int) (swaps : Option Addr) (cmp : Value) : Prog :=
.tick <|
.ex [.adr] (c1 fun a0 => 0 ≤ b ∧ b < ((data.len : Nat) : Int) ∧ data.a = some a0) (u1 fun a1 =>
.read True (ld T.iso_Txn (Addr.add a1 (Int.toNat b * 4))) (sG [.int .i64, .int .i64, .int .i64, .int .i64]) (u4 fun (n2 : Int) (n3 : Int) (n4 : Int) (n5 : Int) =>
.ex [.adr] (c1 fun a6 => 0 ≤ a ∧ a < ((data.len : Nat) : Int) ∧ data.a = some a6) (u1 fun a7 =>
.read True (ld T.iso_Txn (Addr.add a7 (Int.toNat a * 4))) (sG [.int .i64, .int .i64, .int .i64, .int .i64]) (u4 fun (n8 : Int) (n9 : Int) (n10 : Int) (n11 : Int) =>
.callv (cmp) [.agg #[.int .i64 n2, .int .i64 n3, .int .i64 n4, .int .i64 n5], .agg #[.int .i64 n8, .int .i64 n9, .int .i64 n10, .int .i64 n11]] (sI .i64) (u1 fun (n12 : Int) =>
.untick <|
.ite (decide (n12 < 0)) (
.ex [.adr] (c1 fun a13 => swaps = some a13) (u1 fun a14 =>
.read True (ld T.int a14) (sI .i64) (u1 fun (n15 : Int) =>
.ex [.adr] (c1 fun a16 => swaps = some a16) (u1 fun a17 =>
.actU (st T.int a17 (.int .i64 (IntKind.wrap .i64 (n15 + 1)))) <|
.lt (.int .i64) (b) fun (n18 : Int) =>
.lt (.int .i64) (a) fun (n19 : Int) =>
.done 0 [.int .i64 n18, .int .i64 n19])))) (
.lt (.int .i64) (a) fun (n20 : Int) =>
.lt (.int .i64) (b) fun (n21 : Int) =>
.done 0 [.int .i64 n20, .int .i64 n21]))))))
theorem slices_order2CmpFunc_iso_Txn_eq (data : Sl) (a : Int) (b : Int) (swaps : Option Addr) (cmp : Value) : decomp P 32 ⟨okFs, []⟩ { cnd := [], blk := [], reg := [], lps := [] } [.tmp 10, .tmp 11] (bodyOf Go.Proofs.Tryz.f103) [.val (.slice data.a data.len data.cap), .val (.int .i64 a), .val (.int .i64 b), .val (.pointer swaps), .any cmp] = slices_order2CmpFunc_iso_Txn data a b swaps cmp := by kernel_rfl
theorem slices_order2CmpFunc_iso_Txn_calls (data : Sl) (a : Int) (b : Int) (swaps : Option Addr) (cmp : Value) {w : World} {R : List Value → World → Prop} (h : (slices_order2CmpFunc_iso_Txn data a b swaps cmp).wp P (fun _ => True) w fun e vs w' => e = 0 ∧ R vs w') :
    Calls P F.slices_order2CmpFunc_iso_Txn #[.slice data.a data.len data.cap, .int .i64 a, .int .i64 b, .pointer swaps, cmp] w fun e w' => ∃ vs, e = .returned (pack vs) ∧ R vs w' :=
  decomp_sound (isFn_of Go.Proofs.Tryz.func103 (by kernel_rfl) (by kernel_rfl) (by kernel_rfl)) okFs_ok mix [.val (.slice data.a data.len data.cap), .val (.int .i64 a), .val (.int .i64 b), .val (.pointer swaps), .any cmp] (by rw [slices_order2CmpFunc_iso_Txn_eq]; exact h)
end Go.Dec
