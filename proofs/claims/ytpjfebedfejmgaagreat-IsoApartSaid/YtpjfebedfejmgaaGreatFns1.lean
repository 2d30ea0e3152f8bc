/- Functions of this seat, decompiled by a program of ours; each is held to the code by the kernel. -/
import Derived.Test.YtpjfebedfejmgaaGreatNames
namespace Go.Dec
set_option linter.unusedVariables false

def towpathlaw08_IsoApart (l : Sl) (on : Sl) (off : Sl) : Prog :=
.call F.iso_New [] sP (u1 fun p0 =>
.act (Instr.box T.towpathref08_View (.agg #[.int .i64 0, .slice none 0 0, .slice none 0 0])) sA (u1 fun a1 =>
.lt (.bool) (not (Option.isNone p0)) fun b2 =>
.bind 1 [.one .ptr, .one .bool] (
.loop 2 [.one .ptr, .one .bool, .one (.int .i64)] (p0, (b2, (0, ()))) (u3 fun p3 b4 (n5 : Int) =>
.ite (decide (n5 < ((l.len : Nat) : Int)) && decide (n5 < 20) && b4) (
.ex [.adr] (c1 fun a6 => 0 ≤ n5 ∧ n5 < ((l.len : Nat) : Int) ∧ l.a = some a6) (u1 fun a7 =>
.read True (ld T.towpathlaw08_Op (Addr.add a7 (Int.toNat n5 * 10))) (sG [.int .i64, .int .i64, .int .i64, .int .i64, .int .i64, .int .i64, .int .i64, .slc, .bool, .int .i64]) (u10 fun (n8 : Int) (n9 : Int) (n10 : Int) (n11 : Int) (n12 : Int) (n13 : Int) (n14 : Int) l15 b16 (n17 : Int) =>
.call F.towpathlaw08_step [.pointer p3, .pointer (some a1), .agg #[.int .i64 n8, .int .i64 n9, .int .i64 n10, .int .i64 n11, .int .i64 n12, .int .i64 n13, .int .i64 n14, l15.v, .bool b16, .int .i64 n17]] (.tup [.one .ptr, .one .bool]) (u2 fun p18 b19 =>
.lt (.bool) (b19) fun b20 =>
.lt (.int .i64) (IntKind.wrap .i64 (n5 + 1)) fun (n21 : Int) =>
.done 2 [.pointer p18, .bool b20, .int .i64 n21])))) (
.done 1 [.pointer p3, .bool b4]))) (u2 fun p22 b23 =>
.ite (not b23) (
.done 0 [.bool false]) (
.call F.iso_View_Copy [.pointer p22] sP (u1 fun p24 =>
.call F.towpathref08_View_Copy [.pointer (some a1)] sP (u1 fun p25 =>
.bind 1 [.one .bool] (
.loop 2 [.one .ptr, .one .bool, .one .ptr, .one (.int .i64)] (p22, (b23, (p24, (0, ())))) (u4 fun p26 b27 p28 (n29 : Int) =>
.ite (decide (n29 < 20) && b27) (
.bind 3 [.one .ptr, .one .bool] (
.ite (decide (n29 < ((on.len : Nat) : Int))) (
.ex [.adr] (c1 fun a30 => 0 ≤ n29 ∧ n29 < ((on.len : Nat) : Int) ∧ on.a = some a30) (u1 fun a31 =>
.read True (ld T.towpathlaw08_Op (Addr.add a31 (Int.toNat n29 * 10))) (sG [.int .i64, .int .i64, .int .i64, .int .i64, .int .i64, .int .i64, .int .i64, .slc, .bool, .int .i64]) (u10 fun (n32 : Int) (n33 : Int) (n34 : Int) (n35 : Int) (n36 : Int) (n37 : Int) (n38 : Int) l39 b40 (n41 : Int) =>
.call F.towpathlaw08_step [.pointer p26, .pointer (some a1), .agg #[.int .i64 n32, .int .i64 n33, .int .i64 n34, .int .i64 n35, .int .i64 n36, .int .i64 n37, .int .i64 n38, l39.v, .bool b40, .int .i64 n41]] (.tup [.one .ptr, .one .bool]) (u2 fun p42 b43 =>
.lt (.bool) (b43) fun b44 =>
.done 3 [.pointer p42, .bool b44])))) (
.done 3 [.pointer p26, .bool b27])) (u2 fun p45 b46 =>
.bind 3 [.one .bool, .one .ptr] (
.ite (b46 && decide (n29 < ((off.len : Nat) : Int))) (
.ex [.adr] (c1 fun a47 => 0 ≤ n29 ∧ n29 < ((off.len : Nat) : Int) ∧ off.a = some a47) (u1 fun a48 =>
.read True (ld T.towpathlaw08_Op (Addr.add a48 (Int.toNat n29 * 10))) (sG [.int .i64, .int .i64, .int .i64, .int .i64, .int .i64, .int .i64, .int .i64, .slc, .bool, .int .i64]) (u10 fun (n49 : Int) (n50 : Int) (n51 : Int) (n52 : Int) (n53 : Int) (n54 : Int) (n55 : Int) l56 b57 (n58 : Int) =>
.call F.towpathlaw08_step [.pointer p28, .pointer p25, .agg #[.int .i64 n49, .int .i64 n50, .int .i64 n51, .int .i64 n52, .int .i64 n53, .int .i64 n54, .int .i64 n55, l56.v, .bool b57, .int .i64 n58]] (.tup [.one .ptr, .one .bool]) (u2 fun p59 b60 =>
.lt (.bool) (b60) fun b61 =>
.done 3 [.bool b61, .pointer p59])))) (
.done 3 [.bool b46, .pointer p28])) (u2 fun b62 p63 =>
.bind 3 [.one .bool] (
.ite (b62) (
.call F.towpathlaw08_same [.pointer p45, .pointer (some a1), .slice none 0 0] sB (u1 fun b64 =>
.ite (b64) (
.call F.towpathlaw08_same [.pointer p63, .pointer p25, .slice none 0 0] sB (u1 fun b65 =>
.lt (.bool) (b65) fun b66 =>
.done 3 [.bool b66])) (
.done 3 [.bool false]))) (
.done 3 [.bool false])) (u1 fun b67 =>
.lt (.int .i64) (IntKind.wrap .i64 (n29 + 1)) fun (n68 : Int) =>
.done 2 [.pointer p45, .bool b67, .pointer p63, .int .i64 n68])))) (
.done 1 [.bool b27]))) (u1 fun b69 =>
.bind 1 [.one .bool] (
.ite (b69) (
.call F.towpathlaw08_awake [] sB (u1 fun b70 =>
.lt (.bool) (b70) fun b71 =>
.done 1 [.bool b71])) (
.done 1 [.bool false])) (u1 fun b72 =>
.done 0 [.bool b72]))))))))
theorem towpathlaw08_IsoApart_eq (l : Sl) (on : Sl) (off : Sl) : decomp P 101 ⟨okFs, []⟩ { cnd := [(2415490455987823529427002, [(7, .one .ptr), (9, .one .bool)]), (316603165047236005305461506123, [(9, .one .bool), (11, .one .ptr)])], blk := [(0, [(7, .one .ptr), (9, .one .bool)]), (2, [(9, .one .bool)])], reg := [(17, [(9, .one .bool)]), (18, [(6, .one .bool)])], lps := [(0, [(7, .one .ptr), (9, .one .bool), (10, .one (.int .i64))]), (2, [(7, .one .ptr), (9, .one .bool), (11, .one .ptr), (13, .one (.int .i64))])] } [.tmp 6] (bodyOf Go.Proofs.Tryz.f3) [.val (.slice l.a l.len l.cap), .val (.slice on.a on.len on.cap), .val (.slice off.a off.len off.cap)] = towpathlaw08_IsoApart l on off := by kernel_rfl
theorem towpathlaw08_IsoApart_calls (l : Sl) (on : Sl) (off : Sl) {w : World} {R : List Value → World → Prop} (h : (towpathlaw08_IsoApart l on off).wp P (fun _ => True) w fun e vs w' => e = 0 ∧ R vs w') :
    Calls P F.towpathlaw08_IsoApart #[.slice l.a l.len l.cap, .slice on.a on.len on.cap, .slice off.a off.len off.cap] w fun e w' => ∃ vs, e = .returned (pack vs) ∧ R vs w' :=
  decomp_sound (isFn_of Go.Proofs.Tryz.func3 (by kernel_rfl) (by kernel_rfl) (by kernel_rfl)) okFs_ok mix [.val (.slice l.a l.len l.cap), .val (.slice on.a on.len on.cap), .val (.slice off.a off.len off.cap)] (by rw [towpathlaw08_IsoApart_eq]; exact h)

def towpathlaw08_step (v : Option Addr) (r : Option Addr) (o_0 : Int) (o_1 : Int) (o_2 : Int) (o_3 : Int) (o_4 : Int) (o_5 : Int) (o_6 : Int) (o_7 : Sl) (o_8 : Bool) (o_9 : Int) : Prog :=
.act (Instr.box T.towpathlaw08_Op (.agg #[.int .i64 o_0, .int .i64 o_1, .int .i64 o_2, .int .i64 o_3, .int .i64 o_4, .int .i64 o_5, .int .i64 o_6, o_7.v, .bool o_8, .int .i64 o_9])) sA (u1 fun a0 =>
.bind 1 [.one .adr] (
.tick <|
.hold True (ld T.towpathlaw08_Op a0) (sG [.int .i64, .int .i64, .int .i64, .int .i64, .int .i64, .int .i64, .int .i64, .slc, .bool, .int .i64]) (u10 fun (n1 : Int) (n2 : Int) (n3 : Int) (n4 : Int) (n5 : Int) (n6 : Int) (n7 : Int) l8 b9 (n10 : Int) =>
.ex [.adr] (c1 fun a11 => r = some a11) (u1 fun a12 =>
.hold True (ld T.int64 (Addr.add a12 0)) (sI .i64) (u1 fun (n13 : Int) =>
.both (
.untick <|
.call F.towpathlaw08_small [.agg #[.int .i64 n1, .int .i64 n2, .int .i64 n3, .int .i64 n4, .int .i64 n5, .int .i64 n6, .int .i64 n7, l8.v, .bool b9, .int .i64 n10], .int .i64 n13] (sG [.int .i64, .int .i64, .int .i64, .int .i64, .int .i64, .int .i64, .slc]) (u7 fun (n14 : Int) (n15 : Int) (n16 : Int) (n17 : Int) (n18 : Int) (n19 : Int) l20 =>
.act (new T.api_Batch) sA (u1 fun a21 =>
.actU (st T.api_Batch a21 (.agg #[.int .i64 n14, .int .i64 n15, .int .i64 n16, .int .i64 n17, .int .i64 n18, .int .i64 n19, l20.v])) <|
.untick <|
.done 1 [.pointer (some a21)]))) (
.act (new T.api_Batch) sA (u1 fun a22 =>
.untick <|
.call F.towpathlaw08_small [.agg #[.int .i64 n1, .int .i64 n2, .int .i64 n3, .int .i64 n4, .int .i64 n5, .int .i64 n6, .int .i64 n7, l8.v, .bool b9, .int .i64 n10], .int .i64 n13] (sG [.int .i64, .int .i64, .int .i64, .int .i64, .int .i64, .int .i64, .slc]) (u7 fun (n23 : Int) (n24 : Int) (n25 : Int) (n26 : Int) (n27 : Int) (n28 : Int) l29 =>
.actU (st T.api_Batch a22 (.agg #[.int .i64 n23, .int .i64 n24, .int .i64 n25, .int .i64 n26, .int .i64 n27, .int .i64 n28, l29.v])) <|
.untick <|
.done 1 [.pointer (some a22)]))))))) (u1 fun a30 =>
.read True (ld T.int (Addr.add a0 0)) (sI .i64) (u1 fun (n31 : Int) =>
.lt (.bool) (n31 == 0) fun b32 =>
.bind 1 [.one .bool] (
.ite (b32) (
.done 1 [.bool b32]) (
.lt (.bool) (n31 == 1) fun b33 =>
.bind 2 [.one .bool] (
.ite (b33) (
.done 2 [.bool b33]) (
.lt (.bool) (n31 == 2) fun b34 =>
.bind 3 [.one .bool] (
.ite (b34) (
.done 3 [.bool b34]) (
.lt (.bool) (n31 == 3) fun b35 =>
.bind 4 [.one .bool] (
.ite (b35) (
.done 4 [.bool b35]) (
.lt (.bool) (n31 == 4) fun b36 =>
.done 4 [.bool b36])) (u1 fun b37 =>
.done 3 [.bool b37]))) (u1 fun b38 =>
.done 2 [.bool b38]))) (u1 fun b39 =>
.done 1 [.bool b39]))) (u1 fun b40 =>
.ite (b40) (
.read True (ld T.api_Batch a30) (sG [.int .i64, .int .i64, .int .i64, .int .i64, .int .i64, .int .i64, .slc]) (u7 fun (n41 : Int) (n42 : Int) (n43 : Int) (n44 : Int) (n45 : Int) (n46 : Int) l47 =>
.call F.iso_View_May [.pointer v, .agg #[.int .i64 n41, .int .i64 n42, .int .i64 n43, .int .i64 n44, .int .i64 n45, .int .i64 n46, l47.v]] (sI .i64) (u1 fun (n48 : Int) =>
.lt (.int .i64) (n48) fun (n49 : Int) =>
.bind 1 [.one .ptr, .one .bool] (
.read True (ld T.api_Batch a30) (sG [.int .i64, .int .i64, .int .i64, .int .i64, .int .i64, .int .i64, .slc]) (u7 fun (n50 : Int) (n51 : Int) (n52 : Int) (n53 : Int) (n54 : Int) (n55 : Int) l56 =>
.call F.iso_View_Take [.pointer v, .agg #[.int .i64 n50, .int .i64 n51, .int .i64 n52, .int .i64 n53, .int .i64 n54, .int .i64 n55, l56.v]] (sI .i64) (u1 fun (n57 : Int) =>
.read ((n57 == n49) = true) (ld T.api_Batch a30) (sG [.int .i64, .int .i64, .int .i64, .int .i64, .int .i64, .int .i64, .slc]) (u7 fun (n58 : Int) (n59 : Int) (n60 : Int) (n61 : Int) (n62 : Int) (n63 : Int) l64 =>
.ite (n57 == n49) (
.call F.towpathref08_View_Take [.pointer r, .agg #[.int .i64 n58, .int .i64 n59, .int .i64 n60, .int .i64 n61, .int .i64 n62, .int .i64 n63, l64.v]] (sI .i64) (u1 fun (n65 : Int) =>
.lt (.bool) (n49 == n65) fun b66 =>
.done 1 [.pointer v, .bool b66])) (
.done 1 [.pointer v, .bool false]))))) (u2 fun p67 b68 =>
.done 0 [.pointer p67, .bool b68])))) (
.lt (.bool) (n31 == 5) fun b69 =>
.ite (b69) (
.bind 1 [.one .ptr, .one .bool] (
.tick <|
.read True (ld T.int64 (Addr.add a0 9)) (sI .i64) (u1 fun (n70 : Int) =>
.hold True (ld T.int64 (Addr.add a0 9)) (sI .i64) (u1 fun (n71 : Int) =>
.call F.iso_View_Forget [.pointer v, .int .i64 n70] (sI .i64) (u1 fun (n72 : Int) =>
.untick <|
.call F.towpathref08_View_Forget [.pointer r, .int .i64 n71] (sI .i64) (u1 fun (n73 : Int) =>
.lt (.bool) (n72 == n73) fun b74 =>
.untick <|
.done 1 [.pointer v, .bool b74]))))) (u2 fun p75 b76 =>
.done 0 [.pointer p75, .bool b76])) (
.lt (.bool) (n31 == 6) fun b77 =>
.ite (b77) (
.bind 1 [.one .ptr, .one .bool] (
.tick <|
.read True (ld T.api_Batch a30) (sG [.int .i64, .int .i64, .int .i64, .int .i64, .int .i64, .int .i64, .slc]) (u7 fun (n78 : Int) (n79 : Int) (n80 : Int) (n81 : Int) (n82 : Int) (n83 : Int) l84 =>
.hold True (ld T.api_Batch a30) (sG [.int .i64, .int .i64, .int .i64, .int .i64, .int .i64, .int .i64, .slc]) (u7 fun (n85 : Int) (n86 : Int) (n87 : Int) (n88 : Int) (n89 : Int) (n90 : Int) l91 =>
.call F.iso_View_Fate [.pointer v, .agg #[.int .i64 n78, .int .i64 n79, .int .i64 n80, .int .i64 n81, .int .i64 n82, .int .i64 n83, l84.v]] (sI .i64) (u1 fun (n92 : Int) =>
.untick <|
.call F.towpathref08_View_Fate [.pointer r, .agg #[.int .i64 n85, .int .i64 n86, .int .i64 n87, .int .i64 n88, .int .i64 n89, .int .i64 n90, l91.v]] (sI .i64) (u1 fun (n93 : Int) =>
.lt (.bool) (n92 == n93) fun b94 =>
.untick <|
.done 1 [.pointer v, .bool b94]))))) (u2 fun p95 b96 =>
.done 0 [.pointer p95, .bool b96])) (
.lt (.bool) (n31 == 7) fun b97 =>
.ite (b97) (
.call F.iso_View_Bytes [.pointer v] sL (u1 fun l98 =>
.call F.iso_Load [l98.v] (.tup [.one .ptr, .one (.int .i64)]) (u2 fun p99 (n100 : Int) =>
.lt (.int .i64) (n100) fun (n101 : Int) =>
.lt (.bool) (n101 == 0 && not (Option.isNone p99)) fun b102 =>
.done 0 [.pointer p99, .bool b102]))) (
.done 0 [.pointer v, .bool true]))))))))
theorem towpathlaw08_step_eq (v : Option Addr) (r : Option Addr) (o_0 : Int) (o_1 : Int) (o_2 : Int) (o_3 : Int) (o_4 : Int) (o_5 : Int) (o_6 : Int) (o_7 : Sl) (o_8 : Bool) (o_9 : Int) : decomp P 80 ⟨okFs, []⟩ { cnd := [(141733920788, [(20, .one .bool)]), (210453397524, [(20, .one .bool)]), (244813135892, [(20, .one .bool)]), (261993005076, [(20, .one .bool)])], blk := [], reg := [(1, [(8, .one .adr)]), (9, [(6, .one .ptr), (7, .one .bool)]), (11, [(6, .one .ptr), (7, .one .bool)]), (13, [(6, .one .ptr), (7, .one .bool)])], lps := [] } [.tmp 6, .tmp 7] (bodyOf Go.Proofs.Tryz.f5) [.val (.pointer v), .val (.pointer r), .val (.agg #[.int .i64 o_0, .int .i64 o_1, .int .i64 o_2, .int .i64 o_3, .int .i64 o_4, .int .i64 o_5, .int .i64 o_6, .slice o_7.a o_7.len o_7.cap, .bool o_8, .int .i64 o_9])] = towpathlaw08_step v r o_0 o_1 o_2 o_3 o_4 o_5 o_6 o_7 o_8 o_9 := by kernel_rfl
theorem towpathlaw08_step_calls (v : Option Addr) (r : Option Addr) (o_0 : Int) (o_1 : Int) (o_2 : Int) (o_3 : Int) (o_4 : Int) (o_5 : Int) (o_6 : Int) (o_7 : Sl) (o_8 : Bool) (o_9 : Int) {w : World} {R : List Value → World → Prop} (h : (towpathlaw08_step v r o_0 o_1 o_2 o_3 o_4 o_5 o_6 o_7 o_8 o_9).wp P (fun _ => True) w fun e vs w' => e = 0 ∧ R vs w') :
    Calls P F.towpathlaw08_step #[.pointer v, .pointer r, .agg #[.int .i64 o_0, .int .i64 o_1, .int .i64 o_2, .int .i64 o_3, .int .i64 o_4, .int .i64 o_5, .int .i64 o_6, .slice o_7.a o_7.len o_7.cap, .bool o_8, .int .i64 o_9]] w fun e w' => ∃ vs, e = .returned (pack vs) ∧ R vs w' :=
  decomp_sound (isFn_of Go.Proofs.Tryz.func5 (by kernel_rfl) (by kernel_rfl) (by kernel_rfl)) okFs_ok mix [.val (.pointer v), .val (.pointer r), .val (.agg #[.int .i64 o_0, .int .i64 o_1, .int .i64 o_2, .int .i64 o_3, .int .i64 o_4, .int .i64 o_5, .int .i64 o_6, .slice o_7.a o_7.len o_7.cap, .bool o_8, .int .i64 o_9])] (by rw [towpathlaw08_step_eq]; exact h)

def iso_View_Copy (v : Option Addr) : Prog :=
.ite (Option.isNone v) (
.done 0 [.pointer none]) (
.bind 1 [.one .ptr] (
.tick <|
.ex [.adr] (c1 fun a0 => v = some a0) (u1 fun a1 =>
.hold True (ld T.int64 (Addr.add a1 0)) (sI .i64) (u1 fun (n2 : Int) =>
.ex [.adr] (c1 fun a3 => v = some a3) (u1 fun a4 =>
.read True (ld T.m_int64_iso_life (Addr.add a4 1)) sM (u1 fun m5 =>
.ex [.adr] (c1 fun a6 => v = some a6) (u1 fun a7 =>
.hold True (ld T.m_iso_key_iso_life (Addr.add a7 2)) sM (u1 fun m8 =>
.call F.maps_Clone_map_int64_iso_life_int64_iso_life [.map m5] sM (u1 fun m9 =>
.call F.maps_Clone_map_iso_key_iso_life_iso_key_iso_life [.map m8] sM (u1 fun m10 =>
.untick <|
.act (Instr.box T.iso_View (.agg #[.int .i64 n2, .map m9, .map m10])) sA (u1 fun a11 =>
.untick <|
.done 1 [.pointer (some a11)])))))))))) (u1 fun p12 =>
.done 0 [.pointer p12]))
theorem iso_View_Copy_eq (v : Option Addr) : decomp P 21 ⟨okFs, []⟩ { cnd := [], blk := [], reg := [(3, [(2, .one .ptr)])], lps := [] } [.tmp 2] (bodyOf Go.Proofs.Tryz.f6) [.val (.pointer v)] = iso_View_Copy v := by kernel_rfl
theorem iso_View_Copy_calls (v : Option Addr) {w : World} {R : List Value → World → Prop} (h : (iso_View_Copy v).wp P (fun _ => True) w fun e vs w' => e = 0 ∧ R vs w') :
    Calls P F.iso_View_Copy #[.pointer v] w fun e w' => ∃ vs, e = .returned (pack vs) ∧ R vs w' :=
  decomp_sound (isFn_of Go.Proofs.Tryz.func6 (by kernel_rfl) (by kernel_rfl) (by kernel_rfl)) okFs_ok mix [.val (.pointer v)] (by rw [iso_View_Copy_eq]; exact h)

def towpathref08_View_Copy (v : Option Addr) : Prog :=
.ex [.adr] (c1 fun a0 => v = some a0) (u1 fun a1 =>
.read True (ld T.int64 (Addr.add a1 0)) (sI .i64) (u1 fun (n2 : Int) =>
.act (Instr.box T.towpathref08_View (.agg #[.int .i64 n2, .slice none 0 0, .slice none 0 0])) sA (u1 fun a3 =>
.bind 1 [] (
.tick <|
.read True (ld T.s_towpathref08_Txn (Addr.add a3 1)) sL (u1 fun l4 =>
.ex [.adr] (c1 fun a5 => v = some a5) (u1 fun a6 =>
.read True (ld T.s_towpathref08_Txn (Addr.add a6 1)) sL (u1 fun l7 =>
.act (app T.s_towpathref08_Txn T.s_towpathref08_Txn T.s_towpathref08_Txn l4.v l7.v) sL (u1 fun l8 =>
.actU (st T.s_towpathref08_Txn (Addr.add a3 1) l8.v) <|
.untick <|
.done 1 []))))) (u0 <|
.bind 1 [] (
.tick <|
.read True (ld T.s_towpathref08_Txn (Addr.add a3 2)) sL (u1 fun l9 =>
.ex [.adr] (c1 fun a10 => v = some a10) (u1 fun a11 =>
.read True (ld T.s_towpathref08_Txn (Addr.add a11 2)) sL (u1 fun l12 =>
.act (app T.s_towpathref08_Txn T.s_towpathref08_Txn T.s_towpathref08_Txn l9.v l12.v) sL (u1 fun l13 =>
.actU (st T.s_towpathref08_Txn (Addr.add a3 2) l13.v) <|
.untick <|
.done 1 []))))) (u0 <|
.done 0 [.pointer (some a3)])))))
theorem towpathref08_View_Copy_eq (v : Option Addr) : decomp P 35 ⟨okFs, []⟩ { cnd := [], blk := [], reg := [(2, []), (3, [])], lps := [] } [.tmp 2] (bodyOf Go.Proofs.Tryz.f7) [.val (.pointer v)] = towpathref08_View_Copy v := by kernel_rfl
theorem towpathref08_View_Copy_calls (v : Option Addr) {w : World} {R : List Value → World → Prop} (h : (towpathref08_View_Copy v).wp P (fun _ => True) w fun e vs w' => e = 0 ∧ R vs w') :
    Calls P F.towpathref08_View_Copy #[.pointer v] w fun e w' => ∃ vs, e = .returned (pack vs) ∧ R vs w' :=
  decomp_sound (isFn_of Go.Proofs.Tryz.func7 (by kernel_rfl) (by kernel_rfl) (by kernel_rfl)) okFs_ok mix [.val (.pointer v)] (by rw [towpathref08_View_Copy_eq]; exact h)

def towpathlaw08_same (v : Option Addr) (r : Option Addr) (all : Sl) : Prog :=
.bind 1 [.one .bool] (
.tick <|
.ex [.adr] (c1 fun a0 => Option.isNone v = false → r = some a0) (u1 fun a1 =>
.hold (Option.isNone v = false) (ld T.int64 (Addr.add a1 0)) (sI .i64) (u1 fun (n2 : Int) =>
.ite (Option.isNone v) (
.untick <|
.untick <|
.untick <|
.untick <|
.done 1 [.bool true]) (
.call F.iso_View_Next [.pointer v] (sI .i64) (u1 fun (n3 : Int) =>
.untick <|
.ite (n3 != n2) (
.untick <|
.untick <|
.untick <|
.done 1 [.bool true]) (
.call F.iso_View_Stable [.pointer v] (sI .i64) (u1 fun (n4 : Int) =>
.call F.towpathref08_View_Stable [.pointer r] (sI .i64) (u1 fun (n5 : Int) =>
.ex [.adr] (c1 fun a6 => (n4 != n5) = false → r = some a6) (u1 fun a7 =>
.hold ((n4 != n5) = false) (ld T.s_towpathref08_Txn (Addr.add a7 1)) sL (u1 fun l8 =>
.ite (n4 != n5) (
.untick <|
.untick <|
.untick <|
.done 1 [.bool true]) (
.call F.iso_View_Open [.pointer v] sL (u1 fun l9 =>
.untick <|
.call F.towpathlaw08_txns [l9.v, l8.v] sB (u1 fun b10 =>
.ex [.adr] (c1 fun a11 => not b10 = false → r = some a11) (u1 fun a12 =>
.hold (not b10 = false) (ld T.s_towpathref08_Txn (Addr.add a12 2)) sL (u1 fun l13 =>
.ite (not b10) (
.untick <|
.untick <|
.done 1 [.bool true]) (
.call F.iso_View_Fallen [.pointer v] sL (u1 fun l14 =>
.untick <|
.call F.towpathlaw08_txns [l14.v, l13.v] sB (u1 fun b15 =>
.ite (not b15) (
.untick <|
.done 1 [.bool true]) (
.call F.iso_View_Bytes [.pointer v] sL (u1 fun l16 =>
.hold True (convert T.s_uint8 T.string l16.v) sS (u1 fun s17 =>
.call F.towpathref08_View_Bytes [.pointer r] sL (u1 fun l18 =>
.read True (convert T.s_uint8 T.string l18.v) sS (u1 fun s19 =>
.untick <|
.done 1 [.bool (not (ByteArray.toList s17 == ByteArray.toList s19))]))))))))))))))))))))))) (u1 fun b20 =>
.ite (b20) (
.done 0 [.bool false]) (
.call F.iso_View_Pick [.pointer v, all.v] sL (u1 fun l21 =>
.call F.towpathref08_View_Pick [.pointer r, all.v] sL (u1 fun l22 =>
.call F.towpathlaw08_records [l21.v, l22.v] sB (u1 fun b23 =>
.lt (.bool) (b23) fun b24 =>
.done 0 [.bool b24])))))
theorem towpathlaw08_same_eq (v : Option Addr) (r : Option Addr) (all : Sl) : decomp P 61 ⟨okFs, []⟩ { cnd := [], blk := [], reg := [(1, [(53, .one .bool)])], lps := [] } [.tmp 6] (bodyOf Go.Proofs.Tryz.f8) [.val (.pointer v), .val (.pointer r), .val (.slice all.a all.len all.cap)] = towpathlaw08_same v r all := by kernel_rfl
theorem towpathlaw08_same_calls (v : Option Addr) (r : Option Addr) (all : Sl) {w : World} {R : List Value → World → Prop} (h : (towpathlaw08_same v r all).wp P (fun _ => True) w fun e vs w' => e = 0 ∧ R vs w') :
    Calls P F.towpathlaw08_same #[.pointer v, .pointer r, .slice all.a all.len all.cap] w fun e w' => ∃ vs, e = .returned (pack vs) ∧ R vs w' :=
  decomp_sound (isFn_of Go.Proofs.Tryz.func8 (by kernel_rfl) (by kernel_rfl) (by kernel_rfl)) okFs_ok mix [.val (.pointer v), .val (.pointer r), .val (.slice all.a all.len all.cap)] (by rw [towpathlaw08_same_eq]; exact h)

def iso_Load (raw : Sl) : Prog :=
.call F.frame_Open [raw.v] (.tup [.one .slc, .one .bool]) (u2 fun l0 b1 =>
.lt (.bool) (b1) fun b2 =>
.ite (not b2) (
.done 0 [.pointer none, .int .i64 6]) (
.call F.wire_NewReader [l0.v] sP (u1 fun p3 =>
.call F.iso_New [] sP (u1 fun p4 =>
.call F.iso_upto [.pointer p3, .int .i64 1099511627777] (sI .i64) (u1 fun (n5 : Int) =>
.ex [.adr] (c1 fun a6 => p4 = some a6) (u1 fun a7 =>
.actU (st T.int64 (Addr.add a7 0) (.int .i64 n5)) <|
.bind 1 [.one .bool] (
.ex [.adr] (c1 fun a8 => p4 = some a8) (u1 fun a9 =>
.read True (ld T.int64 (Addr.add a9 0)) (sI .i64) (u1 fun (n10 : Int) =>
.ite (decide (n10 > 1099511627777)) (
.done 1 [.bool true]) (
.call F.iso_View_opened [.pointer p4, .pointer p3] sB (u1 fun b11 =>
.ite (not b11) (
.done 1 [.bool true]) (
.call F.iso_View_fell [.pointer p4, .pointer p3] sB (u1 fun b12 =>
.ite (not b12) (
.done 1 [.bool true]) (
.call F.wire_Reader_End [.pointer p3] (sI .i64) (u1 fun (n13 : Int) =>
.done 1 [.bool (n13 != 0)]))))))))) (u1 fun b14 =>
.ite (b14) (
.done 0 [.pointer none, .int .i64 6]) (
.done 0 [.pointer p4, .int .i64 0]))))))))
theorem iso_Load_eq (raw : Sl) : decomp P 46 ⟨okFs, []⟩ { cnd := [], blk := [], reg := [(7, [(44, .one .bool)])], lps := [] } [.tmp 2, .tmp 3] (bodyOf Go.Proofs.Tryz.f18) [.val (.slice raw.a raw.len raw.cap)] = iso_Load raw := by kernel_rfl
theorem iso_Load_calls (raw : Sl) {w : World} {R : List Value → World → Prop} (h : (iso_Load raw).wp P (fun _ => True) w fun e vs w' => e = 0 ∧ R vs w') :
    Calls P F.iso_Load #[.slice raw.a raw.len raw.cap] w fun e w' => ∃ vs, e = .returned (pack vs) ∧ R vs w' :=
  decomp_sound (isFn_of Go.Proofs.Tryz.func18 (by kernel_rfl) (by kernel_rfl) (by kernel_rfl)) okFs_ok mix [.val (.slice raw.a raw.len raw.cap)] (by rw [iso_Load_eq]; exact h)

def iso_View_Bytes (v : Option Addr) : Prog :=
.ite (Option.isNone v) (
.done 0 [.slice none 0 0]) (
.call F.iso_View_Open [.pointer v] sL (u1 fun l0 =>
.call F.iso_View_Fallen [.pointer v] sL (u1 fun l1 =>
.ex [.adr] (c1 fun a2 => v = some a2) (u1 fun a3 =>
.read True (ld T.int64 (Addr.add a3 0)) (sI .i64) (u1 fun (n4 : Int) =>
.call F.wire_Uint [.int .u64 (IntKind.wrap .u64 n4)] sL (u1 fun l5 =>
.call F.wire_Uint [.int .u64 (IntKind.wrap .u64 (((l0.len : Nat) : Int)))] sL (u1 fun l6 =>
.act (Instr.buildSlice T.s_s_uint8 2 #[(0, l5.v), (1, l6.v)]) sL (u1 fun l7 =>
.call F.wire_Join [l7.v] sL (u1 fun l8 =>
.bind 1 [.one .slc] (
.loop 2 [.one .slc, .one (.int .i64)] ({ a := l8.a, len := l8.len, cap := l8.cap }, (0, ())) (u2 fun l9 (n10 : Int) =>
.ite (decide (n10 < ((l0.len : Nat) : Int))) (
.ex [.adr] (c1 fun a11 => 0 ≤ n10 ∧ n10 < ((l0.len : Nat) : Int) ∧ l0.a = some a11) (u1 fun a12 =>
.read True (ld T.iso_Txn (Addr.add a12 (Int.toNat n10 * 4))) (sG [.int .i64, .int .i64, .int .i64, .int .i64]) (u4 fun (n13 : Int) (n14 : Int) (n15 : Int) (n16 : Int) =>
.act (new T.iso_Txn) sA (u1 fun a17 =>
.actU (st T.iso_Txn a17 (.agg #[.int .i64 n13, .int .i64 n14, .int .i64 n15, .int .i64 n16])) <|
.bind 3 [.one .slc] (
.tick <|
.read True (ld T.int64 (Addr.add a17 0)) (sI .i64) (u1 fun (n18 : Int) =>
.hold True (ld T.int (Addr.add a17 1)) (sI .i64) (u1 fun (n19 : Int) =>
.hold True (ld T.int64 (Addr.add a17 2)) (sI .i64) (u1 fun (n20 : Int) =>
.call F.wire_Uint [.int .u64 (IntKind.wrap .u64 n18)] sL (u1 fun l21 =>
.call F.wire_Uint [.int .u64 (IntKind.wrap .u64 n19)] sL (u1 fun l22 =>
.untick <|
.call F.wire_Uint [.int .u64 (IntKind.wrap .u64 n20)] sL (u1 fun l23 =>
.act (Instr.buildSlice T.s_s_uint8 3 #[(0, l21.v), (1, l22.v), (2, l23.v)]) sL (u1 fun l24 =>
.call F.wire_Join [l24.v] sL (u1 fun l25 =>
.act (app T.s_uint8 T.s_uint8 T.s_uint8 l9.v l25.v) sL (u1 fun l26 =>
.untick <|
.done 3 [l26.v])))))))))) (u1 fun l27 =>
.done 2 [l27.v, .int .i64 (IntKind.wrap .i64 (n10 + 1))]))))) (
.done 1 [l9.v]))) (u1 fun l28 =>
.call F.wire_Uint [.int .u64 (IntKind.wrap .u64 (((l1.len : Nat) : Int)))] sL (u1 fun l29 =>
.act (app T.s_uint8 T.s_uint8 T.s_uint8 l28.v l29.v) sL (u1 fun l30 =>
.bind 1 [.one .slc] (
.loop 2 [.one .slc, .one (.int .i64)] ({ a := l30.a, len := l30.len, cap := l30.cap }, (0, ())) (u2 fun l31 (n32 : Int) =>
.ite (decide (n32 < ((l1.len : Nat) : Int))) (
.ex [.adr] (c1 fun a33 => 0 ≤ n32 ∧ n32 < ((l1.len : Nat) : Int) ∧ l1.a = some a33) (u1 fun a34 =>
.read True (ld T.iso_Txn (Addr.add a34 (Int.toNat n32 * 4))) (sG [.int .i64, .int .i64, .int .i64, .int .i64]) (u4 fun (n35 : Int) (n36 : Int) (n37 : Int) (n38 : Int) =>
.act (new T.iso_Txn) sA (u1 fun a39 =>
.actU (st T.iso_Txn a39 (.agg #[.int .i64 n35, .int .i64 n36, .int .i64 n37, .int .i64 n38])) <|
.bind 3 [.one .slc] (
.tick <|
.read True (ld T.int64 (Addr.add a39 0)) (sI .i64) (u1 fun (n40 : Int) =>
.hold True (ld T.int (Addr.add a39 1)) (sI .i64) (u1 fun (n41 : Int) =>
.hold True (ld T.int64 (Addr.add a39 2)) (sI .i64) (u1 fun (n42 : Int) =>
.hold True (ld T.int64 (Addr.add a39 3)) (sI .i64) (u1 fun (n43 : Int) =>
.call F.wire_Uint [.int .u64 (IntKind.wrap .u64 n40)] sL (u1 fun l44 =>
.call F.wire_Uint [.int .u64 (IntKind.wrap .u64 n41)] sL (u1 fun l45 =>
.call F.wire_Uint [.int .u64 (IntKind.wrap .u64 n42)] sL (u1 fun l46 =>
.untick <|
.call F.wire_Uint [.int .u64 (IntKind.wrap .u64 n43)] sL (u1 fun l47 =>
.act (Instr.buildSlice T.s_s_uint8 4 #[(0, l44.v), (1, l45.v), (2, l46.v), (3, l47.v)]) sL (u1 fun l48 =>
.call F.wire_Join [l48.v] sL (u1 fun l49 =>
.act (app T.s_uint8 T.s_uint8 T.s_uint8 l31.v l49.v) sL (u1 fun l50 =>
.untick <|
.done 3 [l50.v])))))))))))) (u1 fun l51 =>
.done 2 [l51.v, .int .i64 (IntKind.wrap .i64 (n32 + 1))]))))) (
.done 1 [l31.v]))) (u1 fun l52 =>
.act (Instr.buildSlice T.s_s_uint8 1 #[(0, l52.v)]) sL (u1 fun l53 =>
.call F.frame_Seal [l53.v] sL (u1 fun l54 =>
.done 0 [l54.v])))))))))))))))
theorem iso_View_Bytes_eq (v : Option Addr) : decomp P 87 ⟨okFs, []⟩ { cnd := [], blk := [(0, [(5, .one .slc)]), (2, [(5, .one .slc)])], reg := [(8, [(5, .one .slc)]), (14, [(5, .one .slc)])], lps := [(0, [(5, .one .slc), (30, .one (.int .i64))]), (2, [(5, .one .slc), (59, .one (.int .i64))])] } [.tmp 2] (bodyOf Go.Proofs.Tryz.f19) [.val (.pointer v)] = iso_View_Bytes v := by kernel_rfl
theorem iso_View_Bytes_calls (v : Option Addr) {w : World} {R : List Value → World → Prop} (h : (iso_View_Bytes v).wp P (fun _ => True) w fun e vs w' => e = 0 ∧ R vs w') :
    Calls P F.iso_View_Bytes #[.pointer v] w fun e w' => ∃ vs, e = .returned (pack vs) ∧ R vs w' :=
  decomp_sound (isFn_of Go.Proofs.Tryz.func19 (by kernel_rfl) (by kernel_rfl) (by kernel_rfl)) okFs_ok mix [.val (.pointer v)] (by rw [iso_View_Bytes_eq]; exact h)

def towpathref08_View_Bytes (v : Option Addr) : Prog :=
.ex [.adr] (c1 fun a0 => v = some a0) (u1 fun a1 =>
.read True (ld T.int64 (Addr.add a1 0)) (sI .i64) (u1 fun (n2 : Int) =>
.call F.towpathref01_Uint [.int .u64 (IntKind.wrap .u64 n2)] sL (u1 fun l3 =>
.ex [.adr] (c1 fun a4 => v = some a4) (u1 fun a5 =>
.read True (ld T.s_towpathref08_Txn (Addr.add a5 1)) sL (u1 fun l6 =>
.call F.towpathref01_Uint [.int .u64 (IntKind.wrap .u64 (((l6.len : Nat) : Int)))] sL (u1 fun l7 =>
.act (app T.s_uint8 T.s_uint8 T.s_uint8 l3.v l7.v) sL (u1 fun l8 =>
.ex [.adr] (c1 fun a9 => v = some a9) (u1 fun a10 =>
.read True (ld T.s_towpathref08_Txn (Addr.add a10 1)) sL (u1 fun l11 =>
.bind 1 [.one .slc] (
.loop 2 [.one .slc, .one (.int .i64)] ({ a := l8.a, len := l8.len, cap := l8.cap }, (0, ())) (u2 fun l12 (n13 : Int) =>
.ite (decide (n13 < ((l11.len : Nat) : Int))) (
.ex [.adr] (c1 fun a14 => 0 ≤ n13 ∧ n13 < ((l11.len : Nat) : Int) ∧ l11.a = some a14) (u1 fun a15 =>
.read True (ld T.towpathref08_Txn (Addr.add a15 (Int.toNat n13 * 4))) (sG [.int .i64, .int .i64, .int .i64, .int .i64]) (u4 fun (n16 : Int) (n17 : Int) (n18 : Int) (n19 : Int) =>
.act (new T.towpathref08_Txn) sA (u1 fun a20 =>
.actU (st T.towpathref08_Txn a20 (.agg #[.int .i64 n16, .int .i64 n17, .int .i64 n18, .int .i64 n19])) <|
.read True (ld T.int64 (Addr.add a20 0)) (sI .i64) (u1 fun (n21 : Int) =>
.call F.towpathref01_Uint [.int .u64 (IntKind.wrap .u64 n21)] sL (u1 fun l22 =>
.act (app T.s_uint8 T.s_uint8 T.s_uint8 l12.v l22.v) sL (u1 fun l23 =>
.read True (ld T.int (Addr.add a20 1)) (sI .i64) (u1 fun (n24 : Int) =>
.call F.towpathref01_Uint [.int .u64 (IntKind.wrap .u64 n24)] sL (u1 fun l25 =>
.act (app T.s_uint8 T.s_uint8 T.s_uint8 l23.v l25.v) sL (u1 fun l26 =>
.read True (ld T.int64 (Addr.add a20 2)) (sI .i64) (u1 fun (n27 : Int) =>
.call F.towpathref01_Uint [.int .u64 (IntKind.wrap .u64 n27)] sL (u1 fun l28 =>
.act (app T.s_uint8 T.s_uint8 T.s_uint8 l26.v l28.v) sL (u1 fun l29 =>
.done 2 [l29.v, .int .i64 (IntKind.wrap .i64 (n13 + 1))]))))))))))))) (
.done 1 [l12.v]))) (u1 fun l30 =>
.ex [.adr] (c1 fun a31 => v = some a31) (u1 fun a32 =>
.read True (ld T.s_towpathref08_Txn (Addr.add a32 2)) sL (u1 fun l33 =>
.call F.towpathref01_Uint [.int .u64 (IntKind.wrap .u64 (((l33.len : Nat) : Int)))] sL (u1 fun l34 =>
.act (app T.s_uint8 T.s_uint8 T.s_uint8 l30.v l34.v) sL (u1 fun l35 =>
.ex [.adr] (c1 fun a36 => v = some a36) (u1 fun a37 =>
.read True (ld T.s_towpathref08_Txn (Addr.add a37 2)) sL (u1 fun l38 =>
.bind 1 [.one .slc] (
.loop 2 [.one .slc, .one (.int .i64)] ({ a := l35.a, len := l35.len, cap := l35.cap }, (0, ())) (u2 fun l39 (n40 : Int) =>
.ite (decide (n40 < ((l38.len : Nat) : Int))) (
.ex [.adr] (c1 fun a41 => 0 ≤ n40 ∧ n40 < ((l38.len : Nat) : Int) ∧ l38.a = some a41) (u1 fun a42 =>
.read True (ld T.towpathref08_Txn (Addr.add a42 (Int.toNat n40 * 4))) (sG [.int .i64, .int .i64, .int .i64, .int .i64]) (u4 fun (n43 : Int) (n44 : Int) (n45 : Int) (n46 : Int) =>
.act (new T.towpathref08_Txn) sA (u1 fun a47 =>
.actU (st T.towpathref08_Txn a47 (.agg #[.int .i64 n43, .int .i64 n44, .int .i64 n45, .int .i64 n46])) <|
.read True (ld T.int64 (Addr.add a47 0)) (sI .i64) (u1 fun (n48 : Int) =>
.call F.towpathref01_Uint [.int .u64 (IntKind.wrap .u64 n48)] sL (u1 fun l49 =>
.act (app T.s_uint8 T.s_uint8 T.s_uint8 l39.v l49.v) sL (u1 fun l50 =>
.read True (ld T.int (Addr.add a47 1)) (sI .i64) (u1 fun (n51 : Int) =>
.call F.towpathref01_Uint [.int .u64 (IntKind.wrap .u64 n51)] sL (u1 fun l52 =>
.act (app T.s_uint8 T.s_uint8 T.s_uint8 l50.v l52.v) sL (u1 fun l53 =>
.read True (ld T.int64 (Addr.add a47 2)) (sI .i64) (u1 fun (n54 : Int) =>
.call F.towpathref01_Uint [.int .u64 (IntKind.wrap .u64 n54)] sL (u1 fun l55 =>
.act (app T.s_uint8 T.s_uint8 T.s_uint8 l53.v l55.v) sL (u1 fun l56 =>
.read True (ld T.int64 (Addr.add a47 3)) (sI .i64) (u1 fun (n57 : Int) =>
.call F.towpathref01_Uint [.int .u64 (IntKind.wrap .u64 n57)] sL (u1 fun l58 =>
.act (app T.s_uint8 T.s_uint8 T.s_uint8 l56.v l58.v) sL (u1 fun l59 =>
.done 2 [l59.v, .int .i64 (IntKind.wrap .i64 (n40 + 1))])))))))))))))))) (
.done 1 [l39.v]))) (u1 fun l60 =>
.call F.towpathref02_Seal [l60.v] sL (u1 fun l61 =>
.done 0 [l61.v]))))))))))))))))))
theorem towpathref08_View_Bytes_eq (v : Option Addr) : decomp P 96 ⟨okFs, []⟩ { cnd := [], blk := [(0, [(3, .one .slc)]), (2, [(3, .one .slc)])], reg := [], lps := [(0, [(3, .one .slc), (28, .one (.int .i64))]), (2, [(3, .one .slc), (65, .one (.int .i64))])] } [.tmp 2] (bodyOf Go.Proofs.Tryz.f28) [.val (.pointer v)] = towpathref08_View_Bytes v := by kernel_rfl
theorem towpathref08_View_Bytes_calls (v : Option Addr) {w : World} {R : List Value → World → Prop} (h : (towpathref08_View_Bytes v).wp P (fun _ => True) w fun e vs w' => e = 0 ∧ R vs w') :
    Calls P F.towpathref08_View_Bytes #[.pointer v] w fun e w' => ∃ vs, e = .returned (pack vs) ∧ R vs w' :=
  decomp_sound (isFn_of Go.Proofs.Tryz.func28 (by kernel_rfl) (by kernel_rfl) (by kernel_rfl)) okFs_ok mix [.val (.pointer v)] (by rw [towpathref08_View_Bytes_eq]; exact h)

def frame_Open (b : Sl) : Prog :=
.call F.frame_First [b.v] (.tup [.one .slc, .one (.int .i64), .one .bool]) (u3 fun l0 (n1 : Int) b2 =>
.lt (.int .i64) (n1) fun (n3 : Int) =>
.lt (.bool) (b2) fun b4 =>
.ite (not b4 || n3 != ((b.len : Nat) : Int)) (
.done 0 [.slice none 0 0, .bool false]) (
.done 0 [l0.v, .bool true]))
theorem frame_Open_eq (b : Sl) : decomp P 22 ⟨okFs, []⟩ { cnd := [], blk := [], reg := [], lps := [] } [.tmp 2, .tmp 3] (bodyOf Go.Proofs.Tryz.f44) [.val (.slice b.a b.len b.cap)] = frame_Open b := by kernel_rfl
theorem frame_Open_calls (b : Sl) {w : World} {R : List Value → World → Prop} (h : (frame_Open b).wp P (fun _ => True) w fun e vs w' => e = 0 ∧ R vs w') :
    Calls P F.frame_Open #[.slice b.a b.len b.cap] w fun e w' => ∃ vs, e = .returned (pack vs) ∧ R vs w' :=
  decomp_sound (isFn_of Go.Proofs.Tryz.func44 (by kernel_rfl) (by kernel_rfl) (by kernel_rfl)) okFs_ok mix [.val (.slice b.a b.len b.cap)] (by rw [frame_Open_eq]; exact h)

def wire_NewReader (b : Sl) : Prog :=
.call F.bytes_Clone [b.v] sL (u1 fun l0 =>
.act (Instr.box T.wire_Reader (.agg #[l0.v, .int .i64 0, .int .i64 0])) sA (u1 fun a1 =>
.done 0 [.pointer (some a1)]))
theorem wire_NewReader_eq (b : Sl) : decomp P 8 ⟨okFs, []⟩ { cnd := [], blk := [], reg := [], lps := [] } [.tmp 2] (bodyOf Go.Proofs.Tryz.f45) [.val (.slice b.a b.len b.cap)] = wire_NewReader b := by kernel_rfl
theorem wire_NewReader_calls (b : Sl) {w : World} {R : List Value → World → Prop} (h : (wire_NewReader b).wp P (fun _ => True) w fun e vs w' => e = 0 ∧ R vs w') :
    Calls P F.wire_NewReader #[.slice b.a b.len b.cap] w fun e w' => ∃ vs, e = .returned (pack vs) ∧ R vs w' :=
  decomp_sound (isFn_of Go.Proofs.Tryz.func45 (by kernel_rfl) (by kernel_rfl) (by kernel_rfl)) okFs_ok mix [.val (.slice b.a b.len b.cap)] (by rw [wire_NewReader_eq]; exact h)

def iso_upto (r : Option Addr) (most : Int) : Prog :=
.call F.wire_Reader_Uint [.pointer r] (sI .u64) (u1 fun (n0 : Int) =>
.lt (.int .u64) (n0) fun (n1 : Int) =>
.ite (decide (n1 > IntKind.wrap .u64 most)) (
.lt (.int .i64) (IntKind.wrap .i64 (most + 1)) fun (n2 : Int) =>
.done 0 [.int .i64 n2]) (
.lt (.int .i64) (IntKind.wrap .i64 n1) fun (n3 : Int) =>
.done 0 [.int .i64 n3]))
theorem iso_upto_eq (r : Option Addr) (most : Int) : decomp P 16 ⟨okFs, []⟩ { cnd := [], blk := [], reg := [], lps := [] } [.tmp 4] (bodyOf Go.Proofs.Tryz.f46) [.val (.pointer r), .val (.int .i64 most)] = iso_upto r most := by kernel_rfl
theorem iso_upto_calls (r : Option Addr) (most : Int) {w : World} {R : List Value → World → Prop} (h : (iso_upto r most).wp P (fun _ => True) w fun e vs w' => e = 0 ∧ R vs w') :
    Calls P F.iso_upto #[.pointer r, .int .i64 most] w fun e w' => ∃ vs, e = .returned (pack vs) ∧ R vs w' :=
  decomp_sound (isFn_of Go.Proofs.Tryz.func46 (by kernel_rfl) (by kernel_rfl) (by kernel_rfl)) okFs_ok mix [.val (.pointer r), .val (.int .i64 most)] (by rw [iso_upto_eq]; exact h)

def iso_View_opened (v : Option Addr) (r : Option Addr) : Prog :=
.call F.iso_upto [.pointer r, .int .i64 1024] (sI .i64) (u1 fun (n0 : Int) =>
.lt (.int .i64) (n0) fun (n1 : Int) =>
.bind 1 [] (
.loop 2 [.one (.int .i64), .one (.int .i64)] (-1, (0, ())) (u2 fun (n2 : Int) (n3 : Int) =>
.ite (decide (n3 < n1)) (
.ex [.adr] (c1 fun a4 => v = some a4) (u1 fun a5 =>
.read True (ld T.int64 (Addr.add a5 0)) (sI .i64) (u1 fun (n6 : Int) =>
.call F.iso_named [.pointer r, .int .i64 n6] (.tup [.agg [.int .i64, .int .i64, .int .i64, .int .i64], .one .bool]) (u5 fun (n7 : Int) (n8 : Int) (n9 : Int) (n10 : Int) b11 =>
.act (new T.iso_life) sA (u1 fun a12 =>
.actU (st T.iso_life a12 (.agg #[.int .i64 n7, .int .i64 n8, .int .i64 n9, .int .i64 n10])) <|
.lt (.bool) (b11) fun b13 =>
.bind 3 [.one .bool] (
.tick <|
.ex [.adr] (c1 fun a14 => v = some a14) (u1 fun a15 =>
.hold True (ld T.m_int64_iso_life (Addr.add a15 1)) sM (u1 fun m16 =>
.hold True (ld T.int64 (Addr.add (Addr.add a12 0) 0)) (sI .i64) (u1 fun (n17 : Int) =>
.hold True (Instr.lookup T.m_int64_iso_life (.map m16) (.int .i64 n17) true) (.tup [.agg [.int .i64, .int .i64, .int .i64, .int .i64], .one .bool]) (u5 fun (n18 : Int) (n19 : Int) (n20 : Int) (n21 : Int) b22 =>
.act (new T.iso_life) sA (u1 fun a23 =>
.untick <|
.actU (st T.iso_life a23 (.agg #[.int .i64 n18, .int .i64 n19, .int .i64 n20, .int .i64 n21])) <|
.lt (.bool) (b22) fun b24 =>
.untick <|
.done 3 [.bool b24])))))) (u1 fun b25 =>
.read ((not b13 || b25) = false) (ld T.int64 (Addr.add a12 2)) (sI .i64) (u1 fun (n26 : Int) =>
.ite (not b13 || b25 || decide (n26 ≤ n2) || decide (n3 ≥ 1024)) (
.done 0 [.bool false]) (
.tick <|
.ex [.adr] (c1 fun a27 => v = some a27) (u1 fun a28 =>
.read True (ld T.m_int64_iso_life (Addr.add a28 1)) sM (u1 fun m29 =>
.read True (ld T.int64 (Addr.add (Addr.add a12 0) 0)) (sI .i64) (u1 fun (n30 : Int) =>
.read True (ld T.iso_life a12) (sG [.int .i64, .int .i64, .int .i64, .int .i64]) (u4 fun (n31 : Int) (n32 : Int) (n33 : Int) (n34 : Int) =>
.actU (Instr.mapUpdate T.m_int64_iso_life (.map m29) (.int .i64 n30) (.agg #[.int .i64 n31, .int .i64 n32, .int .i64 n33, .int .i64 n34])) <|
.untick <|
.read True (ld T.int64 (Addr.add a12 2)) (sI .i64) (u1 fun (n35 : Int) =>
.lt (.int .i64) (n35) fun (n36 : Int) =>
.lt (.int .i64) (IntKind.wrap .i64 (n3 + 1)) fun (n37 : Int) =>
.done 2 [.int .i64 n36, .int .i64 n37]))))))))))))) (
.done 1 []))) (u0 <|
.call F.wire_Reader_Err [.pointer r] (sI .i64) (u1 fun (n38 : Int) =>
.lt (.bool) (n38 == 0) fun b39 =>
.done 0 [.bool b39])))
theorem iso_View_opened_eq (v : Option Addr) (r : Option Addr) : decomp P 67 ⟨okFs, []⟩ { cnd := [], blk := [(0, [])], reg := [(7, [(11, .one .bool)])], lps := [(0, [(6, .one (.int .i64)), (7, .one (.int .i64))])] } [.tmp 4] (bodyOf Go.Proofs.Tryz.f47) [.val (.pointer v), .val (.pointer r)] = iso_View_opened v r := by kernel_rfl
theorem iso_View_opened_calls (v : Option Addr) (r : Option Addr) {w : World} {R : List Value → World → Prop} (h : (iso_View_opened v r).wp P (fun _ => True) w fun e vs w' => e = 0 ∧ R vs w') :
    Calls P F.iso_View_opened #[.pointer v, .pointer r] w fun e w' => ∃ vs, e = .returned (pack vs) ∧ R vs w' :=
  decomp_sound (isFn_of Go.Proofs.Tryz.func47 (by kernel_rfl) (by kernel_rfl) (by kernel_rfl)) okFs_ok mix [.val (.pointer v), .val (.pointer r)] (by rw [iso_View_opened_eq]; exact h)

def iso_View_fell (v : Option Addr) (r : Option Addr) : Prog :=
.call F.iso_upto [.pointer r, .int .i64 4096] (sI .i64) (u1 fun (n0 : Int) =>
.lt (.int .i64) (n0) fun (n1 : Int) =>
.bind 1 [] (
.loop 2 [.one (.int .i64), .one (.int .i64)] (-1, (0, ())) (u2 fun (n2 : Int) (n3 : Int) =>
.ite (decide (n3 < n1)) (
.ex [.adr] (c1 fun a4 => v = some a4) (u1 fun a5 =>
.read True (ld T.int64 (Addr.add a5 0)) (sI .i64) (u1 fun (n6 : Int) =>
.call F.iso_named [.pointer r, .int .i64 n6] (.tup [.agg [.int .i64, .int .i64, .int .i64, .int .i64], .one .bool]) (u5 fun (n7 : Int) (n8 : Int) (n9 : Int) (n10 : Int) b11 =>
.act (new T.iso_life) sA (u1 fun a12 =>
.actU (st T.iso_life a12 (.agg #[.int .i64 n7, .int .i64 n8, .int .i64 n9, .int .i64 n10])) <|
.lt (.bool) (b11) fun b13 =>
.call F.iso_upto [.pointer r, .int .i64 1099511627776] (sI .i64) (u1 fun (n14 : Int) =>
.actU (st T.int64 (Addr.add a12 3) (.int .i64 n14)) <|
.bind 3 [.one .bool] (
.tick <|
.ex [.adr] (c1 fun a15 => v = some a15) (u1 fun a16 =>
.hold True (ld T.m_iso_key_iso_life (Addr.add a16 2)) sM (u1 fun m17 =>
.hold True (ld T.iso_key (Addr.add a12 0)) (sG [.int .i64, .int .i64]) (u2 fun (n18 : Int) (n19 : Int) =>
.hold True (Instr.lookup T.m_iso_key_iso_life (.map m17) (.agg #[.int .i64 n18, .int .i64 n19]) true) (.tup [.agg [.int .i64, .int .i64, .int .i64, .int .i64], .one .bool]) (u5 fun (n20 : Int) (n21 : Int) (n22 : Int) (n23 : Int) b24 =>
.act (new T.iso_life) sA (u1 fun a25 =>
.untick <|
.actU (st T.iso_life a25 (.agg #[.int .i64 n20, .int .i64 n21, .int .i64 n22, .int .i64 n23])) <|
.lt (.bool) (b24) fun b26 =>
.untick <|
.done 3 [.bool b26])))))) (u1 fun b27 =>
.bind 3 [.one .bool] (
.tick <|
.ite (not b13) (
.untick <|
.done 3 [.bool true]) (
.call F.wire_Reader_Err [.pointer r] (sI .i64) (u1 fun (n28 : Int) =>
.ex [.adr] (c1 fun a29 => (n28 != 0 || b27) = false → v = some a29) (u1 fun a30 =>
.read ((n28 != 0 || b27) = false) (ld T.m_int64_iso_life (Addr.add a30 1)) sM (u1 fun m31 =>
.read ((n28 != 0 || b27) = false) (ld T.int64 (Addr.add (Addr.add a12 0) 0)) (sI .i64) (u1 fun (n32 : Int) =>
.read ((n28 != 0 || b27) = false) (Instr.lookup T.m_int64_iso_life (.map m31) (.int .i64 n32) false) (sG [.int .i64, .int .i64, .int .i64, .int .i64]) (u4 fun (n33 : Int) (n34 : Int) (n35 : Int) (n36 : Int) =>
.read ((n28 != 0 || b27) = false) (ld T.iso_key (Addr.add a12 0)) (sG [.int .i64, .int .i64]) (u2 fun (n37 : Int) (n38 : Int) =>
.read ((n28 != 0 || b27 || n33 == n37 && n34 == n38) = false) (ld T.int64 (Addr.add a12 3)) (sI .i64) (u1 fun (n39 : Int) =>
.read ((n28 != 0 || b27 || n33 == n37 && n34 == n38 || decide (n39 ≤ n2)) = false) (ld T.int64 (Addr.add a12 3)) (sI .i64) (u1 fun (n40 : Int) =>
.read ((n28 != 0 || b27 || n33 == n37 && n34 == n38 || decide (n39 ≤ n2)) = false) (ld T.int64 (Addr.add a12 2)) (sI .i64) (u1 fun (n41 : Int) =>
.read ((n28 != 0 || b27 || n33 == n37 && n34 == n38 || decide (n39 ≤ n2) || decide (n40 ≤ n41)) = false) (ld T.int64 (Addr.add a12 3)) (sI .i64) (u1 fun (n42 : Int) =>
.ex [.adr] (c1 fun a43 => (n28 != 0 || b27 || n33 == n37 && n34 == n38 || decide (n39 ≤ n2) || decide (n40 ≤ n41)) = false → v = some a43) (u1 fun a44 =>
.read ((n28 != 0 || b27 || n33 == n37 && n34 == n38 || decide (n39 ≤ n2) || decide (n40 ≤ n41)) = false) (ld T.int64 (Addr.add a44 0)) (sI .i64) (u1 fun (n45 : Int) =>
.untick <|
.done 3 [.bool (n28 != 0 || b27 || n33 == n37 && n34 == n38 || decide (n39 ≤ n2) || decide (n40 ≤ n41) || decide (n42 ≥ n45) || decide (n3 ≥ 4096))])))))))))))))) (u1 fun b46 =>
.ite (b46) (
.done 0 [.bool false]) (
.tick <|
.ex [.adr] (c1 fun a47 => v = some a47) (u1 fun a48 =>
.read True (ld T.m_iso_key_iso_life (Addr.add a48 2)) sM (u1 fun m49 =>
.read True (ld T.iso_key (Addr.add a12 0)) (sG [.int .i64, .int .i64]) (u2 fun (n50 : Int) (n51 : Int) =>
.read True (ld T.iso_life a12) (sG [.int .i64, .int .i64, .int .i64, .int .i64]) (u4 fun (n52 : Int) (n53 : Int) (n54 : Int) (n55 : Int) =>
.actU (Instr.mapUpdate T.m_iso_key_iso_life (.map m49) (.agg #[.int .i64 n50, .int .i64 n51]) (.agg #[.int .i64 n52, .int .i64 n53, .int .i64 n54, .int .i64 n55])) <|
.untick <|
.read True (ld T.int64 (Addr.add a12 3)) (sI .i64) (u1 fun (n56 : Int) =>
.lt (.int .i64) (n56) fun (n57 : Int) =>
.lt (.int .i64) (IntKind.wrap .i64 (n3 + 1)) fun (n58 : Int) =>
.done 2 [.int .i64 n57, .int .i64 n58])))))))))))))) (
.done 1 []))) (u0 <|
.call F.wire_Reader_Err [.pointer r] (sI .i64) (u1 fun (n59 : Int) =>
.lt (.bool) (n59 == 0) fun b60 =>
.done 0 [.bool b60])))
theorem iso_View_fell_eq (v : Option Addr) (r : Option Addr) : decomp P 103 ⟨okFs, []⟩ { cnd := [], blk := [(0, [])], reg := [(8, [(11, .one .bool)]), (9, [(90, .one .bool)])], lps := [(0, [(6, .one (.int .i64)), (7, .one (.int .i64))])] } [.tmp 4] (bodyOf Go.Proofs.Tryz.f48) [.val (.pointer v), .val (.pointer r)] = iso_View_fell v r := by kernel_rfl
theorem iso_View_fell_calls (v : Option Addr) (r : Option Addr) {w : World} {R : List Value → World → Prop} (h : (iso_View_fell v r).wp P (fun _ => True) w fun e vs w' => e = 0 ∧ R vs w') :
    Calls P F.iso_View_fell #[.pointer v, .pointer r] w fun e w' => ∃ vs, e = .returned (pack vs) ∧ R vs w' :=
  decomp_sound (isFn_of Go.Proofs.Tryz.func48 (by kernel_rfl) (by kernel_rfl) (by kernel_rfl)) okFs_ok mix [.val (.pointer v), .val (.pointer r)] (by rw [iso_View_fell_eq]; exact h)

def wire_Reader_End (r : Option Addr) : Prog :=
.ite (Option.isNone r) (
.done 0 [.int .i64 1]) (
.ex [.adr] (c1 fun a0 => r = some a0) (u1 fun a1 =>
.call F.wire_place_left [.pointer (some (Addr.add a1 0))] (sI .i64) (u1 fun (n2 : Int) =>
.bind 1 [] (
.ite (decide (n2 > 0)) (
.ex [.adr] (c1 fun a3 => r = some a3) (u1 fun a4 =>
.call F.wire_place_fail [.pointer (some (Addr.add a4 0)), .int .i64 6] (.tup []) (u0 <|
.done 1 []))) (
.done 1 [])) (u0 <|
.ex [.adr] (c1 fun a5 => r = some a5) (u1 fun a6 =>
.read True (ld T.api_Errno (Addr.add (Addr.add a6 0) 2)) (sI .i64) (u1 fun (n7 : Int) =>
.lt (.int .i64) (n7) fun (n8 : Int) =>
.done 0 [.int .i64 n8]))))))
theorem wire_Reader_End_eq (r : Option Addr) : decomp P 19 ⟨okFs, []⟩ { cnd := [(62914569, [])], blk := [], reg := [], lps := [] } [.tmp 2] (bodyOf Go.Proofs.Tryz.f49) [.val (.pointer r)] = wire_Reader_End r := by kernel_rfl
theorem wire_Reader_End_calls (r : Option Addr) {w : World} {R : List Value → World → Prop} (h : (wire_Reader_End r).wp P (fun _ => True) w fun e vs w' => e = 0 ∧ R vs w') :
    Calls P F.wire_Reader_End #[.pointer r] w fun e w' => ∃ vs, e = .returned (pack vs) ∧ R vs w' :=
  decomp_sound (isFn_of Go.Proofs.Tryz.func49 (by kernel_rfl) (by kernel_rfl) (by kernel_rfl)) okFs_ok mix [.val (.pointer r)] (by rw [wire_Reader_End_eq]; exact h)

def wire_Join (parts : Sl) : Prog :=
.bind 1 [.one (.int .i64)] (
.loop 2 [.one (.int .i64), .one (.int .i64)] (0, (0, ())) (u2 fun (n0 : Int) (n1 : Int) =>
.ite (decide (n1 < ((parts.len : Nat) : Int))) (
.ex [.adr] (c1 fun a2 => 0 ≤ n1 ∧ n1 < ((parts.len : Nat) : Int) ∧ parts.a = some a2) (u1 fun a3 =>
.read True (ld T.s_uint8 (Addr.add a3 (Int.toNat n1 * 1))) sL (u1 fun l4 =>
.lt (.int .i64) (IntKind.wrap .i64 (n0 + ((l4.len : Nat) : Int))) fun (n5 : Int) =>
.done 2 [.int .i64 n5, .int .i64 (IntKind.wrap .i64 (n1 + 1))]))) (
.done 1 [.int .i64 n0]))) (u1 fun (n6 : Int) =>
.act (Instr.makeSlice T.s_uint8 (.int .i64 0) (.int .i64 n6)) sL (u1 fun l7 =>
.bind 1 [.one .slc] (
.loop 2 [.one .slc, .one (.int .i64)] ({ a := l7.a, len := l7.len, cap := l7.cap }, (0, ())) (u2 fun l8 (n9 : Int) =>
.ite (decide (n9 < ((parts.len : Nat) : Int))) (
.ex [.adr] (c1 fun a10 => 0 ≤ n9 ∧ n9 < ((parts.len : Nat) : Int) ∧ parts.a = some a10) (u1 fun a11 =>
.read True (ld T.s_uint8 (Addr.add a11 (Int.toNat n9 * 1))) sL (u1 fun l12 =>
.act (app T.s_uint8 T.s_uint8 T.s_uint8 l8.v l12.v) sL (u1 fun l13 =>
.done 2 [l13.v, .int .i64 (IntKind.wrap .i64 (n9 + 1))])))) (
.done 1 [l8.v]))) (u1 fun l14 =>
.done 0 [l14.v])))
theorem wire_Join_eq (parts : Sl) : decomp P 33 ⟨okFs, []⟩ { cnd := [], blk := [(0, [(3, .one (.int .i64))]), (2, [(6, .one .slc)])], reg := [], lps := [(0, [(3, .one (.int .i64)), (11, .one (.int .i64))]), (2, [(6, .one .slc), (24, .one (.int .i64))])] } [.tmp 2] (bodyOf Go.Proofs.Tryz.f50) [.val (.slice parts.a parts.len parts.cap)] = wire_Join parts := by kernel_rfl
theorem wire_Join_calls (parts : Sl) {w : World} {R : List Value → World → Prop} (h : (wire_Join parts).wp P (fun _ => True) w fun e vs w' => e = 0 ∧ R vs w') :
    Calls P F.wire_Join #[.slice parts.a parts.len parts.cap] w fun e w' => ∃ vs, e = .returned (pack vs) ∧ R vs w' :=
  decomp_sound (isFn_of Go.Proofs.Tryz.func50 (by kernel_rfl) (by kernel_rfl) (by kernel_rfl)) okFs_ok mix [.val (.slice parts.a parts.len parts.cap)] (by rw [wire_Join_eq]; exact h)

def wire_Uint (n : Int) : Prog :=
.bind 1 [.one (.int .u64), .one .slc] (
.loop 2 [.one (.int .u64), .one .slc] (n, (⟨none, 0, 0⟩, ())) (u2 fun (n0 : Int) l1 =>
.ite (decide (n0 ≥ 128)) (
.act (Instr.buildSlice T.s_uint8 1 #[(0, .int .u8 (IntKind.wrap .u8 (((BitVec.toNat (BitVec.ofInt 8 (IntKind.wrap .u8 n0) ||| BitVec.ofInt 8 128) : Nat) : Int))))]) sL (u1 fun l2 =>
.act (app T.s_uint8 T.s_uint8 T.s_uint8 l1.v l2.v) sL (u1 fun l3 =>
.lt (.int .u64) (Int.fdiv n0 128) fun (n4 : Int) =>
.done 2 [.int .u64 n4, l3.v]))) (
.done 1 [.int .u64 n0, l1.v]))) (u2 fun (n5 : Int) l6 =>
.act (Instr.buildSlice T.s_uint8 1 #[(0, .int .u8 (IntKind.wrap .u8 n5))]) sL (u1 fun l7 =>
.act (app T.s_uint8 T.s_uint8 T.s_uint8 l6.v l7.v) sL (u1 fun l8 =>
.done 0 [l8.v])))
theorem wire_Uint_eq (n : Int) : decomp P 19 ⟨okFs, []⟩ { cnd := [], blk := [(0, [(0, .one (.int .u64)), (3, .one .slc)])], reg := [], lps := [(0, [(0, .one (.int .u64)), (3, .one .slc)])] } [.tmp 2] (bodyOf Go.Proofs.Tryz.f51) [.val (.int .u64 n)] = wire_Uint n := by kernel_rfl
theorem wire_Uint_calls (n : Int) {w : World} {R : List Value → World → Prop} (h : (wire_Uint n).wp P (fun _ => True) w fun e vs w' => e = 0 ∧ R vs w') :
    Calls P F.wire_Uint #[.int .u64 n] w fun e w' => ∃ vs, e = .returned (pack vs) ∧ R vs w' :=
  decomp_sound (isFn_of Go.Proofs.Tryz.func51 (by kernel_rfl) (by kernel_rfl) (by kernel_rfl)) okFs_ok mix [.val (.int .u64 n)] (by rw [wire_Uint_eq]; exact h)

def frame_Seal (parts : Sl) : Prog :=
.bind 1 [.one (.int .i64)] (
.loop 2 [.one (.int .i64), .one (.int .i64)] (0, (0, ())) (u2 fun (n0 : Int) (n1 : Int) =>
.ite (decide (n1 < ((parts.len : Nat) : Int))) (
.ex [.adr] (c1 fun a2 => 0 ≤ n1 ∧ n1 < ((parts.len : Nat) : Int) ∧ parts.a = some a2) (u1 fun a3 =>
.read True (ld T.s_uint8 (Addr.add a3 (Int.toNat n1 * 1))) sL (u1 fun l4 =>
.lt (.int .i64) (IntKind.wrap .i64 (n0 + ((l4.len : Nat) : Int))) fun (n5 : Int) =>
.ite (decide (n5 > 262144)) (
.done 0 [.slice none 0 0]) (
.done 2 [.int .i64 n5, .int .i64 (IntKind.wrap .i64 (n1 + 1))])))) (
.done 1 [.int .i64 n0]))) (u1 fun (n6 : Int) =>
.act (Instr.makeSlice T.s_uint8 (.int .i64 0) (.int .i64 (IntKind.wrap .i64 (n6 + 8)))) sL (u1 fun l7 =>
.call F.frame_four [.int .u32 (IntKind.wrap .u32 n6)] sL (u1 fun l8 =>
.act (app T.s_uint8 T.s_uint8 T.s_uint8 l7.v l8.v) sL (u1 fun l9 =>
.bind 1 [.one .slc] (
.loop 2 [.one .slc, .one (.int .i64)] ({ a := l9.a, len := l9.len, cap := l9.cap }, (0, ())) (u2 fun l10 (n11 : Int) =>
.ite (decide (n11 < ((parts.len : Nat) : Int))) (
.ex [.adr] (c1 fun a12 => 0 ≤ n11 ∧ n11 < ((parts.len : Nat) : Int) ∧ parts.a = some a12) (u1 fun a13 =>
.read True (ld T.s_uint8 (Addr.add a13 (Int.toNat n11 * 1))) sL (u1 fun l14 =>
.act (app T.s_uint8 T.s_uint8 T.s_uint8 l10.v l14.v) sL (u1 fun l15 =>
.done 2 [l15.v, .int .i64 (IntKind.wrap .i64 (n11 + 1))])))) (
.done 1 [l10.v]))) (u1 fun l16 =>
.act (Instr.buildSlice T.s_s_uint8 1 #[(0, l16.v)]) sL (u1 fun l17 =>
.call F.frame_Sum [l17.v] (sI .u32) (u1 fun (n18 : Int) =>
.call F.frame_four [.int .u32 n18] sL (u1 fun l19 =>
.act (app T.s_uint8 T.s_uint8 T.s_uint8 l16.v l19.v) sL (u1 fun l20 =>
.done 0 [l20.v])))))))))
theorem frame_Seal_eq (parts : Sl) : decomp P 46 ⟨okFs, []⟩ { cnd := [], blk := [(0, [(3, .one (.int .i64))]), (2, [(6, .one .slc)])], reg := [], lps := [(0, [(3, .one (.int .i64)), (11, .one (.int .i64))]), (2, [(6, .one .slc), (32, .one (.int .i64))])] } [.tmp 2] (bodyOf Go.Proofs.Tryz.f52) [.val (.slice parts.a parts.len parts.cap)] = frame_Seal parts := by kernel_rfl
theorem frame_Seal_calls (parts : Sl) {w : World} {R : List Value → World → Prop} (h : (frame_Seal parts).wp P (fun _ => True) w fun e vs w' => e = 0 ∧ R vs w') :
    Calls P F.frame_Seal #[.slice parts.a parts.len parts.cap] w fun e w' => ∃ vs, e = .returned (pack vs) ∧ R vs w' :=
  decomp_sound (isFn_of Go.Proofs.Tryz.func52 (by kernel_rfl) (by kernel_rfl) (by kernel_rfl)) okFs_ok mix [.val (.slice parts.a parts.len parts.cap)] (by rw [frame_Seal_eq]; exact h)

def towpathref01_Uint (n : Int) : Prog :=
.ite (decide (n < 128)) (
.act (Instr.buildSlice T.s_uint8 1 #[(0, .int .u8 (IntKind.wrap .u8 n))]) sL (u1 fun l0 =>
.done 0 [l0.v])) (
.act (Instr.buildSlice T.s_uint8 1 #[(0, .int .u8 (IntKind.wrap .u8 (IntKind.wrap .u64 (Int.tmod n 128 + 128))))]) sL (u1 fun l1 =>
.call F.towpathref01_Uint [.int .u64 (IntKind.wrap .u64 (Int.tdiv n 128))] sL (u1 fun l2 =>
.act (app T.s_uint8 T.s_uint8 T.s_uint8 l1.v l2.v) sL (u1 fun l3 =>
.done 0 [l3.v]))))
theorem towpathref01_Uint_eq (n : Int) : decomp P 19 ⟨okFs, []⟩ { cnd := [], blk := [], reg := [], lps := [] } [.tmp 2] (bodyOf Go.Proofs.Tryz.f59) [.val (.int .u64 n)] = towpathref01_Uint n := by kernel_rfl
theorem towpathref01_Uint_calls (n : Int) {w : World} {R : List Value → World → Prop} (h : (towpathref01_Uint n).wp P (fun _ => True) w fun e vs w' => e = 0 ∧ R vs w') :
    Calls P F.towpathref01_Uint #[.int .u64 n] w fun e w' => ∃ vs, e = .returned (pack vs) ∧ R vs w' :=
  decomp_sound (isFn_of Go.Proofs.Tryz.func59 (by kernel_rfl) (by kernel_rfl) (by kernel_rfl)) okFs_ok mix [.val (.int .u64 n)] (by rw [towpathref01_Uint_eq]; exact h)

def towpathref02_Seal (body : Sl) : Prog :=
.ite (decide (((body.len : Nat) : Int) > 262144)) (
.done 0 [.slice none 0 0]) (
.call F.towpathref02_four [.int .u32 (IntKind.wrap .u32 (((body.len : Nat) : Int)))] sL (u1 fun l0 =>
.act (app T.s_uint8 T.s_uint8 T.s_uint8 l0.v body.v) sL (u1 fun l1 =>
.call F.towpathref02_Sum [l1.v] (sI .u32) (u1 fun (n2 : Int) =>
.call F.towpathref02_four [.int .u32 n2] sL (u1 fun l3 =>
.act (app T.s_uint8 T.s_uint8 T.s_uint8 l1.v l3.v) sL (u1 fun l4 =>
.done 0 [l4.v]))))))
theorem towpathref02_Seal_eq (body : Sl) : decomp P 19 ⟨okFs, []⟩ { cnd := [], blk := [], reg := [], lps := [] } [.tmp 2] (bodyOf Go.Proofs.Tryz.f60) [.val (.slice body.a body.len body.cap)] = towpathref02_Seal body := by kernel_rfl
theorem towpathref02_Seal_calls (body : Sl) {w : World} {R : List Value → World → Prop} (h : (towpathref02_Seal body).wp P (fun _ => True) w fun e vs w' => e = 0 ∧ R vs w') :
    Calls P F.towpathref02_Seal #[.slice body.a body.len body.cap] w fun e w' => ∃ vs, e = .returned (pack vs) ∧ R vs w' :=
  decomp_sound (isFn_of Go.Proofs.Tryz.func60 (by kernel_rfl) (by kernel_rfl) (by kernel_rfl)) okFs_ok mix [.val (.slice body.a body.len body.cap)] (by rw [towpathref02_Seal_eq]; exact h)

def frame_First (b : Sl) : Prog :=
.ite (decide (((b.len : Nat) : Int) < 8)) (
.done 0 [.slice none 0 0, .int .i64 0, .bool false]) (
.call F.frame_number [b.v] (sI .u32) (u1 fun (n0 : Int) =>
.lt (.int .u32) (n0) fun (n1 : Int) =>
.ite (decide (n1 > 262144) || decide (IntKind.wrap .i64 n1 > IntKind.wrap .i64 (((b.len : Nat) : Int) - 8))) (
.done 0 [.slice none 0 0, .int .i64 0, .bool false]) (
.lt (.int .i64) (IntKind.wrap .i64 (IntKind.wrap .i64 n1 + 4)) fun (n2 : Int) =>
.bind 1 [.one .bool] (
.tick <|
.must (0 ≤ n2 ∧ n2 ≤ ((b.len : Nat) : Int)) <|
.must (0 ≤ n2 ∧ n2 ≤ ((b.cap : Nat) : Int)) <|
.both (
.call F.frame_number [.slice (cutA b.a 1 (Int.toNat n2) b.cap) (b.len - Int.toNat n2) (b.cap - Int.toNat n2)] (sI .u32) (u1 fun (n3 : Int) =>
.act (Instr.buildSlice T.s_s_uint8 1 #[(0, .slice b.a (Int.toNat n2) b.cap)]) sL (u1 fun l4 =>
.call F.frame_Sum [l4.v] (sI .u32) (u1 fun (n5 : Int) =>
.untick <|
.done 1 [.bool (n3 != n5)])))) (
.act (Instr.buildSlice T.s_s_uint8 1 #[(0, .slice b.a (Int.toNat n2) b.cap)]) sL (u1 fun l6 =>
.call F.frame_number [.slice (cutA b.a 1 (Int.toNat n2) b.cap) (b.len - Int.toNat n2) (b.cap - Int.toNat n2)] (sI .u32) (u1 fun (n7 : Int) =>
.call F.frame_Sum [l6.v] (sI .u32) (u1 fun (n8 : Int) =>
.untick <|
.done 1 [.bool (n7 != n8)]))))) (u1 fun b9 =>
.ite (b9) (
.done 0 [.slice none 0 0, .int .i64 0, .bool false]) (
.must ((0 : Int) ≤ 4 ∧ 4 ≤ n2 ∧ n2 ≤ ((b.cap : Nat) : Int)) <|
.call F.bytes_Clone [.slice (cutA b.a 1 4 b.cap) (Int.toNat n2 - 4) (b.cap - 4)] sL (u1 fun l10 =>
.lt (.int .i64) (IntKind.wrap .i64 (n2 + 4)) fun (n11 : Int) =>
.done 0 [l10.v, .int .i64 n11, .bool true]))))))
theorem frame_First_eq (b : Sl) : decomp P 41 ⟨okFs, []⟩ { cnd := [], blk := [], reg := [(7, [(34, .one .bool)])], lps := [] } [.tmp 2, .tmp 3, .tmp 4] (bodyOf Go.Proofs.Tryz.f69) [.val (.slice b.a b.len b.cap)] = frame_First b := by kernel_rfl
theorem frame_First_calls (b : Sl) {w : World} {R : List Value → World → Prop} (h : (frame_First b).wp P (fun _ => True) w fun e vs w' => e = 0 ∧ R vs w') :
    Calls P F.frame_First #[.slice b.a b.len b.cap] w fun e w' => ∃ vs, e = .returned (pack vs) ∧ R vs w' :=
  decomp_sound (isFn_of Go.Proofs.Tryz.func69 (by kernel_rfl) (by kernel_rfl) (by kernel_rfl)) okFs_ok mix [.val (.slice b.a b.len b.cap)] (by rw [frame_First_eq]; exact h)

def bytes_Clone (b : Sl) : Prog :=
.ite (Option.isNone b.a) (
.done 0 [.slice none 0 0]) (
.act (Instr.buildSlice T.s_uint8 0 #[]) sL (u1 fun l0 =>
.act (app T.s_uint8 T.s_uint8 T.s_uint8 l0.v b.v) sL (u1 fun l1 =>
.done 0 [l1.v])))
theorem bytes_Clone_eq (b : Sl) : decomp P 8 ⟨okFs, []⟩ { cnd := [], blk := [], reg := [], lps := [] } [.tmp 2] (bodyOf Go.Proofs.Tryz.f70) [.val (.slice b.a b.len b.cap)] = bytes_Clone b := by kernel_rfl
theorem bytes_Clone_calls (b : Sl) {w : World} {R : List Value → World → Prop} (h : (bytes_Clone b).wp P (fun _ => True) w fun e vs w' => e = 0 ∧ R vs w') :
    Calls P F.bytes_Clone #[.slice b.a b.len b.cap] w fun e w' => ∃ vs, e = .returned (pack vs) ∧ R vs w' :=
  decomp_sound (isFn_of Go.Proofs.Tryz.func70 (by kernel_rfl) (by kernel_rfl) (by kernel_rfl)) okFs_ok mix [.val (.slice b.a b.len b.cap)] (by rw [bytes_Clone_eq]; exact h)

def wire_Reader_Uint (r : Option Addr) : Prog :=
.call F.wire_Reader_good [.pointer r] sB (u1 fun b0 =>
.ite (not b0) (
.done 0 [.int .u64 0]) (
.ex [.adr] (c1 fun a1 => r = some a1) (u1 fun a2 =>
.call F.wire_place_uint [.pointer (some (Addr.add a2 0))] (sI .u64) (u1 fun (n3 : Int) =>
.lt (.int .u64) (n3) fun (n4 : Int) =>
.done 0 [.int .u64 n4]))))
theorem wire_Reader_Uint_eq (r : Option Addr) : decomp P 10 ⟨okFs, []⟩ { cnd := [], blk := [], reg := [], lps := [] } [.tmp 2] (bodyOf Go.Proofs.Tryz.f71) [.val (.pointer r)] = wire_Reader_Uint r := by kernel_rfl
theorem wire_Reader_Uint_calls (r : Option Addr) {w : World} {R : List Value → World → Prop} (h : (wire_Reader_Uint r).wp P (fun _ => True) w fun e vs w' => e = 0 ∧ R vs w') :
    Calls P F.wire_Reader_Uint #[.pointer r] w fun e w' => ∃ vs, e = .returned (pack vs) ∧ R vs w' :=
  decomp_sound (isFn_of Go.Proofs.Tryz.func71 (by kernel_rfl) (by kernel_rfl) (by kernel_rfl)) okFs_ok mix [.val (.pointer r)] (by rw [wire_Reader_Uint_eq]; exact h)

def iso_named (r : Option Addr) (next_ : Int) : Prog :=
.act (new T.iso_life) sA (u1 fun a0 =>
.call F.iso_upto [.pointer r, .int .i64 1048576] (sI .i64) (u1 fun (n1 : Int) =>
.call F.iso_upto [.pointer r, .int .i64 32767] (sI .i64) (u1 fun (n2 : Int) =>
.call F.iso_upto [.pointer r, .int .i64 1099511627776] (sI .i64) (u1 fun (n3 : Int) =>
.act (new T.iso_life) sA (u1 fun a4 =>
.actU (st T.iso_life a4 (.agg #[.int .i64 n1, .int .i64 n2, .int .i64 n3, .int .i64 (-1)])) <|
.bind 1 [.one .bool] (
.tick <|
.hold True (ld T.iso_life a4) (sG [.int .i64, .int .i64, .int .i64, .int .i64]) (u4 fun (n5 : Int) (n6 : Int) (n7 : Int) (n8 : Int) =>
.call F.wire_Reader_Err [.pointer r] (sI .i64) (u1 fun (n9 : Int) =>
.read ((n9 == 0) = true) (ld T.int64 (Addr.add (Addr.add a4 0) 0)) (sI .i64) (u1 fun (n10 : Int) =>
.read ((n9 == 0 && decide (n10 ≥ 1)) = true) (ld T.int64 (Addr.add (Addr.add a4 0) 0)) (sI .i64) (u1 fun (n11 : Int) =>
.read ((n9 == 0 && decide (n10 ≥ 1) && decide (n11 ≤ 1048576)) = true) (ld T.int (Addr.add (Addr.add a4 0) 1)) (sI .i64) (u1 fun (n12 : Int) =>
.hold ((n9 == 0 && decide (n10 ≥ 1) && decide (n11 ≤ 1048576) && decide (n12 ≤ 32767)) = true) (ld T.int64 (Addr.add a4 2)) (sI .i64) (u1 fun (n13 : Int) =>
.actU (st T.iso_life a0 (.agg #[.int .i64 n5, .int .i64 n6, .int .i64 n7, .int .i64 n8])) <|
.lt (.bool) (n9 == 0 && decide (n10 ≥ 1) && decide (n11 ≤ 1048576) && decide (n12 ≤ 32767) && decide (n13 < next_)) fun b14 =>
.untick <|
.done 1 [.bool b14]))))))) (u1 fun b15 =>
.read True (ld T.iso_life a0) (sG [.int .i64, .int .i64, .int .i64, .int .i64]) (u4 fun (n16 : Int) (n17 : Int) (n18 : Int) (n19 : Int) =>
.done 0 [.agg #[.int .i64 n16, .int .i64 n17, .int .i64 n18, .int .i64 n19], .bool b15])))))))
theorem iso_named_eq (r : Option Addr) (next_ : Int) : decomp P 43 ⟨okFs, []⟩ { cnd := [], blk := [], reg := [(2, [(5, .one .bool)])], lps := [] } [.cell 4 57, .tmp 5] (bodyOf Go.Proofs.Tryz.f72) [.val (.pointer r), .val (.int .i64 next_)] = iso_named r next_ := by kernel_rfl
theorem iso_named_calls (r : Option Addr) (next_ : Int) {w : World} {R : List Value → World → Prop} (h : (iso_named r next_).wp P (fun _ => True) w fun e vs w' => e = 0 ∧ R vs w') :
    Calls P F.iso_named #[.pointer r, .int .i64 next_] w fun e w' => ∃ vs, e = .returned (pack vs) ∧ R vs w' :=
  decomp_sound (isFn_of Go.Proofs.Tryz.func72 (by kernel_rfl) (by kernel_rfl) (by kernel_rfl)) okFs_ok mix [.val (.pointer r), .val (.int .i64 next_)] (by rw [iso_named_eq]; exact h)

def wire_Reader_Err (r : Option Addr) : Prog :=
.ite (Option.isNone r) (
.done 0 [.int .i64 1]) (
.ex [.adr] (c1 fun a0 => r = some a0) (u1 fun a1 =>
.read True (ld T.api_Errno (Addr.add (Addr.add a1 0) 2)) (sI .i64) (u1 fun (n2 : Int) =>
.lt (.int .i64) (n2) fun (n3 : Int) =>
.done 0 [.int .i64 n3])))
theorem wire_Reader_Err_eq (r : Option Addr) : decomp P 10 ⟨okFs, []⟩ { cnd := [], blk := [], reg := [], lps := [] } [.tmp 2] (bodyOf Go.Proofs.Tryz.f73) [.val (.pointer r)] = wire_Reader_Err r := by kernel_rfl
theorem wire_Reader_Err_calls (r : Option Addr) {w : World} {R : List Value → World → Prop} (h : (wire_Reader_Err r).wp P (fun _ => True) w fun e vs w' => e = 0 ∧ R vs w') :
    Calls P F.wire_Reader_Err #[.pointer r] w fun e w' => ∃ vs, e = .returned (pack vs) ∧ R vs w' :=
  decomp_sound (isFn_of Go.Proofs.Tryz.func73 (by kernel_rfl) (by kernel_rfl) (by kernel_rfl)) okFs_ok mix [.val (.pointer r)] (by rw [wire_Reader_Err_eq]; exact h)

def wire_place_left (p : Option Addr) : Prog :=
.tick <|
.ex [.adr] (c1 fun a0 => p = some a0) (u1 fun a1 =>
.read True (ld T.s_uint8 (Addr.add a1 0)) sL (u1 fun l2 =>
.ex [.adr] (c1 fun a3 => p = some a3) (u1 fun a4 =>
.read True (ld T.int (Addr.add a4 1)) (sI .i64) (u1 fun (n5 : Int) =>
.lt (.int .i64) (IntKind.wrap .i64 (((l2.len : Nat) : Int) - n5)) fun (n6 : Int) =>
.untick <|
.done 0 [.int .i64 n6]))))
theorem wire_place_left_eq (p : Option Addr) : decomp P 13 ⟨okFs, []⟩ { cnd := [], blk := [], reg := [], lps := [] } [.tmp 2] (bodyOf Go.Proofs.Tryz.f74) [.val (.pointer p)] = wire_place_left p := by kernel_rfl
theorem wire_place_left_calls (p : Option Addr) {w : World} {R : List Value → World → Prop} (h : (wire_place_left p).wp P (fun _ => True) w fun e vs w' => e = 0 ∧ R vs w') :
    Calls P F.wire_place_left #[.pointer p] w fun e w' => ∃ vs, e = .returned (pack vs) ∧ R vs w' :=
  decomp_sound (isFn_of Go.Proofs.Tryz.func74 (by kernel_rfl) (by kernel_rfl) (by kernel_rfl)) okFs_ok mix [.val (.pointer p)] (by rw [wire_place_left_eq]; exact h)

def wire_place_fail (p : Option Addr) (e_ : Int) : Prog :=
.ex [.adr] (c1 fun a0 => p = some a0) (u1 fun a1 =>
.read True (ld T.api_Errno (Addr.add a1 2)) (sI .i64) (u1 fun (n2 : Int) =>
.bind 1 [] (
.ite (n2 == 0) (
.ex [.adr] (c1 fun a3 => p = some a3) (u1 fun a4 =>
.actU (st T.api_Errno (Addr.add a4 2) (.int .i64 e_)) <|
.done 1 [])) (
.done 1 [])) (u0 <|
.done 0 [])))
theorem wire_place_fail_eq (p : Option Addr) (e_ : Int) : decomp P 13 ⟨okFs, []⟩ { cnd := [(31457288, [])], blk := [], reg := [], lps := [] } [] (bodyOf Go.Proofs.Tryz.f75) [.val (.pointer p), .val (.int .i64 e_)] = wire_place_fail p e_ := by kernel_rfl
theorem wire_place_fail_calls (p : Option Addr) (e_ : Int) {w : World} {R : List Value → World → Prop} (h : (wire_place_fail p e_).wp P (fun _ => True) w fun e vs w' => e = 0 ∧ R vs w') :
    Calls P F.wire_place_fail #[.pointer p, .int .i64 e_] w fun e w' => ∃ vs, e = .returned (pack vs) ∧ R vs w' :=
  decomp_sound (isFn_of Go.Proofs.Tryz.func75 (by kernel_rfl) (by kernel_rfl) (by kernel_rfl)) okFs_ok mix [.val (.pointer p), .val (.int .i64 e_)] (by rw [wire_place_fail_eq]; exact h)

def frame_four (n : Int) : Prog :=
.act (Instr.buildSlice T.s_uint8 4 #[(0, .int .u8 (IntKind.wrap .u8 n)), (1, .int .u8 (IntKind.wrap .u8 (Int.fdiv n 256))), (2, .int .u8 (IntKind.wrap .u8 (Int.fdiv n 65536))), (3, .int .u8 (IntKind.wrap .u8 (Int.fdiv n 16777216)))]) sL (u1 fun l0 =>
.done 0 [l0.v])
theorem frame_four_eq (n : Int) : decomp P 15 ⟨okFs, []⟩ { cnd := [], blk := [], reg := [], lps := [] } [.tmp 2] (bodyOf Go.Proofs.Tryz.f76) [.val (.int .u32 n)] = frame_four n := by kernel_rfl
theorem frame_four_calls (n : Int) {w : World} {R : List Value → World → Prop} (h : (frame_four n).wp P (fun _ => True) w fun e vs w' => e = 0 ∧ R vs w') :
    Calls P F.frame_four #[.int .u32 n] w fun e w' => ∃ vs, e = .returned (pack vs) ∧ R vs w' :=
  decomp_sound (isFn_of Go.Proofs.Tryz.func76 (by kernel_rfl) (by kernel_rfl) (by kernel_rfl)) okFs_ok mix [.val (.int .u32 n)] (by rw [frame_four_eq]; exact h)

def frame_Sum (parts : Sl) : Prog :=
.call F.frame_More [.int .u32 0, parts.v] (sI .u32) (u1 fun (n0 : Int) =>
.lt (.int .u32) (n0) fun (n1 : Int) =>
.done 0 [.int .u32 n1])
theorem frame_Sum_eq (parts : Sl) : decomp P 5 ⟨okFs, []⟩ { cnd := [], blk := [], reg := [], lps := [] } [.tmp 2] (bodyOf Go.Proofs.Tryz.f77) [.val (.slice parts.a parts.len parts.cap)] = frame_Sum parts := by kernel_rfl
theorem frame_Sum_calls (parts : Sl) {w : World} {R : List Value → World → Prop} (h : (frame_Sum parts).wp P (fun _ => True) w fun e vs w' => e = 0 ∧ R vs w') :
    Calls P F.frame_Sum #[.slice parts.a parts.len parts.cap] w fun e w' => ∃ vs, e = .returned (pack vs) ∧ R vs w' :=
  decomp_sound (isFn_of Go.Proofs.Tryz.func77 (by kernel_rfl) (by kernel_rfl) (by kernel_rfl)) okFs_ok mix [.val (.slice parts.a parts.len parts.cap)] (by rw [frame_Sum_eq]; exact h)

def towpathref02_four (n : Int) : Prog :=
.bind 1 [.one .slc] (
.loop 2 [.one (.int .u32), .one .slc, .one (.int .i64)] (n, (⟨none, 0, 0⟩, (0, ()))) (u3 fun (n0 : Int) l1 (n2 : Int) =>
.ite (decide (n2 < 4)) (
.act (Instr.buildSlice T.s_uint8 1 #[(0, .int .u8 (IntKind.wrap .u8 (Int.tmod n0 256)))]) sL (u1 fun l3 =>
.act (app T.s_uint8 T.s_uint8 T.s_uint8 l1.v l3.v) sL (u1 fun l4 =>
.lt (.int .u32) (IntKind.wrap .u32 (Int.tdiv n0 256)) fun (n5 : Int) =>
.lt (.int .i64) (IntKind.wrap .i64 (n2 + 1)) fun (n6 : Int) =>
.done 2 [.int .u32 n5, l4.v, .int .i64 n6]))) (
.done 1 [l1.v]))) (u1 fun l7 =>
.done 0 [l7.v])
theorem towpathref02_four_eq (n : Int) : decomp P 18 ⟨okFs, []⟩ { cnd := [], blk := [(0, [(3, .one .slc)])], reg := [], lps := [(0, [(0, .one (.int .u32)), (3, .one .slc), (4, .one (.int .i64))])] } [.tmp 2] (bodyOf Go.Proofs.Tryz.f81) [.val (.int .u32 n)] = towpathref02_four n := by kernel_rfl
theorem towpathref02_four_calls (n : Int) {w : World} {R : List Value → World → Prop} (h : (towpathref02_four n).wp P (fun _ => True) w fun e vs w' => e = 0 ∧ R vs w') :
    Calls P F.towpathref02_four #[.int .u32 n] w fun e w' => ∃ vs, e = .returned (pack vs) ∧ R vs w' :=
  decomp_sound (isFn_of Go.Proofs.Tryz.func81 (by kernel_rfl) (by kernel_rfl) (by kernel_rfl)) okFs_ok mix [.val (.int .u32 n)] (by rw [towpathref02_four_eq]; exact h)

def towpathref02_Sum (b : Sl) : Prog :=
.act (new T.a32_bool) sA (u1 fun a0 =>
.bind 1 [] (
.loop 2 [.one (.int .i64)] (0, ()) (u1 fun (n1 : Int) =>
.ite (decide (n1 < 32)) (
.must (0 ≤ n1 ∧ n1 < 32) <|
.actU (st T.bool (Addr.add a0 (Int.toNat n1 * 1)) (.bool true)) <|
.lt (.int .i64) (IntKind.wrap .i64 (n1 + 1)) fun (n2 : Int) =>
.done 2 [.int .i64 n2]) (
.done 1 []))) (u0 <|
.bind 1 [] (
.loop 2 [.one (.int .i64)] (0, ()) (u1 fun (n3 : Int) =>
.ite (decide (n3 < ((b.len : Nat) : Int))) (
.bind 3 [] (
.ex [.adr] (c1 fun a4 => 0 ≤ n3 ∧ n3 < ((b.len : Nat) : Int) ∧ b.a = some a4) (u1 fun a5 =>
.read True (ld T.uint8 (Addr.add a5 (Int.toNat n3 * 1))) (sI .u8) (u1 fun (n6 : Int) =>
.lt (.int .u8) (n6) fun (n7 : Int) =>
.bind 4 [] (
.loop 5 [.one (.int .i64)] (0, ()) (u1 fun (n8 : Int) =>
.ite (decide (n8 < 8)) (
.bind 6 [] (
.must ((0 : Int) ≤ 0 ∧ (0 : Int) < 32) <|
.read True (ld T.bool (Addr.add a0 0)) sB (u1 fun b9 =>
.must (0 ≤ IntKind.wrap .u64 n8) <|
.lt (.bool) (not (b9 == (Int.tmod (Int.fdiv n7 (2 ^ min (Int.toNat (IntKind.wrap .u64 n8)) 8)) (2 : Int) == 1))) fun b10 =>
.bind 7 [] (
.loop 8 [.one (.int .i64)] (0, ()) (u1 fun (n11 : Int) =>
.ite (decide (n11 < 31)) (
.must (0 ≤ IntKind.wrap .i64 (n11 + 1) ∧ IntKind.wrap .i64 (n11 + 1) < 32) <|
.read True (ld T.bool (Addr.add a0 (Int.toNat (IntKind.wrap .i64 (n11 + 1)) * 1))) sB (u1 fun b12 =>
.must (0 ≤ n11 ∧ n11 < 32) <|
.actU (st T.bool (Addr.add a0 (Int.toNat n11 * 1)) (.bool b12)) <|
.lt (.int .i64) (IntKind.wrap .i64 (n11 + 1)) fun (n13 : Int) =>
.done 8 [.int .i64 n13])) (
.done 7 []))) (u0 <|
.must ((0 : Int) ≤ 31 ∧ (31 : Int) < 32) <|
.actU (st T.bool (Addr.add a0 31) (.bool false)) <|
.bind 7 [] (
.loop 8 [.one (.int .i64)] (0, ()) (u1 fun (n14 : Int) =>
.ite (decide (n14 < 32)) (
.must (b10 = true → 0 ≤ IntKind.wrap .u64 n14) <|
.bind 9 [] (
.ite (b10 && Int.tmod (Int.fdiv 3988292384 (2 ^ min (Int.toNat (IntKind.wrap .u64 n14)) 32)) (2 : Int) == 1) (
.must (0 ≤ n14 ∧ n14 < 32) <|
.read True (ld T.bool (Addr.add a0 (Int.toNat n14 * 1))) sB (u1 fun b15 =>
.must (0 ≤ n14 ∧ n14 < 32) <|
.actU (st T.bool (Addr.add a0 (Int.toNat n14 * 1)) (.bool (not b15))) <|
.done 9 [])) (
.done 9 [])) (u0 <|
.lt (.int .i64) (IntKind.wrap .i64 (n14 + 1)) fun (n16 : Int) =>
.done 8 [.int .i64 n16])) (
.done 7 []))) (u0 <|
.done 6 [])))) (u0 <|
.lt (.int .i64) (IntKind.wrap .i64 (n8 + 1)) fun (n17 : Int) =>
.done 5 [.int .i64 n17])) (
.done 4 []))) (u0 <|
.done 3 [])))) (u0 <|
.done 2 [.int .i64 (IntKind.wrap .i64 (n3 + 1))])) (
.done 1 []))) (u0 <|
.bind 1 [.one (.int .u32)] (
.loop 2 [.one (.int .u32), .one (.int .i64)] (0, (0, ())) (u2 fun (n18 : Int) (n19 : Int) =>
.ite (decide (n19 < 32)) (
.must (0 ≤ n19 ∧ n19 < 32) <|
.read True (ld T.bool (Addr.add a0 (Int.toNat n19 * 1))) sB (u1 fun b20 =>
.bind 3 [.one (.int .u32)] (
.ite (not b20) (
.must (0 ≤ IntKind.wrap .u64 n19) <|
.lt (.int .u32) (IntKind.wrap .u32 (n18 + IntKind.wrap .u32 (1 * 2 ^ min (Int.toNat (IntKind.wrap .u64 n19)) 32))) fun (n21 : Int) =>
.done 3 [.int .u32 n21]) (
.done 3 [.int .u32 n18])) (u1 fun (n22 : Int) =>
.lt (.int .i64) (IntKind.wrap .i64 (n19 + 1)) fun (n23 : Int) =>
.done 2 [.int .u32 n22, .int .i64 n23]))) (
.done 1 [.int .u32 n18]))) (u1 fun (n24 : Int) =>
.lt (.int .u32) (n24) fun (n25 : Int) =>
.done 0 [.int .u32 n25]))))
theorem towpathref02_Sum_eq (b : Sl) : decomp P 82 ⟨okFs, []⟩ { cnd := [(595018176841575296925756, []), (9594035304461697130476601419, [(11, .one (.int .u32))])], blk := [(0, []), (2, []), (3, []), (4, []), (5, []), (6, []), (8, []), (10, [(11, .one (.int .u32))])], reg := [], lps := [(0, [(4, .one (.int .i64))]), (2, [(21, .one (.int .i64))]), (4, [(7, .one (.int .i64))]), (6, [(9, .one (.int .i64))]), (8, [(10, .one (.int .i64))]), (10, [(11, .one (.int .u32)), (12, .one (.int .i64))])] } [.tmp 2] (bodyOf Go.Proofs.Tryz.f82) [.val (.slice b.a b.len b.cap)] = towpathref02_Sum b := by kernel_rfl
theorem towpathref02_Sum_calls (b : Sl) {w : World} {R : List Value → World → Prop} (h : (towpathref02_Sum b).wp P (fun _ => True) w fun e vs w' => e = 0 ∧ R vs w') :
    Calls P F.towpathref02_Sum #[.slice b.a b.len b.cap] w fun e w' => ∃ vs, e = .returned (pack vs) ∧ R vs w' :=
  decomp_sound (isFn_of Go.Proofs.Tryz.func82 (by kernel_rfl) (by kernel_rfl) (by kernel_rfl)) okFs_ok mix [.val (.slice b.a b.len b.cap)] (by rw [towpathref02_Sum_eq]; exact h)

def frame_number (b : Sl) : Prog :=
.tick <|
.ex [.adr] (c1 fun a0 => (0 : Int) ≤ 0 ∧ 0 < ((b.len : Nat) : Int) ∧ b.a = some a0) (u1 fun a1 =>
.read True (ld T.uint8 (Addr.add a1 0)) (sI .u8) (u1 fun (n2 : Int) =>
.ex [.adr] (c1 fun a3 => (0 : Int) ≤ 1 ∧ 1 < ((b.len : Nat) : Int) ∧ b.a = some a3) (u1 fun a4 =>
.read True (ld T.uint8 (Addr.add a4 1)) (sI .u8) (u1 fun (n5 : Int) =>
.ex [.adr] (c1 fun a6 => (0 : Int) ≤ 2 ∧ 2 < ((b.len : Nat) : Int) ∧ b.a = some a6) (u1 fun a7 =>
.read True (ld T.uint8 (Addr.add a7 2)) (sI .u8) (u1 fun (n8 : Int) =>
.ex [.adr] (c1 fun a9 => (0 : Int) ≤ 3 ∧ 3 < ((b.len : Nat) : Int) ∧ b.a = some a9) (u1 fun a10 =>
.read True (ld T.uint8 (Addr.add a10 3)) (sI .u8) (u1 fun (n11 : Int) =>
.lt (.int .u32) (IntKind.wrap .u32 (((BitVec.toNat (BitVec.ofInt 32 (IntKind.wrap .u32 (((BitVec.toNat (BitVec.ofInt 32 (IntKind.wrap .u32 (((BitVec.toNat (BitVec.ofInt 32 (IntKind.wrap .u32 n2) ||| BitVec.ofInt 32 (IntKind.wrap .u32 (IntKind.wrap .u32 n5 * 256))) : Nat) : Int))) ||| BitVec.ofInt 32 (IntKind.wrap .u32 (IntKind.wrap .u32 n8 * 65536))) : Nat) : Int))) ||| BitVec.ofInt 32 (IntKind.wrap .u32 (IntKind.wrap .u32 n11 * 16777216))) : Nat) : Int))) fun (n12 : Int) =>
.untick <|
.done 0 [.int .u32 n12]))))))))
theorem frame_number_eq (b : Sl) : decomp P 25 ⟨okFs, []⟩ { cnd := [], blk := [], reg := [], lps := [] } [.tmp 2] (bodyOf Go.Proofs.Tryz.f84) [.val (.slice b.a b.len b.cap)] = frame_number b := by kernel_rfl
theorem frame_number_calls (b : Sl) {w : World} {R : List Value → World → Prop} (h : (frame_number b).wp P (fun _ => True) w fun e vs w' => e = 0 ∧ R vs w') :
    Calls P F.frame_number #[.slice b.a b.len b.cap] w fun e w' => ∃ vs, e = .returned (pack vs) ∧ R vs w' :=
  decomp_sound (isFn_of Go.Proofs.Tryz.func84 (by kernel_rfl) (by kernel_rfl) (by kernel_rfl)) okFs_ok mix [.val (.slice b.a b.len b.cap)] (by rw [frame_number_eq]; exact h)

def wire_Reader_good (r : Option Addr) : Prog :=
.ex [.adr] (c1 fun a0 => not (Option.isNone r) = true → r = some a0) (u1 fun a1 =>
.read (not (Option.isNone r) = true) (ld T.api_Errno (Addr.add (Addr.add a1 0) 2)) (sI .i64) (u1 fun (n2 : Int) =>
.lt (.bool) (not (Option.isNone r) && n2 == 0) fun b3 =>
.done 0 [.bool b3]))
theorem wire_Reader_good_eq (r : Option Addr) : decomp P 13 ⟨okFs, []⟩ { cnd := [], blk := [], reg := [], lps := [] } [.tmp 2] (bodyOf Go.Proofs.Tryz.f85) [.val (.pointer r)] = wire_Reader_good r := by kernel_rfl
theorem wire_Reader_good_calls (r : Option Addr) {w : World} {R : List Value → World → Prop} (h : (wire_Reader_good r).wp P (fun _ => True) w fun e vs w' => e = 0 ∧ R vs w') :
    Calls P F.wire_Reader_good #[.pointer r] w fun e w' => ∃ vs, e = .returned (pack vs) ∧ R vs w' :=
  decomp_sound (isFn_of Go.Proofs.Tryz.func85 (by kernel_rfl) (by kernel_rfl) (by kernel_rfl)) okFs_ok mix [.val (.pointer r)] (by rw [wire_Reader_good_eq]; exact h)

def wire_place_uint (p : Option Addr) : Prog :=
.bind 1 [] (
.loop 2 [.one (.int .u64), .one (.int .i64)] (0, (0, ())) (u2 fun (n0 : Int) (n1 : Int) =>
.ite (decide (n1 < 10)) (
.call F.wire_place_left [.pointer p] (sI .i64) (u1 fun (n2 : Int) =>
.ite (decide (n1 ≥ n2)) (
.done 1 []) (
.tick <|
.ex [.adr] (c1 fun a3 => p = some a3) (u1 fun a4 =>
.read True (ld T.s_uint8 (Addr.add a4 0)) sL (u1 fun l5 =>
.ex [.adr] (c1 fun a6 => p = some a6) (u1 fun a7 =>
.read True (ld T.int (Addr.add a7 1)) (sI .i64) (u1 fun (n8 : Int) =>
.ex [.adr] (c1 fun a9 => 0 ≤ IntKind.wrap .i64 (n8 + n1) ∧ IntKind.wrap .i64 (n8 + n1) < ((l5.len : Nat) : Int) ∧ l5.a = some a9) (u1 fun a10 =>
.read True (ld T.uint8 (Addr.add a10 (Int.toNat (IntKind.wrap .i64 (n8 + n1)) * 1))) (sI .u8) (u1 fun (n11 : Int) =>
.lt (.int .u8) (n11) fun (n12 : Int) =>
.untick <|
.ite (n1 == 9 && decide (n12 > 1)) (
.done 1 []) (
.must (0 ≤ IntKind.wrap .i64 (7 * n1)) <|
.lt (.int .u64) (IntKind.wrap .u64 (((BitVec.toNat (BitVec.ofInt 64 n0 ||| BitVec.ofInt 64 (IntKind.wrap .u64 (IntKind.wrap .u64 (IntKind.wrap .u8 (((BitVec.toNat (BitVec.ofInt 8 n12 &&& BitVec.ofInt 8 127) : Nat) : Int))) * 2 ^ min (Int.toNat (IntKind.wrap .i64 (7 * n1))) 64))) : Nat) : Int))) fun (n13 : Int) =>
.ite (decide (n12 ≥ 128)) (
.lt (.int .i64) (IntKind.wrap .i64 (n1 + 1)) fun (n14 : Int) =>
.done 2 [.int .u64 n13, .int .i64 n14]) (
.ite (n12 == 0 && decide (n1 > 0)) (
.done 1 []) (
.ex [.adr] (c1 fun a15 => p = some a15) (u1 fun a16 =>
.read True (ld T.int (Addr.add a16 1)) (sI .i64) (u1 fun (n17 : Int) =>
.ex [.adr] (c1 fun a18 => p = some a18) (u1 fun a19 =>
.actU (st T.int (Addr.add a19 1) (.int .i64 (IntKind.wrap .i64 (n17 + IntKind.wrap .i64 (n1 + 1))))) <|
.lt (.int .u64) (n13) fun (n20 : Int) =>
.done 0 [.int .u64 n20]))))))))))))))) (
.done 1 []))) (u0 <|
.call F.wire_place_fail [.pointer p, .int .i64 6] (.tup []) (u0 <|
.done 0 [.int .u64 0]))
theorem wire_place_uint_eq (p : Option Addr) : decomp P 60 ⟨okFs, []⟩ { cnd := [], blk := [(0, [])], reg := [], lps := [(0, [(3, .one (.int .u64)), (4, .one (.int .i64))])] } [.tmp 2] (bodyOf Go.Proofs.Tryz.f86) [.val (.pointer p)] = wire_place_uint p := by kernel_rfl
theorem wire_place_uint_calls (p : Option Addr) {w : World} {R : List Value → World → Prop} (h : (wire_place_uint p).wp P (fun _ => True) w fun e vs w' => e = 0 ∧ R vs w') :
    Calls P F.wire_place_uint #[.pointer p] w fun e w' => ∃ vs, e = .returned (pack vs) ∧ R vs w' :=
  decomp_sound (isFn_of Go.Proofs.Tryz.func86 (by kernel_rfl) (by kernel_rfl) (by kernel_rfl)) okFs_ok mix [.val (.pointer p)] (by rw [wire_place_uint_eq]; exact h)

def frame_More (sum : Int) (parts : Sl) : Prog :=
.lt (.int .u32) (IntKind.wrap .u32 (((BitVec.toNat (BitVec.ofInt 32 4294967295 ^^^ BitVec.ofInt 32 sum) : Nat) : Int))) fun (n0 : Int) =>
.bind 1 [.one (.int .u32)] (
.loop 2 [.one (.int .u32), .one (.int .i64)] (n0, (0, ())) (u2 fun (n1 : Int) (n2 : Int) =>
.ite (decide (n2 < ((parts.len : Nat) : Int))) (
.bind 3 [.one (.int .u32)] (
.ex [.adr] (c1 fun a3 => 0 ≤ n2 ∧ n2 < ((parts.len : Nat) : Int) ∧ parts.a = some a3) (u1 fun a4 =>
.read True (ld T.s_uint8 (Addr.add a4 (Int.toNat n2 * 1))) sL (u1 fun l5 =>
.bind 4 [.one (.int .u32)] (
.loop 5 [.one (.int .u32), .one (.int .i64)] (n1, (0, ())) (u2 fun (n6 : Int) (n7 : Int) =>
.ite (decide (n7 < ((l5.len : Nat) : Int))) (
.bind 6 [.one (.int .u32)] (
.ex [.adr] (c1 fun a8 => 0 ≤ n7 ∧ n7 < ((l5.len : Nat) : Int) ∧ l5.a = some a8) (u1 fun a9 =>
.read True (ld T.uint8 (Addr.add a9 (Int.toNat n7 * 1))) (sI .u8) (u1 fun (n10 : Int) =>
.lt (.int .u8) (n10) fun (n11 : Int) =>
.lt (.int .u32) (IntKind.wrap .u32 (((BitVec.toNat (BitVec.ofInt 32 n6 ^^^ BitVec.ofInt 32 (IntKind.wrap .u32 n11)) : Nat) : Int))) fun (n12 : Int) =>
.bind 7 [.one (.int .u32)] (
.loop 8 [.one (.int .u32), .one (.int .i64)] (n12, (0, ())) (u2 fun (n13 : Int) (n14 : Int) =>
.ite (decide (n14 < 8)) (
.lt (.int .u32) (IntKind.wrap .u32 (((BitVec.toNat (BitVec.ofInt 32 (Int.fdiv n13 2) ^^^ BitVec.ofInt 32 (IntKind.wrap .u32 (((BitVec.toNat (BitVec.ofInt 32 3988292384 &&& BitVec.ofInt 32 (IntKind.wrap .u32 (0 - IntKind.wrap .u32 (((BitVec.toNat (BitVec.ofInt 32 n13 &&& BitVec.ofInt 32 1) : Nat) : Int))))) : Nat) : Int)))) : Nat) : Int))) fun (n15 : Int) =>
.done 8 [.int .u32 n15, .int .i64 (IntKind.wrap .i64 (n14 + 1))]) (
.done 7 [.int .u32 n13]))) (u1 fun (n16 : Int) =>
.done 6 [.int .u32 n16])))) (u1 fun (n17 : Int) =>
.done 5 [.int .u32 n17, .int .i64 (IntKind.wrap .i64 (n7 + 1))])) (
.done 4 [.int .u32 n6]))) (u1 fun (n18 : Int) =>
.done 3 [.int .u32 n18])))) (u1 fun (n19 : Int) =>
.done 2 [.int .u32 n19, .int .i64 (IntKind.wrap .i64 (n2 + 1))])) (
.done 1 [.int .u32 n1]))) (u1 fun (n20 : Int) =>
.lt (.int .u32) (IntKind.wrap .u32 (((BitVec.toNat (BitVec.ofInt 32 4294967295 ^^^ BitVec.ofInt 32 n20) : Nat) : Int))) fun (n21 : Int) =>
.done 0 [.int .u32 n21])
theorem frame_More_eq (sum : Int) (parts : Sl) : decomp P 42 ⟨okFs, []⟩ { cnd := [], blk := [(0, [(5, .one (.int .u32))]), (1, [(5, .one (.int .u32))]), (2, [(5, .one (.int .u32))]), (3, [(5, .one (.int .u32))]), (4, [(5, .one (.int .u32))])], reg := [], lps := [(0, [(5, .one (.int .u32)), (14, .one (.int .i64))]), (2, [(5, .one (.int .u32)), (20, .one (.int .i64))]), (4, [(5, .one (.int .u32)), (28, .one (.int .i64))])] } [.tmp 4] (bodyOf Go.Proofs.Tryz.f87) [.val (.int .u32 sum), .val (.slice parts.a parts.len parts.cap)] = frame_More sum parts := by kernel_rfl
theorem frame_More_calls (sum : Int) (parts : Sl) {w : World} {R : List Value → World → Prop} (h : (frame_More sum parts).wp P (fun _ => True) w fun e vs w' => e = 0 ∧ R vs w') :
    Calls P F.frame_More #[.int .u32 sum, .slice parts.a parts.len parts.cap] w fun e w' => ∃ vs, e = .returned (pack vs) ∧ R vs w' :=
  decomp_sound (isFn_of Go.Proofs.Tryz.func87 (by kernel_rfl) (by kernel_rfl) (by kernel_rfl)) okFs_ok mix [.val (.int .u32 sum), .val (.slice parts.a parts.len parts.cap)] (by rw [frame_More_eq]; exact h)
end Go.Dec
