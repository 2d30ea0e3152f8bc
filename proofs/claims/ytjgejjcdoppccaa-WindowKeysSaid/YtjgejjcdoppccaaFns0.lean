/- Functions of this seat, decompiled by a program of ours; each is held to the code by the kernel. -/
import Derived.Test.YtjgejjcdoppccaaNames
namespace Go.Dec
set_option linter.unusedVariables false

def towpathlaw21_WindowHops (time : Int) (size : Int) (hop : Int) (k_ : Int) : Prog :=
.must (decide (hop > 0) = true → hop ≠ 0) <|
.ite (decide (hop > 0) && decide (IntKind.wrap .i64 (Int.tdiv size hop) > 1100)) (
.call F.window_Hop [.int .i64 time, .int .i64 size, .int .i64 hop] (.tup [.one .slc, .one (.int .i64)]) (u2 fun l0 (n1 : Int) =>
.lt (.int .i64) (n1) fun (n2 : Int) =>
.bind 1 [.one .bool] (
.ite (n2 == 2) (
.call F.towpathlaw21_awake [] sB (u1 fun b3 =>
.lt (.bool) (b3) fun b4 =>
.done 1 [.bool b4])) (
.done 1 [.bool false])) (u1 fun b5 =>
.done 0 [.bool b5]))) (
.call F.window_Hop [.int .i64 time, .int .i64 size, .int .i64 hop] (.tup [.one .slc, .one (.int .i64)]) (u2 fun l6 (n7 : Int) =>
.lt (.int .i64) (n7) fun (n8 : Int) =>
.call F.towpathref21_Hop [.int .i64 time, .int .i64 size, .int .i64 hop] (.tup [.one .slc, .one (.int .i64)]) (u2 fun l9 (n10 : Int) =>
.lt (.int .i64) (n10) fun (n11 : Int) =>
.bind 1 [.one .bool] (
.ite (n8 != n11) (
.done 1 [.bool true]) (
.call F.towpathlaw21_spans [l6.v, l9.v] sB (u1 fun b12 =>
.done 1 [.bool (not b12)]))) (u1 fun b13 =>
.ite (b13) (
.done 0 [.bool false]) (
.ite (n8 != 0) (
.call F.towpathlaw21_awake [] sB (u1 fun b14 =>
.lt (.bool) (b14) fun b15 =>
.done 0 [.bool b15])) (
.lt (.int .i64) (Int.tmod k_ 2000) fun (n16 : Int) =>
.bind 1 [.one (.int .i64)] (
.ite (decide (n16 < 0)) (
.lt (.int .i64) (IntKind.wrap .i64 (0 - n16)) fun (n17 : Int) =>
.done 1 [.int .i64 n17]) (
.done 1 [.int .i64 n16])) (u1 fun (n18 : Int) =>
.bind 1 [.one .adr] (
.tick <|
.must (hop ≠ 0) <|
.must (hop ≠ 0) <|
.act (new T.window_Span) sA (u1 fun a19 =>
.actU (st T.window_Span a19 (.agg #[.int .i64 (IntKind.wrap .i64 (IntKind.wrap .i64 (IntKind.wrap .i64 (Int.tdiv time hop) - n18) * hop)), .int .i64 (IntKind.wrap .i64 (IntKind.wrap .i64 (IntKind.wrap .i64 (IntKind.wrap .i64 (Int.tdiv time hop) - n18) * hop) + size))])) <|
.untick <|
.done 1 [.pointer (some a19)])) (u1 fun a20 =>
.bind 1 [.one .bool] (
.loop 2 [.one .bool, .one (.int .i64)] (false, (0, ())) (u2 fun b21 (n22 : Int) =>
.ite (decide (n22 < ((l6.len : Nat) : Int))) (
.ex [.adr] (c1 fun a23 => 0 ≤ n22 ∧ n22 < ((l6.len : Nat) : Int) ∧ l6.a = some a23) (u1 fun a24 =>
.read True (ld T.window_Span (Addr.add a24 (Int.toNat n22 * 2))) (sG [.int .i64, .int .i64]) (u2 fun (n25 : Int) (n26 : Int) =>
.act (new T.window_Span) sA (u1 fun a27 =>
.actU (st T.window_Span a27 (.agg #[.int .i64 n25, .int .i64 n26])) <|
.read (b21 = false) (ld T.window_Span a27) (sG [.int .i64, .int .i64]) (u2 fun (n28 : Int) (n29 : Int) =>
.read (b21 = false) (ld T.window_Span a20) (sG [.int .i64, .int .i64]) (u2 fun (n30 : Int) (n31 : Int) =>
.lt (.bool) (b21 || n28 == n30 && n29 == n31) fun b32 =>
.done 2 [.bool b32, .int .i64 (IntKind.wrap .i64 (n22 + 1))])))))) (
.done 1 [.bool b21]))) (u1 fun b33 =>
.bind 1 [.one .bool] (
.read True (ld T.int64 (Addr.add a20 0)) (sI .i64) (u1 fun (n34 : Int) =>
.read (decide (n34 ≥ 0) = true) (ld T.window_Span a20) (sG [.int .i64, .int .i64]) (u2 fun (n35 : Int) (n36 : Int) =>
.ite (decide (n34 ≥ 0)) (
.call F.window_Span_Has [.agg #[.int .i64 n35, .int .i64 n36], .int .i64 time] sB (u1 fun b37 =>
.ite (b33 == b37) (
.call F.towpathlaw21_awake [] sB (u1 fun b38 =>
.lt (.bool) (b38) fun b39 =>
.done 1 [.bool b39])) (
.done 1 [.bool false]))) (
.ite (b33 == false) (
.call F.towpathlaw21_awake [] sB (u1 fun b40 =>
.lt (.bool) (b40) fun b41 =>
.done 1 [.bool b41])) (
.done 1 [.bool false]))))) (u1 fun b42 =>
.done 0 [.bool b42]))))))))))
theorem towpathlaw21_WindowHops_eq (time : Int) (size : Int) (hop : Int) (k_ : Int) : decomp P 114 ⟨okFs, []⟩ { cnd := [(7253554917687775048269892, [(3, .one (.int .i64))])], blk := [(0, [(16, .one .bool)])], reg := [(3, [(8, .one .bool)]), (6, [(61, .one .bool)]), (13, [(15, .one .adr)]), (20, [(8, .one .bool)])], lps := [(0, [(16, .one .bool), (90, .one (.int .i64))])] } [.tmp 8] (bodyOf Go.Proofs.Try.f3) [.val (.int .i64 time), .val (.int .i64 size), .val (.int .i64 hop), .val (.int .i64 k_)] = towpathlaw21_WindowHops time size hop k_ := by kernel_rfl
theorem towpathlaw21_WindowHops_calls (time : Int) (size : Int) (hop : Int) (k_ : Int) {w : World} {R : List Value → World → Prop} (h : (towpathlaw21_WindowHops time size hop k_).wp P (fun _ => True) w fun e vs w' => e = 0 ∧ R vs w') :
    Calls P F.towpathlaw21_WindowHops #[.int .i64 time, .int .i64 size, .int .i64 hop, .int .i64 k_] w fun e w' => ∃ vs, e = .returned (pack vs) ∧ R vs w' :=
  decomp_sound (isFn_of Go.Proofs.Try.func3 (by kernel_rfl) (by kernel_rfl) (by kernel_rfl)) okFs_ok mix [.val (.int .i64 time), .val (.int .i64 size), .val (.int .i64 hop), .val (.int .i64 k_)] (by rw [towpathlaw21_WindowHops_eq]; exact h)

def towpathlaw21_WindowTumbles (time : Int) (size : Int) (other : Int) : Prog :=
.call F.window_Tumble [.int .i64 time, .int .i64 size] (.tup [.agg [.int .i64, .int .i64], .one (.int .i64)]) (u3 fun (n0 : Int) (n1 : Int) (n2 : Int) =>
.act (new T.window_Span) sA (u1 fun a3 =>
.actU (st T.window_Span a3 (.agg #[.int .i64 n0, .int .i64 n1])) <|
.lt (.int .i64) (n2) fun (n4 : Int) =>
.call F.towpathref21_Tumble [.int .i64 time, .int .i64 size] (.tup [.agg [.int .i64, .int .i64], .one (.int .i64)]) (u3 fun (n5 : Int) (n6 : Int) (n7 : Int) =>
.act (new T.towpathref21_Span) sA (u1 fun a8 =>
.actU (st T.towpathref21_Span a8 (.agg #[.int .i64 n5, .int .i64 n6])) <|
.lt (.int .i64) (n7) fun (n9 : Int) =>
.read ((n4 != n9) = false) (ld T.int64 (Addr.add a3 0)) (sI .i64) (u1 fun (n10 : Int) =>
.read ((n4 != n9) = false) (ld T.int64 (Addr.add a8 0)) (sI .i64) (u1 fun (n11 : Int) =>
.read ((n4 != n9 || n10 != n11) = false) (ld T.int64 (Addr.add a3 1)) (sI .i64) (u1 fun (n12 : Int) =>
.read ((n4 != n9 || n10 != n11) = false) (ld T.int64 (Addr.add a8 1)) (sI .i64) (u1 fun (n13 : Int) =>
.ite (n4 != n9 || n10 != n11 || n12 != n13) (
.done 0 [.bool false]) (
.call F.window_Tumble [.int .i64 other, .int .i64 size] (.tup [.agg [.int .i64, .int .i64], .one (.int .i64)]) (u3 fun (n14 : Int) (n15 : Int) (n16 : Int) =>
.act (new T.window_Span) sA (u1 fun a17 =>
.actU (st T.window_Span a17 (.agg #[.int .i64 n14, .int .i64 n15])) <|
.lt (.int .i64) (n16) fun (n18 : Int) =>
.ite (n4 != 0 || n18 != 0) (
.call F.towpathlaw21_awake [] sB (u1 fun b19 =>
.lt (.bool) (b19) fun b20 =>
.done 0 [.bool b20])) (
.read True (ld T.window_Span a3) (sG [.int .i64, .int .i64]) (u2 fun (n21 : Int) (n22 : Int) =>
.call F.window_Span_Has [.agg #[.int .i64 n21, .int .i64 n22], .int .i64 time] sB (u1 fun b23 =>
.read (not b23 = false) (ld T.int64 (Addr.add a3 1)) (sI .i64) (u1 fun (n24 : Int) =>
.read (not b23 = false) (ld T.int64 (Addr.add a3 0)) (sI .i64) (u1 fun (n25 : Int) =>
.read ((not b23 || IntKind.wrap .i64 (n24 - n25) != size) = false) (ld T.int64 (Addr.add a3 0)) (sI .i64) (u1 fun (n26 : Int) =>
.must ((not b23 || IntKind.wrap .i64 (n24 - n25) != size) = false → size ≠ 0) <|
.ite (not b23 || IntKind.wrap .i64 (n24 - n25) != size || Int.tmod n26 size != 0) (
.done 0 [.bool false]) (
.bind 1 [.one .bool] (
.tick <|
.hold True (ld T.window_Span a3) (sG [.int .i64, .int .i64]) (u2 fun (n27 : Int) (n28 : Int) =>
.hold True (ld T.window_Span a17) (sG [.int .i64, .int .i64]) (u2 fun (n29 : Int) (n30 : Int) =>
.read True (ld T.window_Span a3) (sG [.int .i64, .int .i64]) (u2 fun (n31 : Int) (n32 : Int) =>
.call F.window_Span_Has [.agg #[.int .i64 n31, .int .i64 n32], .int .i64 other] sB (u1 fun b33 =>
.read (((n27 == n29 && n28 == n30) == b33) = true) (ld T.window_Span a3) (sG [.int .i64, .int .i64]) (u2 fun (n34 : Int) (n35 : Int) =>
.read (((n27 == n29 && n28 == n30) == b33) = true) (ld T.window_Span a17) (sG [.int .i64, .int .i64]) (u2 fun (n36 : Int) (n37 : Int) =>
.hold (((n27 == n29 && n28 == n30) == b33) = true) (ld T.window_Span a3) (sG [.int .i64, .int .i64]) (u2 fun (n38 : Int) (n39 : Int) =>
.hold (((n27 == n29 && n28 == n30) == b33) = true) (ld T.window_Span a17) (sG [.int .i64, .int .i64]) (u2 fun (n40 : Int) (n41 : Int) =>
.ite ((n27 == n29 && n28 == n30) == b33) (
.call F.window_Span_Meets [.agg #[.int .i64 n34, .int .i64 n35], .agg #[.int .i64 n36, .int .i64 n37]] sB (u1 fun b42 =>
.untick <|
.ite (b42 == (n38 == n40 && n39 == n41)) (
.call F.towpathlaw21_awake [] sB (u1 fun b43 =>
.lt (.bool) (b43) fun b44 =>
.untick <|
.done 1 [.bool b44])) (
.untick <|
.done 1 [.bool false]))) (
.untick <|
.untick <|
.done 1 [.bool false])))))))))) (u1 fun b45 =>
.done 0 [.bool b45])))))))))))))))))))
theorem towpathlaw21_WindowTumbles_eq (time : Int) (size : Int) (other : Int) : decomp P 94 ⟨okFs, []⟩ { cnd := [], blk := [], reg := [(10, [(6, .one .bool)])], lps := [] } [.tmp 6] (bodyOf Go.Proofs.Try.f4) [.val (.int .i64 time), .val (.int .i64 size), .val (.int .i64 other)] = towpathlaw21_WindowTumbles time size other := by kernel_rfl
theorem towpathlaw21_WindowTumbles_calls (time : Int) (size : Int) (other : Int) {w : World} {R : List Value → World → Prop} (h : (towpathlaw21_WindowTumbles time size other).wp P (fun _ => True) w fun e vs w' => e = 0 ∧ R vs w') :
    Calls P F.towpathlaw21_WindowTumbles #[.int .i64 time, .int .i64 size, .int .i64 other] w fun e w' => ∃ vs, e = .returned (pack vs) ∧ R vs w' :=
  decomp_sound (isFn_of Go.Proofs.Try.func4 (by kernel_rfl) (by kernel_rfl) (by kernel_rfl)) okFs_ok mix [.val (.int .i64 time), .val (.int .i64 size), .val (.int .i64 other)] (by rw [towpathlaw21_WindowTumbles_eq]; exact h)

def towpathlaw21_WindowSessions (gap : Int) (times : Sl) : Prog :=
.bind 1 [.one .slc] (
.ite (decide (((times.len : Nat) : Int) > 40)) (
.must ((0 : Int) ≤ 40 ∧ 40 ≤ ((times.cap : Nat) : Int)) <|
.done 1 [.slice times.a 40 times.cap]) (
.done 1 [times.v])) (u1 fun l0 =>
.call F.window_Session [.int .i64 gap, l0.v] sL (u1 fun l1 =>
.call F.towpathref21_Session [.int .i64 gap, l0.v] sL (u1 fun l2 =>
.call F.towpathlaw21_spans [l1.v, l2.v] sB (u1 fun b3 =>
.ite (not b3) (
.done 0 [.bool false]) (
.bind 1 [.one .slc] (
.loop 2 [.one .slc, .one (.int .i64)] (⟨none, 0, 0⟩, (0, ())) (u2 fun l4 (n5 : Int) =>
.ite (decide (n5 < ((l0.len : Nat) : Int))) (
.lt (.int .i64) (n5) fun (n6 : Int) =>
.ex [.adr] (c1 fun a7 => 0 ≤ IntKind.wrap .i64 (IntKind.wrap .i64 (((l0.len : Nat) : Int) - 1) - n6) ∧ IntKind.wrap .i64 (IntKind.wrap .i64 (((l0.len : Nat) : Int) - 1) - n6) < ((l0.len : Nat) : Int) ∧ l0.a = some a7) (u1 fun a8 =>
.read True (ld T.int64 (Addr.add a8 (Int.toNat (IntKind.wrap .i64 (IntKind.wrap .i64 (((l0.len : Nat) : Int) - 1) - n6)) * 1))) (sI .i64) (u1 fun (n9 : Int) =>
.act (Instr.buildSlice T.s_int64 1 #[(0, .int .i64 n9)]) sL (u1 fun l10 =>
.act (app T.s_int64 T.s_int64 T.s_int64 l4.v l10.v) sL (u1 fun l11 =>
.done 2 [l11.v, .int .i64 (IntKind.wrap .i64 (n5 + 1))]))))) (
.done 1 [l4.v]))) (u1 fun l12 =>
.call F.window_Session [.int .i64 gap, l12.v] sL (u1 fun l13 =>
.call F.towpathref21_Session [.int .i64 gap, l0.v] sL (u1 fun l14 =>
.call F.towpathlaw21_spans [l13.v, l14.v] sB (u1 fun b15 =>
.ite (not b15) (
.done 0 [.bool false]) (
.ite (decide (gap < 1) || decide (gap > 1099511627776)) (
.bind 1 [.one .bool] (
.ite (((l1.len : Nat) : Int) == 0) (
.call F.towpathlaw21_awake [] sB (u1 fun b16 =>
.lt (.bool) (b16) fun b17 =>
.done 1 [.bool b17])) (
.done 1 [.bool false])) (u1 fun b18 =>
.done 0 [.bool b18])) (
.bind 1 [] (
.loop 2 [.one (.int .i64)] (0, ()) (u1 fun (n19 : Int) =>
.ite (decide (n19 < ((l1.len : Nat) : Int))) (
.ex [.adr] (c1 fun a20 => 0 ≤ n19 ∧ n19 < ((l1.len : Nat) : Int) ∧ l1.a = some a20) (u1 fun a21 =>
.read True (ld T.window_Span (Addr.add a21 (Int.toNat n19 * 2))) (sG [.int .i64, .int .i64]) (u2 fun (n22 : Int) (n23 : Int) =>
.act (new T.window_Span) sA (u1 fun a24 =>
.lt (.int .i64) (n19) fun (n25 : Int) =>
.actU (st T.window_Span a24 (.agg #[.int .i64 n22, .int .i64 n23])) <|
.bind 3 [.one .bool] (
.tick <|
.read (decide (n25 > 0) = true) (ld T.window_Span a24) (sG [.int .i64, .int .i64]) (u2 fun (n26 : Int) (n27 : Int) =>
.ex [.adr] (c1 fun a28 => decide (n25 > 0) = true → 0 ≤ IntKind.wrap .i64 (n25 - 1) ∧ IntKind.wrap .i64 (n25 - 1) < ((l1.len : Nat) : Int) ∧ l1.a = some a28) (u1 fun a29 =>
.read (decide (n25 > 0) = true) (ld T.window_Span (Addr.add a29 (Int.toNat (IntKind.wrap .i64 (n25 - 1)) * 2))) (sG [.int .i64, .int .i64]) (u2 fun (n30 : Int) (n31 : Int) =>
.ite (decide (n25 > 0)) (
.call F.window_Span_Meets [.agg #[.int .i64 n26, .int .i64 n27], .agg #[.int .i64 n30, .int .i64 n31]] sB (u1 fun b32 =>
.read (b32 = false) (ld T.int64 (Addr.add a24 0)) (sI .i64) (u1 fun (n33 : Int) =>
.ex [.adr] (c1 fun a34 => b32 = false → 0 ≤ IntKind.wrap .i64 (n25 - 1) ∧ IntKind.wrap .i64 (n25 - 1) < ((l1.len : Nat) : Int) ∧ l1.a = some a34) (u1 fun a35 =>
.read (b32 = false) (ld T.int64 (Addr.add (Addr.add a35 (Int.toNat (IntKind.wrap .i64 (n25 - 1)) * 2)) 1)) (sI .i64) (u1 fun (n36 : Int) =>
.untick <|
.done 3 [.bool (b32 || decide (n33 < n36))]))))) (
.untick <|
.done 3 [.bool false]))))) (u1 fun b37 =>
.ite (b37) (
.done 0 [.bool false]) (
.done 2 [.int .i64 (IntKind.wrap .i64 (n19 + 1))])))))) (
.done 1 []))) (u0 <|
.bind 1 [] (
.loop 2 [.one (.int .i64)] (0, ()) (u1 fun (n38 : Int) =>
.ite (decide (n38 < ((l0.len : Nat) : Int))) (
.bind 3 [] (
.ex [.adr] (c1 fun a39 => 0 ≤ n38 ∧ n38 < ((l0.len : Nat) : Int) ∧ l0.a = some a39) (u1 fun a40 =>
.read True (ld T.int64 (Addr.add a40 (Int.toNat n38 * 1))) (sI .i64) (u1 fun (n41 : Int) =>
.lt (.int .i64) (n41) fun (n42 : Int) =>
.bind 4 [.one (.int .i64)] (
.loop 5 [.one (.int .i64), .one (.int .i64)] (0, (0, ())) (u2 fun (n43 : Int) (n44 : Int) =>
.ite (decide (n44 < ((l1.len : Nat) : Int))) (
.ex [.adr] (c1 fun a45 => 0 ≤ n44 ∧ n44 < ((l1.len : Nat) : Int) ∧ l1.a = some a45) (u1 fun a46 =>
.read True (ld T.window_Span (Addr.add a46 (Int.toNat n44 * 2))) (sG [.int .i64, .int .i64]) (u2 fun (n47 : Int) (n48 : Int) =>
.act (new T.window_Span) sA (u1 fun a49 =>
.actU (st T.window_Span a49 (.agg #[.int .i64 n47, .int .i64 n48])) <|
.read True (ld T.window_Span a49) (sG [.int .i64, .int .i64]) (u2 fun (n50 : Int) (n51 : Int) =>
.call F.window_Span_Has [.agg #[.int .i64 n50, .int .i64 n51], .int .i64 n42] sB (u1 fun b52 =>
.bind 6 [.one (.int .i64)] (
.ite (b52) (
.lt (.int .i64) (IntKind.wrap .i64 (n43 + 1)) fun (n53 : Int) =>
.done 6 [.int .i64 n53]) (
.done 6 [.int .i64 n43])) (u1 fun (n54 : Int) =>
.done 5 [.int .i64 n54, .int .i64 (IntKind.wrap .i64 (n44 + 1))]))))))) (
.done 4 [.int .i64 n43]))) (u1 fun (n55 : Int) =>
.ite (decide (n42 ≥ 0) && decide (n42 ≤ 1099511627776) && n55 != 1) (
.done 0 [.bool false]) (
.done 3 []))))) (u0 <|
.done 2 [.int .i64 (IntKind.wrap .i64 (n38 + 1))])) (
.done 1 []))) (u0 <|
.call F.towpathlaw21_awake [] sB (u1 fun b56 =>
.lt (.bool) (b56) fun b57 =>
.done 0 [.bool b57]))))))))))))))
theorem towpathlaw21_WindowSessions_eq (gap : Int) (times : Sl) : decomp P 126 ⟨okFs, []⟩ { cnd := [(3221233681, [(1, .one .slc)]), (31901471898837980949691369446745047150, [(12, .one (.int .i64))])], blk := [(0, [(6, .one .slc)]), (2, []), (4, []), (5, []), (6, [(12, .one (.int .i64))])], reg := [(15, [(4, .one .bool)]), (19, [(94, .one .bool)])], lps := [(0, [(6, .one .slc), (31, .one (.int .i64))]), (2, [(68, .one (.int .i64))]), (4, [(98, .one (.int .i64))]), (6, [(12, .one (.int .i64)), (104, .one (.int .i64))])] } [.tmp 4] (bodyOf Go.Proofs.Try.f5) [.val (.int .i64 gap), .val (.slice times.a times.len times.cap)] = towpathlaw21_WindowSessions gap times := by kernel_rfl
theorem towpathlaw21_WindowSessions_calls (gap : Int) (times : Sl) {w : World} {R : List Value → World → Prop} (h : (towpathlaw21_WindowSessions gap times).wp P (fun _ => True) w fun e vs w' => e = 0 ∧ R vs w') :
    Calls P F.towpathlaw21_WindowSessions #[.int .i64 gap, .slice times.a times.len times.cap] w fun e w' => ∃ vs, e = .returned (pack vs) ∧ R vs w' :=
  decomp_sound (isFn_of Go.Proofs.Try.func5 (by kernel_rfl) (by kernel_rfl) (by kernel_rfl)) okFs_ok mix [.val (.int .i64 gap), .val (.slice times.a times.len times.cap)] (by rw [towpathlaw21_WindowSessions_eq]; exact h)

def towpathlaw21_WindowMeets (a_0 : Int) (a_1 : Int) (b_0 : Int) (b_1 : Int) (time : Int) (grace : Int) (now : Int) (on : Int) : Prog :=
.act (Instr.box T.towpathref21_Span (.agg #[.int .i64 a_0, .int .i64 a_1])) sA (u1 fun a0 =>
.act (Instr.box T.towpathref21_Span (.agg #[.int .i64 b_0, .int .i64 b_1])) sA (u1 fun a1 =>
.bind 1 [.one .adr, .one .adr] (
.tick <|
.hold True (ld T.int64 (Addr.add a0 0)) (sI .i64) (u1 fun (n2 : Int) =>
.hold True (ld T.int64 (Addr.add a0 1)) (sI .i64) (u1 fun (n3 : Int) =>
.hold True (ld T.int64 (Addr.add a1 0)) (sI .i64) (u1 fun (n4 : Int) =>
.hold True (ld T.int64 (Addr.add a1 1)) (sI .i64) (u1 fun (n5 : Int) =>
.both (
.act (new T.window_Span) sA (u1 fun a6 =>
.act (new T.window_Span) sA (u1 fun a7 =>
.actU (st T.window_Span a6 (.agg #[.int .i64 n2, .int .i64 n3])) <|
.untick <|
.actU (st T.window_Span a7 (.agg #[.int .i64 n4, .int .i64 n5])) <|
.untick <|
.done 1 [.pointer (some a6), .pointer (some a7)]))) (
.act (new T.window_Span) sA (u1 fun a8 =>
.act (new T.window_Span) sA (u1 fun a9 =>
.actU (st T.window_Span a9 (.agg #[.int .i64 n2, .int .i64 n3])) <|
.untick <|
.actU (st T.window_Span a8 (.agg #[.int .i64 n4, .int .i64 n5])) <|
.untick <|
.done 1 [.pointer (some a9), .pointer (some a8)])))))))) (u2 fun a10 a11 =>
.bind 1 [.one .bool] (
.tick <|
.read True (ld T.window_Span a10) (sG [.int .i64, .int .i64]) (u2 fun (n12 : Int) (n13 : Int) =>
.hold True (ld T.int64 (Addr.add a0 0)) (sI .i64) (u1 fun (n14 : Int) =>
.call F.window_Span_Has [.agg #[.int .i64 n12, .int .i64 n13], .int .i64 time] sB (u1 fun b15 =>
.read (decide (n14 ≤ time) = true) (ld T.int64 (Addr.add a0 1)) (sI .i64) (u1 fun (n16 : Int) =>
.read (not (b15 == (decide (n14 ≤ time) && decide (time < n16))) = false) (ld T.window_Span a10) (sG [.int .i64, .int .i64]) (u2 fun (n17 : Int) (n18 : Int) =>
.read (not (b15 == (decide (n14 ≤ time) && decide (time < n16))) = false) (ld T.window_Span a11) (sG [.int .i64, .int .i64]) (u2 fun (n19 : Int) (n20 : Int) =>
.hold (not (b15 == (decide (n14 ≤ time) && decide (time < n16))) = false) (ld T.window_Span a11) (sG [.int .i64, .int .i64]) (u2 fun (n21 : Int) (n22 : Int) =>
.hold (not (b15 == (decide (n14 ≤ time) && decide (time < n16))) = false) (ld T.window_Span a10) (sG [.int .i64, .int .i64]) (u2 fun (n23 : Int) (n24 : Int) =>
.ite (not (b15 == (decide (n14 ≤ time) && decide (time < n16)))) (
.untick <|
.untick <|
.done 1 [.bool true]) (
.call F.window_Span_Meets [.agg #[.int .i64 n17, .int .i64 n18], .agg #[.int .i64 n19, .int .i64 n20]] sB (u1 fun b25 =>
.untick <|
.call F.window_Span_Meets [.agg #[.int .i64 n21, .int .i64 n22], .agg #[.int .i64 n23, .int .i64 n24]] sB (u1 fun b26 =>
.untick <|
.done 1 [.bool (not (b25 == b26))])))))))))))) (u1 fun b27 =>
.ite (b27) (
.done 0 [.bool false]) (
.bind 1 [.one .bool] (
.read True (ld T.window_Span a10) (sG [.int .i64, .int .i64]) (u2 fun (n28 : Int) (n29 : Int) =>
.call F.window_Span_Has [.agg #[.int .i64 n28, .int .i64 n29], .int .i64 time] sB (u1 fun b30 =>
.read (b30 = true) (ld T.window_Span a11) (sG [.int .i64, .int .i64]) (u2 fun (n31 : Int) (n32 : Int) =>
.ite (b30) (
.call F.window_Span_Has [.agg #[.int .i64 n31, .int .i64 n32], .int .i64 time] sB (u1 fun b33 =>
.read (b33 = true) (ld T.window_Span a10) (sG [.int .i64, .int .i64]) (u2 fun (n34 : Int) (n35 : Int) =>
.read (b33 = true) (ld T.window_Span a11) (sG [.int .i64, .int .i64]) (u2 fun (n36 : Int) (n37 : Int) =>
.ite (b33) (
.call F.window_Span_Meets [.agg #[.int .i64 n34, .int .i64 n35], .agg #[.int .i64 n36, .int .i64 n37]] sB (u1 fun b38 =>
.done 1 [.bool (not b38)])) (
.done 1 [.bool false]))))) (
.done 1 [.bool false]))))) (u1 fun b39 =>
.ite (b39) (
.done 0 [.bool false]) (
.bind 1 [.one .bool] (
.read True (ld T.window_Span a10) (sG [.int .i64, .int .i64]) (u2 fun (n40 : Int) (n41 : Int) =>
.read True (ld T.window_Span a11) (sG [.int .i64, .int .i64]) (u2 fun (n42 : Int) (n43 : Int) =>
.call F.window_Span_Meets [.agg #[.int .i64 n40, .int .i64 n41], .agg #[.int .i64 n42, .int .i64 n43]] sB (u1 fun b44 =>
.read (b44 = true) (ld T.window_Span a10) (sG [.int .i64, .int .i64]) (u2 fun (n45 : Int) (n46 : Int) =>
.read (b44 = true) (ld T.int64 (Addr.add a0 0)) (sI .i64) (u1 fun (n47 : Int) =>
.ite (b44) (
.call F.window_Span_Has [.agg #[.int .i64 n45, .int .i64 n46], .int .i64 n47] sB (u1 fun b48 =>
.read (b48 = true) (ld T.window_Span a11) (sG [.int .i64, .int .i64]) (u2 fun (n49 : Int) (n50 : Int) =>
.read (b48 = true) (ld T.int64 (Addr.add a0 0)) (sI .i64) (u1 fun (n51 : Int) =>
.ite (b48) (
.call F.window_Span_Has [.agg #[.int .i64 n49, .int .i64 n50], .int .i64 n51] sB (u1 fun b52 =>
.read (not b52 = true) (ld T.window_Span a10) (sG [.int .i64, .int .i64]) (u2 fun (n53 : Int) (n54 : Int) =>
.read (not b52 = true) (ld T.int64 (Addr.add a1 0)) (sI .i64) (u1 fun (n55 : Int) =>
.ite (not b52) (
.call F.window_Span_Has [.agg #[.int .i64 n53, .int .i64 n54], .int .i64 n55] sB (u1 fun b56 =>
.read (b56 = true) (ld T.window_Span a11) (sG [.int .i64, .int .i64]) (u2 fun (n57 : Int) (n58 : Int) =>
.read (b56 = true) (ld T.int64 (Addr.add a1 0)) (sI .i64) (u1 fun (n59 : Int) =>
.ite (b56) (
.call F.window_Span_Has [.agg #[.int .i64 n57, .int .i64 n58], .int .i64 n59] sB (u1 fun b60 =>
.done 1 [.bool (not b60)])) (
.done 1 [.bool true]))))) (
.done 1 [.bool false]))))) (
.read (true = true) (ld T.window_Span a10) (sG [.int .i64, .int .i64]) (u2 fun (n61 : Int) (n62 : Int) =>
.read (true = true) (ld T.int64 (Addr.add a1 0)) (sI .i64) (u1 fun (n63 : Int) =>
.ite (true) (
.call F.window_Span_Has [.agg #[.int .i64 n61, .int .i64 n62], .int .i64 n63] sB (u1 fun b64 =>
.read (b64 = true) (ld T.window_Span a11) (sG [.int .i64, .int .i64]) (u2 fun (n65 : Int) (n66 : Int) =>
.read (b64 = true) (ld T.int64 (Addr.add a1 0)) (sI .i64) (u1 fun (n67 : Int) =>
.ite (b64) (
.call F.window_Span_Has [.agg #[.int .i64 n65, .int .i64 n66], .int .i64 n67] sB (u1 fun b68 =>
.done 1 [.bool (not b68)])) (
.done 1 [.bool true]))))) (
.done 1 [.bool false])))))))) (
.done 1 [.bool false]))))))) (u1 fun b69 =>
.ite (b69) (
.done 0 [.bool false]) (
.bind 1 [.one .bool] (
.read (decide (now ≤ on) = true) (ld T.window_Span a10) (sG [.int .i64, .int .i64]) (u2 fun (n70 : Int) (n71 : Int) =>
.ite (decide (now ≤ on)) (
.call F.window_Span_Closed [.agg #[.int .i64 n70, .int .i64 n71], .int .i64 grace, .int .i64 now] sB (u1 fun b72 =>
.read (b72 = true) (ld T.window_Span a10) (sG [.int .i64, .int .i64]) (u2 fun (n73 : Int) (n74 : Int) =>
.ite (b72) (
.call F.window_Span_Closed [.agg #[.int .i64 n73, .int .i64 n74], .int .i64 grace, .int .i64 on] sB (u1 fun b75 =>
.done 1 [.bool (not b75)])) (
.done 1 [.bool false])))) (
.done 1 [.bool false]))) (u1 fun b76 =>
.ite (b76) (
.done 0 [.bool false]) (
.bind 1 [.one .bool] (
.tick <|
.read True (ld T.window_Span a10) (sG [.int .i64, .int .i64]) (u2 fun (n77 : Int) (n78 : Int) =>
.call F.window_Span_Closed [.agg #[.int .i64 n77, .int .i64 n78], .int .i64 grace, .int .i64 now] sB (u1 fun b79 =>
.read (b79 = true) (ld T.int64 (Addr.add a0 1)) (sI .i64) (u1 fun (n80 : Int) =>
.read ((b79 && decide (now < n80)) = false ∧ decide (grace ≤ 0) = true) (ld T.window_Span a10) (sG [.int .i64, .int .i64]) (u2 fun (n81 : Int) (n82 : Int) =>
.hold ((b79 && decide (now < n80)) = false ∧ decide (grace ≤ 0) = true) (ld T.int64 (Addr.add a0 1)) (sI .i64) (u1 fun (n83 : Int) =>
.ite (b79 && decide (now < n80)) (
.untick <|
.done 1 [.bool true]) (
.ite (decide (grace ≤ 0)) (
.call F.window_Span_Closed [.agg #[.int .i64 n81, .int .i64 n82], .int .i64 grace, .int .i64 now] sB (u1 fun b84 =>
.untick <|
.done 1 [.bool (not (b84 == decide (n83 ≤ now)))])) (
.untick <|
.done 1 [.bool false])))))))) (u1 fun b85 =>
.ite (b85) (
.done 0 [.bool false]) (
.read True (ld T.int64 (Addr.add a0 0)) (sI .i64) (u1 fun (n86 : Int) =>
.read True (ld T.int64 (Addr.add a0 1)) (sI .i64) (u1 fun (n87 : Int) =>
.act (new T.window_Span) sA (u1 fun a88 =>
.actU (st T.window_Span a88 (.agg #[.int .i64 (Int.tmod n86 1099511627776), .int .i64 (Int.tmod n87 1099511627776)])) <|
.lt (.int .i64) (Int.tmod grace 1099511627776) fun (n89 : Int) =>
.bind 1 [.one (.int .i64)] (
.ite (decide (n89 < 0)) (
.done 1 [.int .i64 0]) (
.done 1 [.int .i64 n89])) (u1 fun (n90 : Int) =>
.bind 1 [.one .bool] (
.tick <|
.read True (ld T.window_Span a88) (sG [.int .i64, .int .i64]) (u2 fun (n91 : Int) (n92 : Int) =>
.hold True (ld T.int64 (Addr.add a88 1)) (sI .i64) (u1 fun (n93 : Int) =>
.call F.window_Span_Closed [.agg #[.int .i64 n91, .int .i64 n92], .int .i64 (Int.tmod grace 1099511627776), .int .i64 (Int.tmod now 1099511627776)] sB (u1 fun b94 =>
.untick <|
.ite (b94 == decide (IntKind.wrap .i64 (n93 + n90) ≤ Int.tmod now 1099511627776)) (
.call F.towpathlaw21_awake [] sB (u1 fun b95 =>
.lt (.bool) (b95) fun b96 =>
.untick <|
.done 1 [.bool b96])) (
.untick <|
.done 1 [.bool false]))))) (u1 fun b97 =>
.done 0 [.bool b97]))))))))))))))))))
theorem towpathlaw21_WindowMeets_eq (a_0 : Int) (a_1 : Int) (b_0 : Int) (b_1 : Int) (time : Int) (grace : Int) (now : Int) (on : Int) : decomp P 162 ⟨okFs, []⟩ { cnd := [(268435600, [(16, .one (.int .i64))])], blk := [], reg := [(1, [(13, .one .adr), (14, .one .adr)]), (2, [(49, .one .bool)]), (4, [(63, .one .bool)]), (6, [(92, .one .bool)]), (8, [(108, .one .bool)]), (10, [(133, .one .bool)]), (16, [(12, .one .bool)])], lps := [] } [.tmp 12] (bodyOf Go.Proofs.Try.f6) [.val (.agg #[.int .i64 a_0, .int .i64 a_1]), .val (.agg #[.int .i64 b_0, .int .i64 b_1]), .val (.int .i64 time), .val (.int .i64 grace), .val (.int .i64 now), .val (.int .i64 on)] = towpathlaw21_WindowMeets a_0 a_1 b_0 b_1 time grace now on := by kernel_rfl
theorem towpathlaw21_WindowMeets_calls (a_0 : Int) (a_1 : Int) (b_0 : Int) (b_1 : Int) (time : Int) (grace : Int) (now : Int) (on : Int) {w : World} {R : List Value → World → Prop} (h : (towpathlaw21_WindowMeets a_0 a_1 b_0 b_1 time grace now on).wp P (fun _ => True) w fun e vs w' => e = 0 ∧ R vs w') :
    Calls P F.towpathlaw21_WindowMeets #[.agg #[.int .i64 a_0, .int .i64 a_1], .agg #[.int .i64 b_0, .int .i64 b_1], .int .i64 time, .int .i64 grace, .int .i64 now, .int .i64 on] w fun e w' => ∃ vs, e = .returned (pack vs) ∧ R vs w' :=
  decomp_sound (isFn_of Go.Proofs.Try.func6 (by kernel_rfl) (by kernel_rfl) (by kernel_rfl)) okFs_ok mix [.val (.agg #[.int .i64 a_0, .int .i64 a_1]), .val (.agg #[.int .i64 b_0, .int .i64 b_1]), .val (.int .i64 time), .val (.int .i64 grace), .val (.int .i64 now), .val (.int .i64 on)] (by rw [towpathlaw21_WindowMeets_eq]; exact h)

def towpathlaw21_WindowKeys (a : Int) (k_ : ByteArray) (b : Int) (l : ByteArray) (s : ByteArray) (at_ : Int) : Prog :=
.call F.towpathlaw21_short [.string k_] sS (u1 fun s0 =>
.call F.towpathlaw21_short [.string l] sS (u1 fun s1 =>
.call F.towpathlaw21_short [.string s] sS (u1 fun s2 =>
.lt (.str) (s0) fun s3 =>
.lt (.str) (s1) fun s4 =>
.lt (.str) (s2) fun s5 =>
.call F.window_Key [.int .i64 a, .string s3] (.tup [.one .str, .one (.int .i64)]) (u2 fun s6 (n7 : Int) =>
.lt (.str) (s6) fun s8 =>
.lt (.int .i64) (n7) fun (n9 : Int) =>
.call F.window_Key [.int .i64 b, .string s4] (.tup [.one .str, .one (.int .i64)]) (u2 fun s10 (n11 : Int) =>
.lt (.str) (s10) fun s12 =>
.lt (.int .i64) (n11) fun (n13 : Int) =>
.call F.towpathref21_Key [.int .i64 a, .string s3] (.tup [.one .str, .one (.int .i64)]) (u2 fun s14 (n15 : Int) =>
.lt (.str) (s14) fun s16 =>
.lt (.int .i64) (n15) fun (n17 : Int) =>
.ite (not (ByteArray.toList s8 == ByteArray.toList s16) || n9 != n17) (
.done 0 [.bool false]) (
.call F.window_Parse [.string s5] (.tup [.one (.int .i64), .one .str, .one (.int .i64)]) (u3 fun (n18 : Int) s19 (n20 : Int) =>
.lt (.int .i64) (n18) fun (n21 : Int) =>
.lt (.str) (s19) fun s22 =>
.lt (.int .i64) (n20) fun (n23 : Int) =>
.call F.towpathref21_Parse [.string s5] (.tup [.one (.int .i64), .one .str, .one (.int .i64)]) (u3 fun (n24 : Int) s25 (n26 : Int) =>
.lt (.int .i64) (n24) fun (n27 : Int) =>
.lt (.str) (s25) fun s28 =>
.lt (.int .i64) (n26) fun (n29 : Int) =>
.ite (n21 != n27 || not (ByteArray.toList s22 == ByteArray.toList s28) || n23 != n29) (
.done 0 [.bool false]) (
.bind 1 [] (
.ite (n9 == 0) (
.call F.window_Parse [.string s8] (.tup [.one (.int .i64), .one .str, .one (.int .i64)]) (u3 fun (n30 : Int) s31 (n32 : Int) =>
.lt (.int .i64) (n30) fun (n33 : Int) =>
.lt (.str) (s31) fun s34 =>
.lt (.int .i64) (n32) fun (n35 : Int) =>
.ite (n33 != a || not (ByteArray.toList s34 == ByteArray.toList s3) || n35 != 0) (
.done 0 [.bool false]) (
.done 1 []))) (
.done 1 [])) (u0 <|
.ite (n9 == 0 && n13 == 0 && not (Op.bytesLess (ByteArray.toList s8) (ByteArray.toList s12) == (decide (a < b) || a == b && Op.bytesLess (ByteArray.toList s3) (ByteArray.toList s4)))) (
.done 0 [.bool false]) (
.lt (.int .i64) (at_) fun (n36 : Int) =>
.bind 1 [.one (.int .i64)] (
.ite (decide (n36 < 0)) (
.done 1 [.int .i64 0]) (
.done 1 [.int .i64 n36])) (u1 fun (n37 : Int) =>
.bind 1 [.one (.int .i64)] (
.ite (decide (n37 > 17592186044415)) (
.done 1 [.int .i64 17592186044415]) (
.done 1 [.int .i64 n37])) (u1 fun (n38 : Int) =>
.call F.window_Bound [.int .i64 at_] sS (u1 fun s39 =>
.call F.towpathref21_Hex [.int .i64 n38] sS (u1 fun s40 =>
.must (((1 + ByteArray.size s40 : Nat) : Int) ≤ 9223372036854775807) <|
.ite (not (ByteArray.toList s39 == ByteArray.toList ((ByteArray.mk #[119]) ++ s40))) (
.done 0 [.bool false]) (
.bind 1 [.one .bool] (
.ite (n9 != 0) (
.call F.towpathlaw21_awake [] sB (u1 fun b41 =>
.lt (.bool) (b41) fun b42 =>
.done 1 [.bool b42])) (
.call F.window_Bound [.int .i64 at_] sS (u1 fun s43 =>
.ite (Op.bytesLess (ByteArray.toList s8) (ByteArray.toList s43) == decide (a < at_)) (
.call F.towpathlaw21_awake [] sB (u1 fun b44 =>
.lt (.bool) (b44) fun b45 =>
.done 1 [.bool b45])) (
.done 1 [.bool false])))) (u1 fun b46 =>
.done 0 [.bool b46]))))))))))))))))))
theorem towpathlaw21_WindowKeys_eq (a : Int) (k_ : ByteArray) (b : Int) (l : ByteArray) (s : ByteArray) (at_ : Int) : decomp P 154 ⟨okFs, []⟩ { cnd := [(137438953602, [(25, .one (.int .i64))]), (137438953604, [(25, .one (.int .i64))]), (41538216411953592499568798595022932, [])], blk := [], reg := [(24, [(12, .one .bool)])], lps := [] } [.tmp 12] (bodyOf Go.Proofs.Try.f7) [.val (.int .i64 a), .val (.string k_), .val (.int .i64 b), .val (.string l), .val (.string s), .val (.int .i64 at_)] = towpathlaw21_WindowKeys a k_ b l s at_ := by kernel_rfl
theorem towpathlaw21_WindowKeys_calls (a : Int) (k_ : ByteArray) (b : Int) (l : ByteArray) (s : ByteArray) (at_ : Int) {w : World} {R : List Value → World → Prop} (h : (towpathlaw21_WindowKeys a k_ b l s at_).wp P (fun _ => True) w fun e vs w' => e = 0 ∧ R vs w') :
    Calls P F.towpathlaw21_WindowKeys #[.int .i64 a, .string k_, .int .i64 b, .string l, .string s, .int .i64 at_] w fun e w' => ∃ vs, e = .returned (pack vs) ∧ R vs w' :=
  decomp_sound (isFn_of Go.Proofs.Try.func7 (by kernel_rfl) (by kernel_rfl) (by kernel_rfl)) okFs_ok mix [.val (.int .i64 a), .val (.string k_), .val (.int .i64 b), .val (.string l), .val (.string s), .val (.int .i64 at_)] (by rw [towpathlaw21_WindowKeys_eq]; exact h)

def window_Hop (time : Int) (size : Int) (hop : Int) : Prog :=
.bind 1 [.one .bool] (
.call F.window_isTime [.int .i64 time] sB (u1 fun b0 =>
.ite (not b0) (
.done 1 [.bool true]) (
.call F.window_sized [.int .i64 size] sB (u1 fun b1 =>
.done 1 [.bool (not b1 || decide (hop < 1) || decide (hop > size) || decide (size > IntKind.wrap .i64 (1024 * hop)))])))) (u1 fun b2 =>
.ite (b2) (
.done 0 [.slice none 0 0, .int .i64 2]) (
.must (hop ≠ 0) <|
.lt (.int .i64) (IntKind.wrap .i64 (time - Int.tmod time hop)) fun (n3 : Int) =>
.bind 1 [.one .slc] (
.loop 2 [.one .slc, .one (.int .i64)] (⟨none, 0, 0⟩, (n3, ())) (u2 fun l4 (n5 : Int) =>
.ite (decide (n5 ≥ 0) && decide (IntKind.wrap .i64 (n5 + size) > time)) (
.act (Instr.buildSlice T.s_window_Span 1 #[(0, .agg #[.int .i64 n5, .int .i64 (IntKind.wrap .i64 (n5 + size))])]) sL (u1 fun l6 =>
.act (app T.s_window_Span T.s_window_Span T.s_window_Span l4.v l6.v) sL (u1 fun l7 =>
.lt (.int .i64) (IntKind.wrap .i64 (n5 - hop)) fun (n8 : Int) =>
.done 2 [l7.v, .int .i64 n8]))) (
.done 1 [l4.v]))) (u1 fun l9 =>
.call F.slices_Reverse_s_window_Span_window_Span [l9.v] (.tup []) (u0 <|
.done 0 [l9.v, .int .i64 0]))))
theorem window_Hop_eq (time : Int) (size : Int) (hop : Int) : decomp P 61 ⟨okFs, []⟩ { cnd := [], blk := [(0, [(8, .one .slc)])], reg := [(1, [(32, .one .bool)])], lps := [(0, [(8, .one .slc), (9, .one (.int .i64))])] } [.tmp 6, .tmp 7] (bodyOf Go.Proofs.Try.f8) [.val (.int .i64 time), .val (.int .i64 size), .val (.int .i64 hop)] = window_Hop time size hop := by kernel_rfl
theorem window_Hop_calls (time : Int) (size : Int) (hop : Int) {w : World} {R : List Value → World → Prop} (h : (window_Hop time size hop).wp P (fun _ => True) w fun e vs w' => e = 0 ∧ R vs w') :
    Calls P F.window_Hop #[.int .i64 time, .int .i64 size, .int .i64 hop] w fun e w' => ∃ vs, e = .returned (pack vs) ∧ R vs w' :=
  decomp_sound (isFn_of Go.Proofs.Try.func8 (by kernel_rfl) (by kernel_rfl) (by kernel_rfl)) okFs_ok mix [.val (.int .i64 time), .val (.int .i64 size), .val (.int .i64 hop)] (by rw [window_Hop_eq]; exact h)

def towpathlaw21_awake  : Prog :=
.call F.window_Tumble [.int .i64 17, .int .i64 5] (.tup [.agg [.int .i64, .int .i64], .one (.int .i64)]) (u3 fun (n0 : Int) (n1 : Int) (n2 : Int) =>
.act (new T.window_Span) sA (u1 fun a3 =>
.actU (st T.window_Span a3 (.agg #[.int .i64 n0, .int .i64 n1])) <|
.lt (.int .i64) (n2) fun (n4 : Int) =>
.call F.window_Hop [.int .i64 17, .int .i64 10, .int .i64 5] (.tup [.one .slc, .one (.int .i64)]) (u2 fun l5 (n6 : Int) =>
.lt (.int .i64) (n6) fun (n7 : Int) =>
.act (Instr.buildSlice T.s_int64 4 #[(0, .int .i64 1), (1, .int .i64 20), (2, .int .i64 4), (3, .int .i64 9)]) sL (u1 fun l8 =>
.call F.window_Session [.int .i64 5, l8.v] sL (u1 fun l9 =>
.call F.window_Key [.int .i64 18, .string (ByteArray.mk #[97, 98])] (.tup [.one .str, .one (.int .i64)]) (u2 fun s10 (n11 : Int) =>
.lt (.str) (s10) fun s12 =>
.lt (.int .i64) (n11) fun (n13 : Int) =>
.call F.window_Due [.int .i64 5, .int .i64 4, .int .i64 17, .int .i64 9] (.tup [.one .slc, .one .bool]) (u2 fun l14 b15 =>
.lt (.bool) (b15) fun b16 =>
.read ((n4 == 0) = true) (ld T.window_Span a3) (sG [.int .i64, .int .i64]) (u2 fun (n17 : Int) (n18 : Int) =>
.ex [.adr] (c1 fun a19 => (n4 == 0 && (n17 == 15 && n18 == 20) && n7 == 0 && ((l5.len : Nat) : Int) == 2) = true → (0 : Int) ≤ 0 ∧ 0 < ((l5.len : Nat) : Int) ∧ l5.a = some a19) (u1 fun a20 =>
.read ((n4 == 0 && (n17 == 15 && n18 == 20) && n7 == 0 && ((l5.len : Nat) : Int) == 2) = true) (ld T.int64 (Addr.add (Addr.add a20 0) 0)) (sI .i64) (u1 fun (n21 : Int) =>
.ex [.adr] (c1 fun a22 => (n4 == 0 && (n17 == 15 && n18 == 20) && n7 == 0 && ((l5.len : Nat) : Int) == 2 && n21 == 10 && ((l9.len : Nat) : Int) == 3) = true → (0 : Int) ≤ 0 ∧ 0 < ((l9.len : Nat) : Int) ∧ l9.a = some a22) (u1 fun a23 =>
.read ((n4 == 0 && (n17 == 15 && n18 == 20) && n7 == 0 && ((l5.len : Nat) : Int) == 2 && n21 == 10 && ((l9.len : Nat) : Int) == 3) = true) (ld T.int64 (Addr.add (Addr.add a23 0) 1)) (sI .i64) (u1 fun (n24 : Int) =>
.ex [.adr] (c1 fun a25 => (n4 == 0 && (n17 == 15 && n18 == 20) && n7 == 0 && ((l5.len : Nat) : Int) == 2 && n21 == 10 && ((l9.len : Nat) : Int) == 3 && n24 == 9) = true → (0 : Int) ≤ 2 ∧ 2 < ((l9.len : Nat) : Int) ∧ l9.a = some a25) (u1 fun a26 =>
.read ((n4 == 0 && (n17 == 15 && n18 == 20) && n7 == 0 && ((l5.len : Nat) : Int) == 2 && n21 == 10 && ((l9.len : Nat) : Int) == 3 && n24 == 9) = true) (ld T.int64 (Addr.add (Addr.add a26 4) 0)) (sI .i64) (u1 fun (n27 : Int) =>
.ex [.adr] (c1 fun a28 => (n4 == 0 && (n17 == 15 && n18 == 20) && n7 == 0 && ((l5.len : Nat) : Int) == 2 && n21 == 10 && ((l9.len : Nat) : Int) == 3 && n24 == 9 && n27 == 20 && n13 == 0 && ByteArray.toList s12 == ByteArray.toList (ByteArray.mk #[119, 48, 48, 48, 48, 48, 48, 48, 48, 48, 49, 50, 58, 97, 98]) && ((l14.len : Nat) : Int) == 3) = true → (0 : Int) ≤ 2 ∧ 2 < ((l14.len : Nat) : Int) ∧ l14.a = some a28) (u1 fun a29 =>
.read ((n4 == 0 && (n17 == 15 && n18 == 20) && n7 == 0 && ((l5.len : Nat) : Int) == 2 && n21 == 10 && ((l9.len : Nat) : Int) == 3 && n24 == 9 && n27 == 20 && n13 == 0 && ByteArray.toList s12 == ByteArray.toList (ByteArray.mk #[119, 48, 48, 48, 48, 48, 48, 48, 48, 48, 49, 50, 58, 97, 98]) && ((l14.len : Nat) : Int) == 3) = true) (ld T.int64 (Addr.add a29 2)) (sI .i64) (u1 fun (n30 : Int) =>
.lt (.bool) (n4 == 0 && (n17 == 15 && n18 == 20) && n7 == 0 && ((l5.len : Nat) : Int) == 2 && n21 == 10 && ((l9.len : Nat) : Int) == 3 && n24 == 9 && n27 == 20 && n13 == 0 && ByteArray.toList s12 == ByteArray.toList (ByteArray.mk #[119, 48, 48, 48, 48, 48, 48, 48, 48, 48, 49, 50, 58, 97, 98]) && ((l14.len : Nat) : Int) == 3 && n30 == 15 && not b16) fun b31 =>
.done 0 [.bool b31]))))))))))))))))
theorem towpathlaw21_awake_eq  : decomp P 93 ⟨okFs, []⟩ { cnd := [], blk := [], reg := [], lps := [] } [.tmp 0] (bodyOf Go.Proofs.Try.f9) [] = towpathlaw21_awake  := by kernel_rfl
theorem towpathlaw21_awake_calls  {w : World} {R : List Value → World → Prop} (h : (towpathlaw21_awake ).wp P (fun _ => True) w fun e vs w' => e = 0 ∧ R vs w') :
    Calls P F.towpathlaw21_awake #[] w fun e w' => ∃ vs, e = .returned (pack vs) ∧ R vs w' :=
  decomp_sound (isFn_of Go.Proofs.Try.func9 (by kernel_rfl) (by kernel_rfl) (by kernel_rfl)) okFs_ok mix [] (by rw [towpathlaw21_awake_eq]; exact h)

def towpathref21_Hop (t : Int) (size : Int) (hop : Int) : Prog :=
.call F.towpathref21_time [.int .i64 t] sB (u1 fun b0 =>
.must ((not b0 || decide (size < 1) || decide (size > 1099511627776) || decide (hop < 1) || decide (hop > size)) = false → hop ≠ 0) <|
.ite (not b0 || decide (size < 1) || decide (size > 1099511627776) || decide (hop < 1) || decide (hop > size) || decide (IntKind.wrap .i64 (Int.tdiv (IntKind.wrap .i64 (IntKind.wrap .i64 (size + hop) - 1)) hop) > 1024)) (
.done 0 [.slice none 0 0, .int .i64 2]) (
.bind 1 [.one (.int .i64)] (
.ite (decide (t ≥ size)) (
.must (hop ≠ 0) <|
.lt (.int .i64) (IntKind.wrap .i64 (IntKind.wrap .i64 (Int.tdiv (IntKind.wrap .i64 (t - size)) hop) + 1)) fun (n1 : Int) =>
.done 1 [.int .i64 n1]) (
.done 1 [.int .i64 0])) (u1 fun (n2 : Int) =>
.lt (.int .i64) (n2) fun (n3 : Int) =>
.bind 1 [.one .slc] (
.loop 2 [.one .slc, .one (.int .i64)] (⟨none, 0, 0⟩, (n3, ())) (u2 fun l4 (n5 : Int) =>
.ite (decide (IntKind.wrap .i64 (n5 * hop) ≤ t)) (
.act (Instr.buildSlice T.s_towpathref21_Span 1 #[(0, .agg #[.int .i64 (IntKind.wrap .i64 (n5 * hop)), .int .i64 (IntKind.wrap .i64 (IntKind.wrap .i64 (n5 * hop) + size))])]) sL (u1 fun l6 =>
.act (app T.s_towpathref21_Span T.s_towpathref21_Span T.s_towpathref21_Span l4.v l6.v) sL (u1 fun l7 =>
.lt (.int .i64) (IntKind.wrap .i64 (n5 + 1)) fun (n8 : Int) =>
.done 2 [l7.v, .int .i64 n8]))) (
.done 1 [l4.v]))) (u1 fun l9 =>
.done 0 [l9.v, .int .i64 0]))))
theorem towpathref21_Hop_eq (t : Int) (size : Int) (hop : Int) : decomp P 70 ⟨okFs, []⟩ { cnd := [(2269814212196827178, [(9, .one (.int .i64))])], blk := [(0, [(8, .one .slc)])], reg := [], lps := [(0, [(8, .one .slc), (10, .one (.int .i64))])] } [.tmp 6, .tmp 7] (bodyOf Go.Proofs.Try.f10) [.val (.int .i64 t), .val (.int .i64 size), .val (.int .i64 hop)] = towpathref21_Hop t size hop := by kernel_rfl
theorem towpathref21_Hop_calls (t : Int) (size : Int) (hop : Int) {w : World} {R : List Value → World → Prop} (h : (towpathref21_Hop t size hop).wp P (fun _ => True) w fun e vs w' => e = 0 ∧ R vs w') :
    Calls P F.towpathref21_Hop #[.int .i64 t, .int .i64 size, .int .i64 hop] w fun e w' => ∃ vs, e = .returned (pack vs) ∧ R vs w' :=
  decomp_sound (isFn_of Go.Proofs.Try.func10 (by kernel_rfl) (by kernel_rfl) (by kernel_rfl)) okFs_ok mix [.val (.int .i64 t), .val (.int .i64 size), .val (.int .i64 hop)] (by rw [towpathref21_Hop_eq]; exact h)

def towpathlaw21_spans (a : Sl) (b : Sl) : Prog :=
.ite (((a.len : Nat) : Int) != ((b.len : Nat) : Int)) (
.done 0 [.bool false]) (
.bind 1 [] (
.loop 2 [.one (.int .i64)] (0, ()) (u1 fun (n0 : Int) =>
.ite (decide (n0 < ((a.len : Nat) : Int))) (
.lt (.int .i64) (n0) fun (n1 : Int) =>
.tick <|
.ex [.adr] (c1 fun a2 => 0 ≤ n1 ∧ n1 < ((a.len : Nat) : Int) ∧ a.a = some a2) (u1 fun a3 =>
.read True (ld T.int64 (Addr.add (Addr.add a3 (Int.toNat n1 * 2)) 0)) (sI .i64) (u1 fun (n4 : Int) =>
.ex [.adr] (c1 fun a5 => 0 ≤ n1 ∧ n1 < ((b.len : Nat) : Int) ∧ b.a = some a5) (u1 fun a6 =>
.read True (ld T.int64 (Addr.add (Addr.add a6 (Int.toNat n1 * 2)) 0)) (sI .i64) (u1 fun (n7 : Int) =>
.ex [.adr] (c1 fun a8 => (n4 != n7) = false → 0 ≤ n1 ∧ n1 < ((a.len : Nat) : Int) ∧ a.a = some a8) (u1 fun a9 =>
.read ((n4 != n7) = false) (ld T.int64 (Addr.add (Addr.add a9 (Int.toNat n1 * 2)) 1)) (sI .i64) (u1 fun (n10 : Int) =>
.ex [.adr] (c1 fun a11 => (n4 != n7) = false → 0 ≤ n1 ∧ n1 < ((b.len : Nat) : Int) ∧ b.a = some a11) (u1 fun a12 =>
.read ((n4 != n7) = false) (ld T.int64 (Addr.add (Addr.add a12 (Int.toNat n1 * 2)) 1)) (sI .i64) (u1 fun (n13 : Int) =>
.untick <|
.ite (n4 != n7 || n10 != n13) (
.done 0 [.bool false]) (
.done 2 [.int .i64 (IntKind.wrap .i64 (n0 + 1))])))))))))) (
.done 1 []))) (u0 <|
.done 0 [.bool true]))
theorem towpathlaw21_spans_eq (a : Sl) (b : Sl) : decomp P 41 ⟨okFs, []⟩ { cnd := [], blk := [(0, [])], reg := [], lps := [(0, [(13, .one (.int .i64))])] } [.tmp 4] (bodyOf Go.Proofs.Try.f11) [.val (.slice a.a a.len a.cap), .val (.slice b.a b.len b.cap)] = towpathlaw21_spans a b := by kernel_rfl
theorem towpathlaw21_spans_calls (a : Sl) (b : Sl) {w : World} {R : List Value → World → Prop} (h : (towpathlaw21_spans a b).wp P (fun _ => True) w fun e vs w' => e = 0 ∧ R vs w') :
    Calls P F.towpathlaw21_spans #[.slice a.a a.len a.cap, .slice b.a b.len b.cap] w fun e w' => ∃ vs, e = .returned (pack vs) ∧ R vs w' :=
  decomp_sound (isFn_of Go.Proofs.Try.func11 (by kernel_rfl) (by kernel_rfl) (by kernel_rfl)) okFs_ok mix [.val (.slice a.a a.len a.cap), .val (.slice b.a b.len b.cap)] (by rw [towpathlaw21_spans_eq]; exact h)

def window_Span_Has (s_0 : Int) (s_1 : Int) (time : Int) : Prog :=
.act (Instr.box T.window_Span (.agg #[.int .i64 s_0, .int .i64 s_1])) sA (u1 fun a0 =>
.read True (ld T.int64 (Addr.add a0 0)) (sI .i64) (u1 fun (n1 : Int) =>
.read (decide (time ≥ n1) = true) (ld T.int64 (Addr.add a0 1)) (sI .i64) (u1 fun (n2 : Int) =>
.lt (.bool) (decide (time ≥ n1) && decide (time < n2)) fun b3 =>
.done 0 [.bool b3])))
theorem window_Span_Has_eq (s_0 : Int) (s_1 : Int) (time : Int) : decomp P 15 ⟨okFs, []⟩ { cnd := [], blk := [], reg := [], lps := [] } [.tmp 4] (bodyOf Go.Proofs.Try.f12) [.val (.agg #[.int .i64 s_0, .int .i64 s_1]), .val (.int .i64 time)] = window_Span_Has s_0 s_1 time := by kernel_rfl
theorem window_Span_Has_calls (s_0 : Int) (s_1 : Int) (time : Int) {w : World} {R : List Value → World → Prop} (h : (window_Span_Has s_0 s_1 time).wp P (fun _ => True) w fun e vs w' => e = 0 ∧ R vs w') :
    Calls P F.window_Span_Has #[.agg #[.int .i64 s_0, .int .i64 s_1], .int .i64 time] w fun e w' => ∃ vs, e = .returned (pack vs) ∧ R vs w' :=
  decomp_sound (isFn_of Go.Proofs.Try.func12 (by kernel_rfl) (by kernel_rfl) (by kernel_rfl)) okFs_ok mix [.val (.agg #[.int .i64 s_0, .int .i64 s_1]), .val (.int .i64 time)] (by rw [window_Span_Has_eq]; exact h)

def window_Tumble (time : Int) (size : Int) : Prog :=
.act (new T.window_Span) sA (u1 fun a0 =>
.bind 1 [.one .bool] (
.call F.window_isTime [.int .i64 time] sB (u1 fun b1 =>
.ite (not b1) (
.done 1 [.bool true]) (
.call F.window_sized [.int .i64 size] sB (u1 fun b2 =>
.done 1 [.bool (not b2)])))) (u1 fun b3 =>
.ite (b3) (
.actU (st T.window_Span a0 (.agg #[.int .i64 0, .int .i64 0])) <|
.read True (ld T.window_Span a0) (sG [.int .i64, .int .i64]) (u2 fun (n4 : Int) (n5 : Int) =>
.done 0 [.agg #[.int .i64 n4, .int .i64 n5], .int .i64 2])) (
.must (size ≠ 0) <|
.lt (.int .i64) (IntKind.wrap .i64 (time - Int.tmod time size)) fun (n6 : Int) =>
.actU (st T.window_Span a0 (.agg #[.int .i64 n6, .int .i64 (IntKind.wrap .i64 (n6 + size))])) <|
.read True (ld T.window_Span a0) (sG [.int .i64, .int .i64]) (u2 fun (n7 : Int) (n8 : Int) =>
.done 0 [.agg #[.int .i64 n7, .int .i64 n8], .int .i64 0]))))
theorem window_Tumble_eq (time : Int) (size : Int) : decomp P 26 ⟨okFs, []⟩ { cnd := [], blk := [], reg := [(1, [(14, .one .bool)])], lps := [] } [.cell 4 32, .tmp 5] (bodyOf Go.Proofs.Try.f13) [.val (.int .i64 time), .val (.int .i64 size)] = window_Tumble time size := by kernel_rfl
theorem window_Tumble_calls (time : Int) (size : Int) {w : World} {R : List Value → World → Prop} (h : (window_Tumble time size).wp P (fun _ => True) w fun e vs w' => e = 0 ∧ R vs w') :
    Calls P F.window_Tumble #[.int .i64 time, .int .i64 size] w fun e w' => ∃ vs, e = .returned (pack vs) ∧ R vs w' :=
  decomp_sound (isFn_of Go.Proofs.Try.func13 (by kernel_rfl) (by kernel_rfl) (by kernel_rfl)) okFs_ok mix [.val (.int .i64 time), .val (.int .i64 size)] (by rw [window_Tumble_eq]; exact h)

def towpathref21_Tumble (t : Int) (size : Int) : Prog :=
.act (new T.towpathref21_Span) sA (u1 fun a0 =>
.call F.towpathref21_time [.int .i64 t] sB (u1 fun b1 =>
.ite (not b1 || decide (size < 1) || decide (size > 1099511627776)) (
.actU (st T.towpathref21_Span a0 (.agg #[.int .i64 0, .int .i64 0])) <|
.read True (ld T.towpathref21_Span a0) (sG [.int .i64, .int .i64]) (u2 fun (n2 : Int) (n3 : Int) =>
.done 0 [.agg #[.int .i64 n2, .int .i64 n3], .int .i64 2])) (
.tick <|
.must (size ≠ 0) <|
.must (size ≠ 0) <|
.actU (st T.towpathref21_Span a0 (.agg #[.int .i64 (IntKind.wrap .i64 (IntKind.wrap .i64 (Int.tdiv t size) * size)), .int .i64 (IntKind.wrap .i64 (IntKind.wrap .i64 (IntKind.wrap .i64 (Int.tdiv t size) * size) + size))])) <|
.untick <|
.read True (ld T.towpathref21_Span a0) (sG [.int .i64, .int .i64]) (u2 fun (n4 : Int) (n5 : Int) =>
.done 0 [.agg #[.int .i64 n4, .int .i64 n5], .int .i64 0]))))
theorem towpathref21_Tumble_eq (t : Int) (size : Int) : decomp P 31 ⟨okFs, []⟩ { cnd := [], blk := [], reg := [], lps := [] } [.cell 4 37, .tmp 5] (bodyOf Go.Proofs.Try.f14) [.val (.int .i64 t), .val (.int .i64 size)] = towpathref21_Tumble t size := by kernel_rfl
theorem towpathref21_Tumble_calls (t : Int) (size : Int) {w : World} {R : List Value → World → Prop} (h : (towpathref21_Tumble t size).wp P (fun _ => True) w fun e vs w' => e = 0 ∧ R vs w') :
    Calls P F.towpathref21_Tumble #[.int .i64 t, .int .i64 size] w fun e w' => ∃ vs, e = .returned (pack vs) ∧ R vs w' :=
  decomp_sound (isFn_of Go.Proofs.Try.func14 (by kernel_rfl) (by kernel_rfl) (by kernel_rfl)) okFs_ok mix [.val (.int .i64 t), .val (.int .i64 size)] (by rw [towpathref21_Tumble_eq]; exact h)

def window_Span_Meets (s_0 : Int) (s_1 : Int) (t_0 : Int) (t_1 : Int) : Prog :=
.act (Instr.box T.window_Span (.agg #[.int .i64 s_0, .int .i64 s_1])) sA (u1 fun a0 =>
.act (Instr.box T.window_Span (.agg #[.int .i64 t_0, .int .i64 t_1])) sA (u1 fun a1 =>
.read True (ld T.int64 (Addr.add a0 0)) (sI .i64) (u1 fun (n2 : Int) =>
.read True (ld T.int64 (Addr.add a1 0)) (sI .i64) (u1 fun (n3 : Int) =>
.read True (ld T.int64 (Addr.add a0 1)) (sI .i64) (u1 fun (n4 : Int) =>
.read True (ld T.int64 (Addr.add a1 1)) (sI .i64) (u1 fun (n5 : Int) =>
.lt (.bool) (decide ((if n3 > n2 then n3 else n2) < if n5 < n4 then n5 else n4)) fun b6 =>
.done 0 [.bool b6]))))))
theorem window_Span_Meets_eq (s_0 : Int) (s_1 : Int) (t_0 : Int) (t_1 : Int) : decomp P 16 ⟨okFs, []⟩ { cnd := [], blk := [], reg := [], lps := [] } [.tmp 4] (bodyOf Go.Proofs.Try.f15) [.val (.agg #[.int .i64 s_0, .int .i64 s_1]), .val (.agg #[.int .i64 t_0, .int .i64 t_1])] = window_Span_Meets s_0 s_1 t_0 t_1 := by kernel_rfl
theorem window_Span_Meets_calls (s_0 : Int) (s_1 : Int) (t_0 : Int) (t_1 : Int) {w : World} {R : List Value → World → Prop} (h : (window_Span_Meets s_0 s_1 t_0 t_1).wp P (fun _ => True) w fun e vs w' => e = 0 ∧ R vs w') :
    Calls P F.window_Span_Meets #[.agg #[.int .i64 s_0, .int .i64 s_1], .agg #[.int .i64 t_0, .int .i64 t_1]] w fun e w' => ∃ vs, e = .returned (pack vs) ∧ R vs w' :=
  decomp_sound (isFn_of Go.Proofs.Try.func15 (by kernel_rfl) (by kernel_rfl) (by kernel_rfl)) okFs_ok mix [.val (.agg #[.int .i64 s_0, .int .i64 s_1]), .val (.agg #[.int .i64 t_0, .int .i64 t_1])] (by rw [window_Span_Meets_eq]; exact h)

def window_Session (gap : Int) (times : Sl) : Prog :=
.call F.window_sized [.int .i64 gap] sB (u1 fun b0 =>
.ite (not b0) (
.done 0 [.slice none 0 0]) (
.bind 1 [.one .slc] (
.loop 2 [.one .slc, .one (.int .i64)] (⟨none, 0, 0⟩, (0, ())) (u2 fun l1 (n2 : Int) =>
.ite (decide (n2 < ((times.len : Nat) : Int))) (
.ex [.adr] (c1 fun a3 => 0 ≤ n2 ∧ n2 < ((times.len : Nat) : Int) ∧ times.a = some a3) (u1 fun a4 =>
.read True (ld T.int64 (Addr.add a4 (Int.toNat n2 * 1))) (sI .i64) (u1 fun (n5 : Int) =>
.lt (.int .i64) (n5) fun (n6 : Int) =>
.call F.window_isTime [.int .i64 n6] sB (u1 fun b7 =>
.bind 3 [.one .slc] (
.ite (b7) (
.act (Instr.buildSlice T.s_int64 1 #[(0, .int .i64 n6)]) sL (u1 fun l8 =>
.act (app T.s_int64 T.s_int64 T.s_int64 l1.v l8.v) sL (u1 fun l9 =>
.done 3 [l9.v]))) (
.done 3 [l1.v])) (u1 fun l10 =>
.done 2 [l10.v, .int .i64 (IntKind.wrap .i64 (n2 + 1))]))))) (
.done 1 [l1.v]))) (u1 fun l11 =>
.call F.slices_Sort_s_int64_int64 [l11.v] (.tup []) (u0 <|
.bind 1 [.one .slc] (
.loop 2 [.one .slc, .one (.int .i64)] (⟨none, 0, 0⟩, (0, ())) (u2 fun l12 (n13 : Int) =>
.ite (decide (n13 < ((l11.len : Nat) : Int))) (
.bind 3 [.one .slc] (
.ex [.adr] (c1 fun a14 => 0 ≤ n13 ∧ n13 < ((l11.len : Nat) : Int) ∧ l11.a = some a14) (u1 fun a15 =>
.read True (ld T.int64 (Addr.add a15 (Int.toNat n13 * 1))) (sI .i64) (u1 fun (n16 : Int) =>
.lt (.int .i64) (n13) fun (n17 : Int) =>
.lt (.int .i64) (n16) fun (n18 : Int) =>
.ex [.adr] (c1 fun a19 => decide (n17 > 0) = true → 0 ≤ IntKind.wrap .i64 (n17 - 1) ∧ IntKind.wrap .i64 (n17 - 1) < ((l11.len : Nat) : Int) ∧ l11.a = some a19) (u1 fun a20 =>
.read (decide (n17 > 0) = true) (ld T.int64 (Addr.add a20 (Int.toNat (IntKind.wrap .i64 (n17 - 1)) * 1))) (sI .i64) (u1 fun (n21 : Int) =>
.ite (decide (n17 > 0) && decide (IntKind.wrap .i64 (n18 - n21) < gap)) (
.ex [.adr] (c1 fun a22 => 0 ≤ IntKind.wrap .i64 (((l12.len : Nat) : Int) - 1) ∧ IntKind.wrap .i64 (((l12.len : Nat) : Int) - 1) < ((l12.len : Nat) : Int) ∧ l12.a = some a22) (u1 fun a23 =>
.actU (st T.int64 (Addr.add (Addr.add a23 (Int.toNat (IntKind.wrap .i64 (((l12.len : Nat) : Int) - 1)) * 2)) 1) (.int .i64 (IntKind.wrap .i64 (n18 + gap)))) <|
.done 3 [l12.v])) (
.act (Instr.buildSlice T.s_window_Span 1 #[(0, .agg #[.int .i64 n18, .int .i64 (IntKind.wrap .i64 (n18 + gap))])]) sL (u1 fun l24 =>
.act (app T.s_window_Span T.s_window_Span T.s_window_Span l12.v l24.v) sL (u1 fun l25 =>
.done 3 [l25.v])))))))) (u1 fun l26 =>
.done 2 [l26.v, .int .i64 (IntKind.wrap .i64 (n13 + 1))])) (
.done 1 [l12.v]))) (u1 fun l27 =>
.done 0 [l27.v])))))
theorem window_Session_eq (gap : Int) (times : Sl) : decomp P 68 ⟨okFs, []⟩ { cnd := [(257698168853, [(5, .one .slc)])], blk := [(0, [(5, .one .slc)]), (2, [(8, .one .slc)]), (3, [(8, .one .slc)])], reg := [], lps := [(0, [(5, .one .slc), (16, .one (.int .i64))]), (2, [(8, .one .slc), (31, .one (.int .i64))])] } [.tmp 4] (bodyOf Go.Proofs.Try.f16) [.val (.int .i64 gap), .val (.slice times.a times.len times.cap)] = window_Session gap times := by kernel_rfl
theorem window_Session_calls (gap : Int) (times : Sl) {w : World} {R : List Value → World → Prop} (h : (window_Session gap times).wp P (fun _ => True) w fun e vs w' => e = 0 ∧ R vs w') :
    Calls P F.window_Session #[.int .i64 gap, .slice times.a times.len times.cap] w fun e w' => ∃ vs, e = .returned (pack vs) ∧ R vs w' :=
  decomp_sound (isFn_of Go.Proofs.Try.func16 (by kernel_rfl) (by kernel_rfl) (by kernel_rfl)) okFs_ok mix [.val (.int .i64 gap), .val (.slice times.a times.len times.cap)] (by rw [window_Session_eq]; exact h)

def towpathref21_Session (gap : Int) (times : Sl) : Prog :=
.ite (decide (gap < 1) || decide (gap > 1099511627776)) (
.done 0 [.slice none 0 0]) (
.loop 1 [.one .slc, .one (.int .i64)] (⟨none, 0, 0⟩, (-1, ())) (u2 fun l0 (n1 : Int) =>
.bind 2 [.one .slc, .one (.int .i64)] (
.bind 3 [.one (.int .i64)] (
.loop 4 [.one (.int .i64), .one (.int .i64)] (-1, (0, ())) (u2 fun (n2 : Int) (n3 : Int) =>
.ite (decide (n3 < ((times.len : Nat) : Int))) (
.ex [.adr] (c1 fun a4 => 0 ≤ n3 ∧ n3 < ((times.len : Nat) : Int) ∧ times.a = some a4) (u1 fun a5 =>
.read True (ld T.int64 (Addr.add a5 (Int.toNat n3 * 1))) (sI .i64) (u1 fun (n6 : Int) =>
.lt (.int .i64) (n6) fun (n7 : Int) =>
.call F.towpathref21_time [.int .i64 n7] sB (u1 fun b8 =>
.bind 5 [.one (.int .i64)] (
.ite (b8 && decide (n7 > n1) && (decide (n2 < 0) || decide (n7 < n2))) (
.lt (.int .i64) (n7) fun (n9 : Int) =>
.done 5 [.int .i64 n9]) (
.done 5 [.int .i64 n2])) (u1 fun (n10 : Int) =>
.done 4 [.int .i64 n10, .int .i64 (IntKind.wrap .i64 (n3 + 1))]))))) (
.done 3 [.int .i64 n2]))) (u1 fun (n11 : Int) =>
.ite (decide (n11 < 0)) (
.done 0 [l0.v]) (
.ex [.adr] (c1 fun a12 => decide (((l0.len : Nat) : Int) > 0) = true → 0 ≤ IntKind.wrap .i64 (((l0.len : Nat) : Int) - 1) ∧ IntKind.wrap .i64 (((l0.len : Nat) : Int) - 1) < ((l0.len : Nat) : Int) ∧ l0.a = some a12) (u1 fun a13 =>
.read (decide (((l0.len : Nat) : Int) > 0) = true) (ld T.int64 (Addr.add (Addr.add a13 (Int.toNat (IntKind.wrap .i64 (((l0.len : Nat) : Int) - 1)) * 2)) 1)) (sI .i64) (u1 fun (n14 : Int) =>
.bind 3 [.one .slc] (
.ite (decide (((l0.len : Nat) : Int) > 0) && decide (n11 < n14)) (
.ex [.adr] (c1 fun a15 => 0 ≤ IntKind.wrap .i64 (((l0.len : Nat) : Int) - 1) ∧ IntKind.wrap .i64 (((l0.len : Nat) : Int) - 1) < ((l0.len : Nat) : Int) ∧ l0.a = some a15) (u1 fun a16 =>
.actU (st T.int64 (Addr.add (Addr.add a16 (Int.toNat (IntKind.wrap .i64 (((l0.len : Nat) : Int) - 1)) * 2)) 1) (.int .i64 (IntKind.wrap .i64 (n11 + gap)))) <|
.done 3 [l0.v])) (
.act (Instr.buildSlice T.s_towpathref21_Span 1 #[(0, .agg #[.int .i64 n11, .int .i64 (IntKind.wrap .i64 (n11 + gap))])]) sL (u1 fun l17 =>
.act (app T.s_towpathref21_Span T.s_towpathref21_Span T.s_towpathref21_Span l0.v l17.v) sL (u1 fun l18 =>
.done 3 [l18.v])))) (u1 fun l19 =>
.lt (.int .i64) (n11) fun (n20 : Int) =>
.done 2 [l19.v, .int .i64 n20])))))) (u2 fun l21 (n22 : Int) =>
.done 1 [l21.v, .int .i64 n22])))
theorem towpathref21_Session_eq (gap : Int) (times : Sl) : decomp P 75 ⟨okFs, []⟩ { cnd := [(1125899907366949, [(7, .one (.int .i64))]), (77370662159525908475674680, [(5, .one .slc)])], blk := [(1, [(5, .one .slc), (6, .one (.int .i64))]), (2, [(7, .one (.int .i64))])], reg := [], lps := [(0, [(5, .one .slc), (6, .one (.int .i64))]), (2, [(7, .one (.int .i64)), (18, .one (.int .i64))])] } [.tmp 4] (bodyOf Go.Proofs.Try.f17) [.val (.int .i64 gap), .val (.slice times.a times.len times.cap)] = towpathref21_Session gap times := by kernel_rfl
theorem towpathref21_Session_calls (gap : Int) (times : Sl) {w : World} {R : List Value → World → Prop} (h : (towpathref21_Session gap times).wp P (fun _ => True) w fun e vs w' => e = 0 ∧ R vs w') :
    Calls P F.towpathref21_Session #[.int .i64 gap, .slice times.a times.len times.cap] w fun e w' => ∃ vs, e = .returned (pack vs) ∧ R vs w' :=
  decomp_sound (isFn_of Go.Proofs.Try.func17 (by kernel_rfl) (by kernel_rfl) (by kernel_rfl)) okFs_ok mix [.val (.int .i64 gap), .val (.slice times.a times.len times.cap)] (by rw [towpathref21_Session_eq]; exact h)

def window_Span_Closed (s_0 : Int) (s_1 : Int) (grace : Int) (now : Int) : Prog :=
.act (Instr.box T.window_Span (.agg #[.int .i64 s_0, .int .i64 s_1])) sA (u1 fun a0 =>
.lt (.int .i64) (if 0 > grace then 0 else grace) fun (n1 : Int) =>
.ite (decide (now < 0)) (
.read True (ld T.int64 (Addr.add a0 1)) (sI .i64) (u1 fun (n2 : Int) =>
.read (decide (n2 ≤ now) = true) (ld T.int64 (Addr.add a0 1)) (sI .i64) (u1 fun (n3 : Int) =>
.lt (.bool) (decide (n2 ≤ now) && decide (n1 ≤ IntKind.wrap .i64 (now - n3))) fun b4 =>
.done 0 [.bool b4]))) (
.read True (ld T.int64 (Addr.add a0 1)) (sI .i64) (u1 fun (n5 : Int) =>
.lt (.bool) (decide (n5 ≤ IntKind.wrap .i64 (now - n1))) fun b6 =>
.done 0 [.bool b6])))
theorem window_Span_Closed_eq (s_0 : Int) (s_1 : Int) (grace : Int) (now : Int) : decomp P 29 ⟨okFs, []⟩ { cnd := [], blk := [], reg := [], lps := [] } [.tmp 6] (bodyOf Go.Proofs.Try.f18) [.val (.agg #[.int .i64 s_0, .int .i64 s_1]), .val (.int .i64 grace), .val (.int .i64 now)] = window_Span_Closed s_0 s_1 grace now := by kernel_rfl
theorem window_Span_Closed_calls (s_0 : Int) (s_1 : Int) (grace : Int) (now : Int) {w : World} {R : List Value → World → Prop} (h : (window_Span_Closed s_0 s_1 grace now).wp P (fun _ => True) w fun e vs w' => e = 0 ∧ R vs w') :
    Calls P F.window_Span_Closed #[.agg #[.int .i64 s_0, .int .i64 s_1], .int .i64 grace, .int .i64 now] w fun e w' => ∃ vs, e = .returned (pack vs) ∧ R vs w' :=
  decomp_sound (isFn_of Go.Proofs.Try.func18 (by kernel_rfl) (by kernel_rfl) (by kernel_rfl)) okFs_ok mix [.val (.agg #[.int .i64 s_0, .int .i64 s_1]), .val (.int .i64 grace), .val (.int .i64 now)] (by rw [window_Span_Closed_eq]; exact h)

def towpathlaw21_short (s : ByteArray) : Prog :=
.ite (decide (((ByteArray.size s : Nat) : Int) > 1030)) (
.must ((0 : Int) ≤ 1030 ∧ 1030 ≤ ((ByteArray.size s : Nat) : Int)) <|
.lt (.str) (ByteArray.extract s 0 1030) fun s0 =>
.done 0 [.string s0]) (
.lt (.str) (s) fun s1 =>
.done 0 [.string s1])
theorem towpathlaw21_short_eq (s : ByteArray) : decomp P 9 ⟨okFs, []⟩ { cnd := [], blk := [], reg := [], lps := [] } [.tmp 2] (bodyOf Go.Proofs.Try.f19) [.val (.string s)] = towpathlaw21_short s := by kernel_rfl
theorem towpathlaw21_short_calls (s : ByteArray) {w : World} {R : List Value → World → Prop} (h : (towpathlaw21_short s).wp P (fun _ => True) w fun e vs w' => e = 0 ∧ R vs w') :
    Calls P F.towpathlaw21_short #[.string s] w fun e w' => ∃ vs, e = .returned (pack vs) ∧ R vs w' :=
  decomp_sound (isFn_of Go.Proofs.Try.func19 (by kernel_rfl) (by kernel_rfl) (by kernel_rfl)) okFs_ok mix [.val (.string s)] (by rw [towpathlaw21_short_eq]; exact h)

def window_Key (start : Int) (key : ByteArray) : Prog :=
.call F.window_isTime [.int .i64 start] sB (u1 fun b0 =>
.lt (.bool) (not b0) fun b1 =>
.ite (b1) (
.done 0 [.string (ByteArray.mk #[]), .int .i64 2]) (
.lt (.bool) (decide (((ByteArray.size key : Nat) : Int) > 1011)) fun b2 =>
.ite (b2) (
.done 0 [.string (ByteArray.mk #[]), .int .i64 7]) (
.call F.window_hex [.int .i64 start] sS (u1 fun s3 =>
.must (((1 + ByteArray.size s3 : Nat) : Int) ≤ 9223372036854775807) <|
.must (((ByteArray.size ((ByteArray.mk #[119]) ++ s3) + 1 : Nat) : Int) ≤ 9223372036854775807) <|
.must (((ByteArray.size ((ByteArray.mk #[119]) ++ s3 ++ (ByteArray.mk #[58])) + ByteArray.size key : Nat) : Int) ≤ 9223372036854775807) <|
.lt (.str) ((ByteArray.mk #[119]) ++ s3 ++ (ByteArray.mk #[58]) ++ key) fun s4 =>
.done 0 [.string s4, .int .i64 0]))))
theorem window_Key_eq (start : Int) (key : ByteArray) : decomp P 20 ⟨okFs, []⟩ { cnd := [], blk := [], reg := [], lps := [] } [.tmp 4, .tmp 5] (bodyOf Go.Proofs.Try.f20) [.val (.int .i64 start), .val (.string key)] = window_Key start key := by kernel_rfl
theorem window_Key_calls (start : Int) (key : ByteArray) {w : World} {R : List Value → World → Prop} (h : (window_Key start key).wp P (fun _ => True) w fun e vs w' => e = 0 ∧ R vs w') :
    Calls P F.window_Key #[.int .i64 start, .string key] w fun e w' => ∃ vs, e = .returned (pack vs) ∧ R vs w' :=
  decomp_sound (isFn_of Go.Proofs.Try.func20 (by kernel_rfl) (by kernel_rfl) (by kernel_rfl)) okFs_ok mix [.val (.int .i64 start), .val (.string key)] (by rw [window_Key_eq]; exact h)

def towpathref21_Key (start : Int) (key : ByteArray) : Prog :=
.call F.towpathref21_time [.int .i64 start] sB (u1 fun b0 =>
.ite (not b0) (
.done 0 [.string (ByteArray.mk #[]), .int .i64 2]) (
.ite (decide (((ByteArray.size key : Nat) : Int) > 1011)) (
.done 0 [.string (ByteArray.mk #[]), .int .i64 7]) (
.call F.towpathref21_Hex [.int .i64 start] sS (u1 fun s1 =>
.must (((1 + ByteArray.size s1 : Nat) : Int) ≤ 9223372036854775807) <|
.must (((ByteArray.size ((ByteArray.mk #[119]) ++ s1) + 1 : Nat) : Int) ≤ 9223372036854775807) <|
.must (((ByteArray.size ((ByteArray.mk #[119]) ++ s1 ++ (ByteArray.mk #[58])) + ByteArray.size key : Nat) : Int) ≤ 9223372036854775807) <|
.lt (.str) ((ByteArray.mk #[119]) ++ s1 ++ (ByteArray.mk #[58]) ++ key) fun s2 =>
.done 0 [.string s2, .int .i64 0]))))
theorem towpathref21_Key_eq (start : Int) (key : ByteArray) : decomp P 18 ⟨okFs, []⟩ { cnd := [], blk := [], reg := [], lps := [] } [.tmp 4, .tmp 5] (bodyOf Go.Proofs.Try.f21) [.val (.int .i64 start), .val (.string key)] = towpathref21_Key start key := by kernel_rfl
theorem towpathref21_Key_calls (start : Int) (key : ByteArray) {w : World} {R : List Value → World → Prop} (h : (towpathref21_Key start key).wp P (fun _ => True) w fun e vs w' => e = 0 ∧ R vs w') :
    Calls P F.towpathref21_Key #[.int .i64 start, .string key] w fun e w' => ∃ vs, e = .returned (pack vs) ∧ R vs w' :=
  decomp_sound (isFn_of Go.Proofs.Try.func21 (by kernel_rfl) (by kernel_rfl) (by kernel_rfl)) okFs_ok mix [.val (.int .i64 start), .val (.string key)] (by rw [towpathref21_Key_eq]; exact h)

def window_Parse (key : ByteArray) : Prog :=
.must ((decide (((ByteArray.size key : Nat) : Int) < 13) || decide (((ByteArray.size key : Nat) : Int) > 1024)) = false → (0 : Int) ≤ 0 ∧ 0 < ((ByteArray.size key : Nat) : Int)) <|
.must ((decide (((ByteArray.size key : Nat) : Int) < 13) || decide (((ByteArray.size key : Nat) : Int) > 1024) || bt key (0 : Int) != 119) = false → (0 : Int) ≤ 12 ∧ 12 < ((ByteArray.size key : Nat) : Int)) <|
.ite (decide (((ByteArray.size key : Nat) : Int) < 13) || decide (((ByteArray.size key : Nat) : Int) > 1024) || bt key (0 : Int) != 119 || bt key (12 : Int) != 58) (
.done 0 [.int .i64 0, .string (ByteArray.mk #[]), .int .i64 6]) (
.must ((0 : Int) ≤ 1 ∧ (1 : Int) ≤ 12 ∧ 12 ≤ ((ByteArray.size key : Nat) : Int)) <|
.act (Instr.range T.string (.string (ByteArray.extract key 1 12))) sA (u1 fun a0 =>
.bind 1 [.one (.int .i64)] (
.loop 2 [.one (.int .i64)] (0, ()) (u1 fun (n1 : Int) =>
.next (Instr.next (.pointer (some a0)) true T.unit) ([.one (.int .i64), .one (.int .i32)]) (u2 fun (n2 : Int) (n3 : Int) =>
.lt (.int .i32) (n3) fun (n4 : Int) =>
.lt (.bool) (decide (n4 ≥ 48) && decide (n4 ≤ 57)) fun b5 =>
.bind 3 [.one (.int .i64)] (
.ite (b5) (
.lt (.int .i64) (IntKind.wrap .i64 (((BitVec.toNat (BitVec.ofInt 64 (IntKind.wrap .i64 (n1 * 16)) ||| BitVec.ofInt 64 (IntKind.wrap .i64 (IntKind.wrap .i32 (n4 - 48)))) : Nat) : Int))) fun (n6 : Int) =>
.done 3 [.int .i64 n6]) (
.lt (.bool) (decide (n4 ≥ 97) && decide (n4 ≤ 102)) fun b7 =>
.ite (b7) (
.lt (.int .i64) (IntKind.wrap .i64 (((BitVec.toNat (BitVec.ofInt 64 (IntKind.wrap .i64 (n1 * 16)) ||| BitVec.ofInt 64 (IntKind.wrap .i64 (IntKind.wrap .i32 (IntKind.wrap .i32 (n4 - 97) + 10)))) : Nat) : Int))) fun (n8 : Int) =>
.done 3 [.int .i64 n8]) (
.done 0 [.int .i64 0, .string (ByteArray.mk #[]), .int .i64 6]))) (u1 fun (n9 : Int) =>
.done 2 [.int .i64 n9])) (
.done 1 [.int .i64 n1]))) (u1 fun (n10 : Int) =>
.call F.window_isTime [.int .i64 n10] sB (u1 fun b11 =>
.ite (not b11) (
.done 0 [.int .i64 0, .string (ByteArray.mk #[]), .int .i64 6]) (
.tick <|
.must ((0 : Int) ≤ 13 ∧ 13 ≤ ((ByteArray.size key : Nat) : Int)) <|
.lt (.int .i64) (n10) fun (n12 : Int) =>
.lt (.str) (ByteArray.extract key 13 (ByteArray.size key)) fun s13 =>
.untick <|
.done 0 [.int .i64 n12, .string s13, .int .i64 0])))))
theorem window_Parse_eq (key : ByteArray) : decomp P 65 ⟨okFs, [(29, [.one (.int .i64), .one (.int .i32)])]⟩ { cnd := [(2361180989635009167392, [(5, .one (.int .i64))])], blk := [(0, [(5, .one (.int .i64))])], reg := [], lps := [(0, [(5, .one (.int .i64))])] } [.tmp 2, .tmp 3, .tmp 4] (bodyOf Go.Proofs.Try.f22) [.val (.string key)] = window_Parse key := by kernel_rfl
theorem window_Parse_calls (key : ByteArray) {w : World} {R : List Value → World → Prop} (h : (window_Parse key).wp P (fun _ => True) w fun e vs w' => e = 0 ∧ R vs w') :
    Calls P F.window_Parse #[.string key] w fun e w' => ∃ vs, e = .returned (pack vs) ∧ R vs w' :=
  decomp_sound (isFn_of Go.Proofs.Try.func22 (by kernel_rfl) (by kernel_rfl) (by kernel_rfl)) okFs_ok mix [.val (.string key)] (by rw [window_Parse_eq]; exact h)

def towpathref21_Parse (s : ByteArray) : Prog :=
.ite (decide (((ByteArray.size s : Nat) : Int) < 13)) (
.done 0 [.int .i64 0, .string (ByteArray.mk #[]), .int .i64 6]) (
.bind 1 [.one (.int .i64)] (
.loop 2 [.one (.int .i64), .one (.int .i64)] (0, (1, ())) (u2 fun (n0 : Int) (n1 : Int) =>
.ite (decide (n1 < 12)) (
.bind 3 [.one (.int .i64)] (
.lt (.int .i64) (IntKind.wrap .i64 (n0 * 16)) fun (n2 : Int) =>
.bind 4 [.one (.int .i64)] (
.loop 5 [.one (.int .i64), .one (.int .i64)] (n2, (0, ())) (u2 fun (n3 : Int) (n4 : Int) =>
.ite (decide (n4 < 16)) (
.tick <|
.must (0 ≤ n4 ∧ n4 < 16) <|
.must (0 ≤ n1 ∧ n1 < ((ByteArray.size s : Nat) : Int)) <|
.untick <|
.bind 6 [.one (.int .i64)] (
.ite (bt (ByteArray.mk #[48, 49, 50, 51, 52, 53, 54, 55, 56, 57, 97, 98, 99, 100, 101, 102]) n4 == bt s n1) (
.lt (.int .i64) (IntKind.wrap .i64 (n3 + n4)) fun (n5 : Int) =>
.done 6 [.int .i64 n5]) (
.done 6 [.int .i64 n3])) (u1 fun (n6 : Int) =>
.lt (.int .i64) (IntKind.wrap .i64 (n4 + 1)) fun (n7 : Int) =>
.done 5 [.int .i64 n6, .int .i64 n7])) (
.done 4 [.int .i64 n3]))) (u1 fun (n8 : Int) =>
.done 3 [.int .i64 n8])) (u1 fun (n9 : Int) =>
.lt (.int .i64) (IntKind.wrap .i64 (n1 + 1)) fun (n10 : Int) =>
.done 2 [.int .i64 n9, .int .i64 n10])) (
.done 1 [.int .i64 n0]))) (u1 fun (n11 : Int) =>
.must ((0 : Int) ≤ 13 ∧ 13 ≤ ((ByteArray.size s : Nat) : Int)) <|
.call F.towpathref21_Key [.int .i64 n11, .string (ByteArray.extract s 13 (ByteArray.size s))] (.tup [.one .str, .one (.int .i64)]) (u2 fun s12 (n13 : Int) =>
.lt (.str) (s12) fun s14 =>
.lt (.int .i64) (n13) fun (n15 : Int) =>
.ite (n15 != 0 || not (ByteArray.toList s14 == ByteArray.toList s)) (
.done 0 [.int .i64 0, .string (ByteArray.mk #[]), .int .i64 6]) (
.tick <|
.must ((0 : Int) ≤ 13 ∧ 13 ≤ ((ByteArray.size s : Nat) : Int)) <|
.lt (.int .i64) (n11) fun (n16 : Int) =>
.lt (.str) (ByteArray.extract s 13 (ByteArray.size s)) fun s17 =>
.untick <|
.done 0 [.int .i64 n16, .string s17, .int .i64 0]))))
theorem towpathref21_Parse_eq (s : ByteArray) : decomp P 49 ⟨okFs, []⟩ { cnd := [(15393162919964, [(5, .one (.int .i64))])], blk := [(0, [(5, .one (.int .i64))]), (1, [(5, .one (.int .i64))]), (2, [(5, .one (.int .i64))])], reg := [], lps := [(0, [(5, .one (.int .i64)), (6, .one (.int .i64))]), (2, [(5, .one (.int .i64)), (7, .one (.int .i64))])] } [.tmp 2, .tmp 3, .tmp 4] (bodyOf Go.Proofs.Try.f23) [.val (.string s)] = towpathref21_Parse s := by kernel_rfl
theorem towpathref21_Parse_calls (s : ByteArray) {w : World} {R : List Value → World → Prop} (h : (towpathref21_Parse s).wp P (fun _ => True) w fun e vs w' => e = 0 ∧ R vs w') :
    Calls P F.towpathref21_Parse #[.string s] w fun e w' => ∃ vs, e = .returned (pack vs) ∧ R vs w' :=
  decomp_sound (isFn_of Go.Proofs.Try.func23 (by kernel_rfl) (by kernel_rfl) (by kernel_rfl)) okFs_ok mix [.val (.string s)] (by rw [towpathref21_Parse_eq]; exact h)

def window_Bound (start : Int) : Prog :=
.call F.window_hex [.int .i64 (if 17592186044415 < if 0 > start then 0 else start then 17592186044415 else if 0 > start then 0 else start)] sS (u1 fun s0 =>
.must (((1 + ByteArray.size s0 : Nat) : Int) ≤ 9223372036854775807) <|
.lt (.str) ((ByteArray.mk #[119]) ++ s0) fun s1 =>
.done 0 [.string s1])
theorem window_Bound_eq (start : Int) : decomp P 8 ⟨okFs, []⟩ { cnd := [], blk := [], reg := [], lps := [] } [.tmp 2] (bodyOf Go.Proofs.Try.f24) [.val (.int .i64 start)] = window_Bound start := by kernel_rfl
theorem window_Bound_calls (start : Int) {w : World} {R : List Value → World → Prop} (h : (window_Bound start).wp P (fun _ => True) w fun e vs w' => e = 0 ∧ R vs w') :
    Calls P F.window_Bound #[.int .i64 start] w fun e w' => ∃ vs, e = .returned (pack vs) ∧ R vs w' :=
  decomp_sound (isFn_of Go.Proofs.Try.func24 (by kernel_rfl) (by kernel_rfl) (by kernel_rfl)) okFs_ok mix [.val (.int .i64 start)] (by rw [window_Bound_eq]; exact h)

def towpathref21_Hex (n : Int) : Prog :=
.bind 1 [.one .str] (
.loop 2 [.one (.int .i64), .one .str, .one (.int .i64)] (n, ((ByteArray.mk #[]), (0, ()))) (u3 fun (n0 : Int) s1 (n2 : Int) =>
.ite (decide (n2 < 11)) (
.must (0 ≤ Int.tmod n0 16 ∧ Int.tmod n0 16 ≤ IntKind.wrap .i64 (Int.tmod n0 16 + 1) ∧ IntKind.wrap .i64 (Int.tmod n0 16 + 1) ≤ 16) <|
.must (((ByteArray.size (ByteArray.extract (ByteArray.mk #[48, 49, 50, 51, 52, 53, 54, 55, 56, 57, 97, 98, 99, 100, 101, 102]) (Int.toNat (Int.tmod n0 16)) (Int.toNat (IntKind.wrap .i64 (Int.tmod n0 16 + 1)))) + ByteArray.size s1 : Nat) : Int) ≤ 9223372036854775807) <|
.lt (.str) (ByteArray.extract (ByteArray.mk #[48, 49, 50, 51, 52, 53, 54, 55, 56, 57, 97, 98, 99, 100, 101, 102]) (Int.toNat (Int.tmod n0 16)) (Int.toNat (IntKind.wrap .i64 (Int.tmod n0 16 + 1))) ++ s1) fun s3 =>
.lt (.int .i64) (IntKind.wrap .i64 (Int.tdiv n0 16)) fun (n4 : Int) =>
.lt (.int .i64) (IntKind.wrap .i64 (n2 + 1)) fun (n5 : Int) =>
.done 2 [.int .i64 n4, .string s3, .int .i64 n5]) (
.done 1 [.string s1]))) (u1 fun s6 =>
.lt (.str) (s6) fun s7 =>
.done 0 [.string s7])
theorem towpathref21_Hex_eq (n : Int) : decomp P 20 ⟨okFs, []⟩ { cnd := [], blk := [(0, [(3, .one .str)])], reg := [], lps := [(0, [(0, .one (.int .i64)), (3, .one .str), (4, .one (.int .i64))])] } [.tmp 2] (bodyOf Go.Proofs.Try.f25) [.val (.int .i64 n)] = towpathref21_Hex n := by kernel_rfl
theorem towpathref21_Hex_calls (n : Int) {w : World} {R : List Value → World → Prop} (h : (towpathref21_Hex n).wp P (fun _ => True) w fun e vs w' => e = 0 ∧ R vs w') :
    Calls P F.towpathref21_Hex #[.int .i64 n] w fun e w' => ∃ vs, e = .returned (pack vs) ∧ R vs w' :=
  decomp_sound (isFn_of Go.Proofs.Try.func25 (by kernel_rfl) (by kernel_rfl) (by kernel_rfl)) okFs_ok mix [.val (.int .i64 n)] (by rw [towpathref21_Hex_eq]; exact h)

def window_isTime (t : Int) : Prog :=
.lt (.bool) (decide (t ≥ 0) && decide (t ≤ 1099511627776)) fun b0 =>
.done 0 [.bool b0]
theorem window_isTime_eq (t : Int) : decomp P 9 ⟨okFs, []⟩ { cnd := [], blk := [], reg := [], lps := [] } [.tmp 2] (bodyOf Go.Proofs.Try.f26) [.val (.int .i64 t)] = window_isTime t := by kernel_rfl
theorem window_isTime_calls (t : Int) {w : World} {R : List Value → World → Prop} (h : (window_isTime t).wp P (fun _ => True) w fun e vs w' => e = 0 ∧ R vs w') :
    Calls P F.window_isTime #[.int .i64 t] w fun e w' => ∃ vs, e = .returned (pack vs) ∧ R vs w' :=
  decomp_sound (isFn_of Go.Proofs.Try.func26 (by kernel_rfl) (by kernel_rfl) (by kernel_rfl)) okFs_ok mix [.val (.int .i64 t)] (by rw [window_isTime_eq]; exact h)

def window_sized (size : Int) : Prog :=
.lt (.bool) (decide (size ≥ 1) && decide (size ≤ 1099511627776)) fun b0 =>
.done 0 [.bool b0]
theorem window_sized_eq (size : Int) : decomp P 9 ⟨okFs, []⟩ { cnd := [], blk := [], reg := [], lps := [] } [.tmp 2] (bodyOf Go.Proofs.Try.f27) [.val (.int .i64 size)] = window_sized size := by kernel_rfl
theorem window_sized_calls (size : Int) {w : World} {R : List Value → World → Prop} (h : (window_sized size).wp P (fun _ => True) w fun e vs w' => e = 0 ∧ R vs w') :
    Calls P F.window_sized #[.int .i64 size] w fun e w' => ∃ vs, e = .returned (pack vs) ∧ R vs w' :=
  decomp_sound (isFn_of Go.Proofs.Try.func27 (by kernel_rfl) (by kernel_rfl) (by kernel_rfl)) okFs_ok mix [.val (.int .i64 size)] (by rw [window_sized_eq]; exact h)

def slices_Reverse_s_window_Span_window_Span (s : Sl) : Prog :=
.lt (.int .i64) (IntKind.wrap .i64 (((s.len : Nat) : Int) - 1)) fun (n0 : Int) =>
.bind 1 [] (
.loop 2 [.one (.int .i64), .one (.int .i64)] (0, (n0, ())) (u2 fun (n1 : Int) (n2 : Int) =>
.ite (decide (n1 < n2)) (
.bind 3 [] (
.tick <|
.ex [.adr] (c1 fun a3 => 0 ≤ n2 ∧ n2 < ((s.len : Nat) : Int) ∧ s.a = some a3) (u1 fun a4 =>
.read True (ld T.window_Span (Addr.add a4 (Int.toNat n2 * 2))) (sG [.int .i64, .int .i64]) (u2 fun (n5 : Int) (n6 : Int) =>
.ex [.adr] (c1 fun a7 => 0 ≤ n1 ∧ n1 < ((s.len : Nat) : Int) ∧ s.a = some a7) (u1 fun a8 =>
.read True (ld T.window_Span (Addr.add a8 (Int.toNat n1 * 2))) (sG [.int .i64, .int .i64]) (u2 fun (n9 : Int) (n10 : Int) =>
.ex [.adr] (c1 fun a11 => 0 ≤ n1 ∧ n1 < ((s.len : Nat) : Int) ∧ s.a = some a11) (u1 fun a12 =>
.actU (st T.window_Span (Addr.add a12 (Int.toNat n1 * 2)) (.agg #[.int .i64 n5, .int .i64 n6])) <|
.ex [.adr] (c1 fun a13 => 0 ≤ n2 ∧ n2 < ((s.len : Nat) : Int) ∧ s.a = some a13) (u1 fun a14 =>
.actU (st T.window_Span (Addr.add a14 (Int.toNat n2 * 2)) (.agg #[.int .i64 n9, .int .i64 n10])) <|
.untick <|
.done 3 []))))))) (u0 <|
.lt (.int .i64) (IntKind.wrap .i64 (n1 + 1)) fun (n15 : Int) =>
.lt (.int .i64) (IntKind.wrap .i64 (n2 - 1)) fun (n16 : Int) =>
.done 2 [.int .i64 n15, .int .i64 n16])) (
.done 1 []))) (u0 <|
.done 0 [])
theorem slices_Reverse_s_window_Span_window_Span_eq (s : Sl) : decomp P 28 ⟨okFs, []⟩ { cnd := [], blk := [(0, [])], reg := [(3, [])], lps := [(0, [(2, .one (.int .i64)), (3, .one (.int .i64))])] } [] (bodyOf Go.Proofs.Try.f28) [.val (.slice s.a s.len s.cap)] = slices_Reverse_s_window_Span_window_Span s := by kernel_rfl
theorem slices_Reverse_s_window_Span_window_Span_calls (s : Sl) {w : World} {R : List Value → World → Prop} (h : (slices_Reverse_s_window_Span_window_Span s).wp P (fun _ => True) w fun e vs w' => e = 0 ∧ R vs w') :
    Calls P F.slices_Reverse_s_window_Span_window_Span #[.slice s.a s.len s.cap] w fun e w' => ∃ vs, e = .returned (pack vs) ∧ R vs w' :=
  decomp_sound (isFn_of Go.Proofs.Try.func28 (by kernel_rfl) (by kernel_rfl) (by kernel_rfl)) okFs_ok mix [.val (.slice s.a s.len s.cap)] (by rw [slices_Reverse_s_window_Span_window_Span_eq]; exact h)

def window_Due (every : Int) (from_ : Int) (to_ : Int) (most : Int) : Prog :=
.ite (decide (every < 1)) (
.done 0 [.slice none 0 0, .bool false]) (
.lt (.int .i64) (if -1 > from_ then -1 else from_) fun (n0 : Int) =>
.lt (.int .i64) (if 1099511627776 < to_ then 1099511627776 else to_) fun (n1 : Int) =>
.lt (.int .i64) (if 0 > most then 0 else most) fun (n2 : Int) =>
.ite (decide (n0 ≥ n1)) (
.done 0 [.slice none 0 0, .bool false]) (
.bind 1 [.one (.int .i64)] (
.ite (decide (n0 ≥ 0)) (
.tick <|
.must (every ≠ 0) <|
.must (every ≠ 0) <|
.untick <|
.ite (decide (IntKind.wrap .i64 (Int.tdiv n0 every) ≥ IntKind.wrap .i64 (Int.tdiv n1 every))) (
.done 0 [.slice none 0 0, .bool false]) (
.must (every ≠ 0) <|
.lt (.int .i64) (IntKind.wrap .i64 (IntKind.wrap .i64 (IntKind.wrap .i64 (Int.tdiv n0 every) + 1) * every)) fun (n3 : Int) =>
.done 1 [.int .i64 n3])) (
.done 1 [.int .i64 0])) (u1 fun (n4 : Int) =>
.loop 1 [.one (.int .i64), .one .slc] (n4, (⟨none, 0, 0⟩, ())) (u2 fun (n5 : Int) l6 =>
.ite (decide (((l6.len : Nat) : Int) ≥ n2)) (
.done 0 [l6.v, .bool true]) (
.act (Instr.buildSlice T.s_int64 1 #[(0, .int .i64 n5)]) sL (u1 fun l7 =>
.act (app T.s_int64 T.s_int64 T.s_int64 l6.v l7.v) sL (u1 fun l8 =>
.ite (decide (every > IntKind.wrap .i64 (n1 - n5))) (
.done 0 [l8.v, .bool false]) (
.lt (.int .i64) (IntKind.wrap .i64 (n5 + every)) fun (n9 : Int) =>
.done 1 [.int .i64 n9, l8.v]))))))))
theorem window_Due_eq (every : Int) (from_ : Int) (to_ : Int) (most : Int) : decomp P 56 ⟨okFs, []⟩ { cnd := [(1125762475229208, [(10, .one (.int .i64))])], blk := [], reg := [], lps := [(0, [(10, .one (.int .i64)), (11, .one .slc)])] } [.tmp 8, .tmp 9] (bodyOf Go.Proofs.Try.f29) [.val (.int .i64 every), .val (.int .i64 from_), .val (.int .i64 to_), .val (.int .i64 most)] = window_Due every from_ to_ most := by kernel_rfl
theorem window_Due_calls (every : Int) (from_ : Int) (to_ : Int) (most : Int) {w : World} {R : List Value → World → Prop} (h : (window_Due every from_ to_ most).wp P (fun _ => True) w fun e vs w' => e = 0 ∧ R vs w') :
    Calls P F.window_Due #[.int .i64 every, .int .i64 from_, .int .i64 to_, .int .i64 most] w fun e w' => ∃ vs, e = .returned (pack vs) ∧ R vs w' :=
  decomp_sound (isFn_of Go.Proofs.Try.func29 (by kernel_rfl) (by kernel_rfl) (by kernel_rfl)) okFs_ok mix [.val (.int .i64 every), .val (.int .i64 from_), .val (.int .i64 to_), .val (.int .i64 most)] (by rw [window_Due_eq]; exact h)

def towpathref21_time (t : Int) : Prog :=
.lt (.bool) (decide (t ≥ 0) && decide (t ≤ 1099511627776)) fun b0 =>
.done 0 [.bool b0]
theorem towpathref21_time_eq (t : Int) : decomp P 9 ⟨okFs, []⟩ { cnd := [], blk := [], reg := [], lps := [] } [.tmp 2] (bodyOf Go.Proofs.Try.f30) [.val (.int .i64 t)] = towpathref21_time t := by kernel_rfl
theorem towpathref21_time_calls (t : Int) {w : World} {R : List Value → World → Prop} (h : (towpathref21_time t).wp P (fun _ => True) w fun e vs w' => e = 0 ∧ R vs w') :
    Calls P F.towpathref21_time #[.int .i64 t] w fun e w' => ∃ vs, e = .returned (pack vs) ∧ R vs w' :=
  decomp_sound (isFn_of Go.Proofs.Try.func30 (by kernel_rfl) (by kernel_rfl) (by kernel_rfl)) okFs_ok mix [.val (.int .i64 t)] (by rw [towpathref21_time_eq]; exact h)

def slices_Sort_s_int64_int64 (x : Sl) : Prog :=
.lt (.int .i64) (((x.len : Nat) : Int)) fun (n0 : Int) =>
.call F.math_bits_Len [.int .u64 (IntKind.wrap .u64 n0)] (sI .i64) (u1 fun (n1 : Int) =>
.call F.slices_pdqsortOrdered_int64 [x.v, .int .i64 0, .int .i64 n0, .int .i64 n1] (.tup []) (u0 <|
.done 0 []))
theorem slices_Sort_s_int64_int64_eq (x : Sl) : decomp P 11 ⟨okFs, []⟩ { cnd := [], blk := [], reg := [], lps := [] } [] (bodyOf Go.Proofs.Try.f31) [.val (.slice x.a x.len x.cap)] = slices_Sort_s_int64_int64 x := by kernel_rfl
theorem slices_Sort_s_int64_int64_calls (x : Sl) {w : World} {R : List Value → World → Prop} (h : (slices_Sort_s_int64_int64 x).wp P (fun _ => True) w fun e vs w' => e = 0 ∧ R vs w') :
    Calls P F.slices_Sort_s_int64_int64 #[.slice x.a x.len x.cap] w fun e w' => ∃ vs, e = .returned (pack vs) ∧ R vs w' :=
  decomp_sound (isFn_of Go.Proofs.Try.func31 (by kernel_rfl) (by kernel_rfl) (by kernel_rfl)) okFs_ok mix [.val (.slice x.a x.len x.cap)] (by rw [slices_Sort_s_int64_int64_eq]; exact h)

def window_hex (start : Int) : Prog :=
.act (new T.a11_uint8) sA (u1 fun a0 =>
.bind 1 [] (
.loop 2 [.one (.int .i64), .one (.int .i64)] (start, (0, ())) (u2 fun (n1 : Int) (n2 : Int) =>
.ite (decide (n2 < 11)) (
.lt (.int .i64) (n2) fun (n3 : Int) =>
.must (0 ≤ IntKind.wrap .i64 (((BitVec.toNat (BitVec.ofInt 64 n1 &&& BitVec.ofInt 64 15) : Nat) : Int)) ∧ IntKind.wrap .i64 (((BitVec.toNat (BitVec.ofInt 64 n1 &&& BitVec.ofInt 64 15) : Nat) : Int)) < 16) <|
.must (0 ≤ IntKind.wrap .i64 (10 - n3) ∧ IntKind.wrap .i64 (10 - n3) < 11) <|
.actU (st T.uint8 (Addr.add a0 (Int.toNat (IntKind.wrap .i64 (10 - n3)) * 1)) (.int .u8 (bt (ByteArray.mk #[48, 49, 50, 51, 52, 53, 54, 55, 56, 57, 97, 98, 99, 100, 101, 102]) (IntKind.wrap .i64 (((BitVec.toNat (BitVec.ofInt 64 n1 &&& BitVec.ofInt 64 15) : Nat) : Int)))))) <|
.lt (.int .i64) (Int.fdiv n1 16) fun (n4 : Int) =>
.done 2 [.int .i64 n4, .int .i64 (IntKind.wrap .i64 (n2 + 1))]) (
.done 1 []))) (u0 <|
.read True (convert T.s_uint8 T.string (.slice (some a0) 11 11)) sS (u1 fun s5 =>
.lt (.str) (s5) fun s6 =>
.done 0 [.string s6])))
theorem window_hex_eq (start : Int) : decomp P 19 ⟨okFs, []⟩ { cnd := [], blk := [(0, [])], reg := [], lps := [(0, [(0, .one (.int .i64)), (5, .one (.int .i64))])] } [.tmp 2] (bodyOf Go.Proofs.Try.f32) [.val (.int .i64 start)] = window_hex start := by kernel_rfl
theorem window_hex_calls (start : Int) {w : World} {R : List Value → World → Prop} (h : (window_hex start).wp P (fun _ => True) w fun e vs w' => e = 0 ∧ R vs w') :
    Calls P F.window_hex #[.int .i64 start] w fun e w' => ∃ vs, e = .returned (pack vs) ∧ R vs w' :=
  decomp_sound (isFn_of Go.Proofs.Try.func32 (by kernel_rfl) (by kernel_rfl) (by kernel_rfl)) okFs_ok mix [.val (.int .i64 start)] (by rw [window_hex_eq]; exact h)

def slices_pdqsortOrdered_int64 (data : Sl) (a : Int) (b : Int) (limit : Int) : Prog :=
.loop 1 [.one (.int .i64), .one (.int .i64), .one (.int .i64), .one .bool, .one .bool] (a, (b, (limit, (true, (true, ()))))) (u5 fun (n0 : Int) (n1 : Int) (n2 : Int) b3 b4 =>
.bind 2 [.one (.int .i64), .one (.int .i64), .one (.int .i64), .one .bool, .one .bool] (
.lt (.int .i64) (IntKind.wrap .i64 (n1 - n0)) fun (n5 : Int) =>
.ite (decide (n5 ≤ 12)) (
.call F.slices_insertionSortOrdered_int64 [data.v, .int .i64 n0, .int .i64 n1] (.tup []) (u0 <|
.done 0 [])) (
.ite (n2 == 0) (
.call F.slices_heapSortOrdered_int64 [data.v, .int .i64 n0, .int .i64 n1] (.tup []) (u0 <|
.done 0 [])) (
.bind 3 [.one (.int .i64)] (
.ite (not b3) (
.call F.slices_breakPatternsOrdered_int64 [data.v, .int .i64 n0, .int .i64 n1] (.tup []) (u0 <|
.lt (.int .i64) (IntKind.wrap .i64 (n2 - 1)) fun (n6 : Int) =>
.done 3 [.int .i64 n6])) (
.done 3 [.int .i64 n2])) (u1 fun (n7 : Int) =>
.call F.slices_choosePivotOrdered_int64 [data.v, .int .i64 n0, .int .i64 n1] (.tup [.one (.int .i64), .one (.int .i64)]) (u2 fun (n8 : Int) (n9 : Int) =>
.lt (.int .i64) (n8) fun (n10 : Int) =>
.lt (.int .i64) (n9) fun (n11 : Int) =>
.bind 3 [.one (.int .i64), .one (.int .i64)] (
.ite (n11 == 2) (
.call F.slices_reverseRangeOrdered_int64 [data.v, .int .i64 n0, .int .i64 n1] (.tup []) (u0 <|
.lt (.int .i64) (IntKind.wrap .i64 (IntKind.wrap .i64 (n1 - 1) - IntKind.wrap .i64 (n10 - n0))) fun (n12 : Int) =>
.done 3 [.int .i64 n12, .int .i64 1])) (
.done 3 [.int .i64 n10, .int .i64 n11])) (u2 fun (n13 : Int) (n14 : Int) =>
.bind 3 [] (
.ite (b3 && b4 && n14 == 1) (
.call F.slices_partialInsertionSortOrdered_int64 [data.v, .int .i64 n0, .int .i64 n1] sB (u1 fun b15 =>
.ite (b15) (
.done 0 []) (
.done 3 []))) (
.done 3 [])) (u0 <|
.bind 3 [.one .bool] (
.tick <|
.ex [.adr] (c1 fun a16 => decide (n0 > 0) = true → 0 ≤ IntKind.wrap .i64 (n0 - 1) ∧ IntKind.wrap .i64 (n0 - 1) < ((data.len : Nat) : Int) ∧ data.a = some a16) (u1 fun a17 =>
.read (decide (n0 > 0) = true) (ld T.int64 (Addr.add a17 (Int.toNat (IntKind.wrap .i64 (n0 - 1)) * 1))) (sI .i64) (u1 fun (n18 : Int) =>
.ex [.adr] (c1 fun a19 => decide (n0 > 0) = true → 0 ≤ n13 ∧ n13 < ((data.len : Nat) : Int) ∧ data.a = some a19) (u1 fun a20 =>
.read (decide (n0 > 0) = true) (ld T.int64 (Addr.add a20 (Int.toNat n13 * 1))) (sI .i64) (u1 fun (n21 : Int) =>
.ite (decide (n0 > 0)) (
.call F.cmp_Less_int64 [.int .i64 n18, .int .i64 n21] sB (u1 fun b22 =>
.untick <|
.done 3 [.bool (not b22)])) (
.untick <|
.done 3 [.bool false])))))) (u1 fun b23 =>
.ite (b23) (
.call F.slices_partitionEqualOrdered_int64 [data.v, .int .i64 n0, .int .i64 n1, .int .i64 n13] (sI .i64) (u1 fun (n24 : Int) =>
.lt (.int .i64) (n24) fun (n25 : Int) =>
.lt (.int .i64) (n25) fun (n26 : Int) =>
.done 2 [.int .i64 n26, .int .i64 n1, .int .i64 n7, .bool b3, .bool b4])) (
.call F.slices_partitionOrdered_int64 [data.v, .int .i64 n0, .int .i64 n1, .int .i64 n13] (.tup [.one (.int .i64), .one .bool]) (u2 fun (n27 : Int) b28 =>
.lt (.int .i64) (n27) fun (n29 : Int) =>
.lt (.bool) (b28) fun b30 =>
.lt (.bool) (b30) fun b31 =>
.lt (.int .i64) (IntKind.wrap .i64 (n29 - n0)) fun (n32 : Int) =>
.lt (.int .i64) (IntKind.wrap .i64 (n1 - n29)) fun (n33 : Int) =>
.lt (.int .i64) (IntKind.wrap .i64 (Int.tdiv n5 8)) fun (n34 : Int) =>
.bind 3 [.one (.int .i64), .one (.int .i64), .one .bool] (
.ite (decide (n32 < n33)) (
.lt (.bool) (decide (n32 ≥ n34)) fun b35 =>
.call F.slices_pdqsortOrdered_int64 [data.v, .int .i64 n0, .int .i64 n29, .int .i64 n7] (.tup []) (u0 <|
.lt (.int .i64) (IntKind.wrap .i64 (n29 + 1)) fun (n36 : Int) =>
.done 3 [.int .i64 n36, .int .i64 n1, .bool b35])) (
.lt (.bool) (decide (n33 ≥ n34)) fun b37 =>
.call F.slices_pdqsortOrdered_int64 [data.v, .int .i64 (IntKind.wrap .i64 (n29 + 1)), .int .i64 n1, .int .i64 n7] (.tup []) (u0 <|
.lt (.int .i64) (n29) fun (n38 : Int) =>
.done 3 [.int .i64 n0, .int .i64 n38, .bool b37]))) (u3 fun (n39 : Int) (n40 : Int) b41 =>
.done 2 [.int .i64 n39, .int .i64 n40, .int .i64 n7, .bool b41, .bool b31]))))))))))) (u5 fun (n42 : Int) (n43 : Int) (n44 : Int) b45 b46 =>
.done 1 [.int .i64 n42, .int .i64 n43, .int .i64 n44, .bool b45, .bool b46]))
theorem slices_pdqsortOrdered_int64_eq (data : Sl) (a : Int) (b : Int) (limit : Int) : decomp P 134 ⟨okFs, []⟩ { cnd := [(17732923532804131, [(3, .one (.int .i64))]), (9435509593702460817458, [(11, .one (.int .i64)), (12, .one (.int .i64))]), (36267774588438875241185348, []), (89202895723530762331527007246941588082942065, [(1, .one (.int .i64)), (2, .one (.int .i64)), (8, .one .bool)])], blk := [(1, [(1, .one (.int .i64)), (2, .one (.int .i64)), (3, .one (.int .i64)), (8, .one .bool), (9, .one .bool)])], reg := [(17, [(87, .one .bool)])], lps := [(0, [(1, .one (.int .i64)), (2, .one (.int .i64)), (3, .one (.int .i64)), (8, .one .bool), (9, .one .bool)])] } [] (bodyOf Go.Proofs.Try.f33) [.val (.slice data.a data.len data.cap), .val (.int .i64 a), .val (.int .i64 b), .val (.int .i64 limit)] = slices_pdqsortOrdered_int64 data a b limit := by kernel_rfl
theorem slices_pdqsortOrdered_int64_calls (data : Sl) (a : Int) (b : Int) (limit : Int) {w : World} {R : List Value → World → Prop} (h : (slices_pdqsortOrdered_int64 data a b limit).wp P (fun _ => True) w fun e vs w' => e = 0 ∧ R vs w') :
    Calls P F.slices_pdqsortOrdered_int64 #[.slice data.a data.len data.cap, .int .i64 a, .int .i64 b, .int .i64 limit] w fun e w' => ∃ vs, e = .returned (pack vs) ∧ R vs w' :=
  decomp_sound (isFn_of Go.Proofs.Try.func33 (by kernel_rfl) (by kernel_rfl) (by kernel_rfl)) okFs_ok mix [.val (.slice data.a data.len data.cap), .val (.int .i64 a), .val (.int .i64 b), .val (.int .i64 limit)] (by rw [slices_pdqsortOrdered_int64_eq]; exact h)

def math_bits_Len (x : Int) : Prog :=
.call F.math_bits_Len64 [.int .u64 x] (sI .i64) (u1 fun (n0 : Int) =>
.lt (.int .i64) (n0) fun (n1 : Int) =>
.done 0 [.int .i64 n1])
theorem math_bits_Len_eq (x : Int) : decomp P 8 ⟨okFs, []⟩ { cnd := [], blk := [], reg := [], lps := [] } [.tmp 2] (bodyOf Go.Proofs.Try.f34) [.val (.int .u64 x)] = math_bits_Len x := by kernel_rfl
theorem math_bits_Len_calls (x : Int) {w : World} {R : List Value → World → Prop} (h : (math_bits_Len x).wp P (fun _ => True) w fun e vs w' => e = 0 ∧ R vs w') :
    Calls P F.math_bits_Len #[.int .u64 x] w fun e w' => ∃ vs, e = .returned (pack vs) ∧ R vs w' :=
  decomp_sound (isFn_of Go.Proofs.Try.func34 (by kernel_rfl) (by kernel_rfl) (by kernel_rfl)) okFs_ok mix [.val (.int .u64 x)] (by rw [math_bits_Len_eq]; exact h)

def slices_insertionSortOrdered_int64 (data : Sl) (a : Int) (b : Int) : Prog :=
.lt (.int .i64) (IntKind.wrap .i64 (a + 1)) fun (n0 : Int) =>
.bind 1 [] (
.loop 2 [.one (.int .i64)] (n0, ()) (u1 fun (n1 : Int) =>
.ite (decide (n1 < b)) (
.bind 3 [] (
.lt (.int .i64) (n1) fun (n2 : Int) =>
.bind 4 [] (
.loop 5 [.one (.int .i64)] (n2, ()) (u1 fun (n3 : Int) =>
.bind 6 [.one .bool] (
.tick <|
.ex [.adr] (c1 fun a4 => decide (n3 > a) = true → 0 ≤ n3 ∧ n3 < ((data.len : Nat) : Int) ∧ data.a = some a4) (u1 fun a5 =>
.read (decide (n3 > a) = true) (ld T.int64 (Addr.add a5 (Int.toNat n3 * 1))) (sI .i64) (u1 fun (n6 : Int) =>
.ex [.adr] (c1 fun a7 => decide (n3 > a) = true → 0 ≤ IntKind.wrap .i64 (n3 - 1) ∧ IntKind.wrap .i64 (n3 - 1) < ((data.len : Nat) : Int) ∧ data.a = some a7) (u1 fun a8 =>
.read (decide (n3 > a) = true) (ld T.int64 (Addr.add a8 (Int.toNat (IntKind.wrap .i64 (n3 - 1)) * 1))) (sI .i64) (u1 fun (n9 : Int) =>
.ite (decide (n3 > a)) (
.call F.cmp_Less_int64 [.int .i64 n6, .int .i64 n9] sB (u1 fun b10 =>
.untick <|
.done 6 [.bool b10])) (
.untick <|
.done 6 [.bool false])))))) (u1 fun b11 =>
.ite (b11) (
.bind 6 [] (
.tick <|
.ex [.adr] (c1 fun a12 => 0 ≤ IntKind.wrap .i64 (n3 - 1) ∧ IntKind.wrap .i64 (n3 - 1) < ((data.len : Nat) : Int) ∧ data.a = some a12) (u1 fun a13 =>
.read True (ld T.int64 (Addr.add a13 (Int.toNat (IntKind.wrap .i64 (n3 - 1)) * 1))) (sI .i64) (u1 fun (n14 : Int) =>
.ex [.adr] (c1 fun a15 => 0 ≤ n3 ∧ n3 < ((data.len : Nat) : Int) ∧ data.a = some a15) (u1 fun a16 =>
.read True (ld T.int64 (Addr.add a16 (Int.toNat n3 * 1))) (sI .i64) (u1 fun (n17 : Int) =>
.ex [.adr] (c1 fun a18 => 0 ≤ n3 ∧ n3 < ((data.len : Nat) : Int) ∧ data.a = some a18) (u1 fun a19 =>
.actU (st T.int64 (Addr.add a19 (Int.toNat n3 * 1)) (.int .i64 n14)) <|
.ex [.adr] (c1 fun a20 => 0 ≤ IntKind.wrap .i64 (n3 - 1) ∧ IntKind.wrap .i64 (n3 - 1) < ((data.len : Nat) : Int) ∧ data.a = some a20) (u1 fun a21 =>
.actU (st T.int64 (Addr.add a21 (Int.toNat (IntKind.wrap .i64 (n3 - 1)) * 1)) (.int .i64 n17)) <|
.untick <|
.done 6 []))))))) (u0 <|
.lt (.int .i64) (IntKind.wrap .i64 (n3 - 1)) fun (n22 : Int) =>
.done 5 [.int .i64 n22])) (
.done 4 [])))) (u0 <|
.done 3 [])) (u0 <|
.lt (.int .i64) (IntKind.wrap .i64 (n1 + 1)) fun (n23 : Int) =>
.done 2 [.int .i64 n23])) (
.done 1 []))) (u0 <|
.done 0 [])
theorem slices_insertionSortOrdered_int64_eq (data : Sl) (a : Int) (b : Int) : decomp P 49 ⟨okFs, []⟩ { cnd := [], blk := [(0, []), (1, []), (2, [])], reg := [(4, [(30, .one .bool)]), (6, [])], lps := [(0, [(6, .one (.int .i64))]), (2, [(7, .one (.int .i64))])] } [] (bodyOf Go.Proofs.Try.f35) [.val (.slice data.a data.len data.cap), .val (.int .i64 a), .val (.int .i64 b)] = slices_insertionSortOrdered_int64 data a b := by kernel_rfl
theorem slices_insertionSortOrdered_int64_calls (data : Sl) (a : Int) (b : Int) {w : World} {R : List Value → World → Prop} (h : (slices_insertionSortOrdered_int64 data a b).wp P (fun _ => True) w fun e vs w' => e = 0 ∧ R vs w') :
    Calls P F.slices_insertionSortOrdered_int64 #[.slice data.a data.len data.cap, .int .i64 a, .int .i64 b] w fun e w' => ∃ vs, e = .returned (pack vs) ∧ R vs w' :=
  decomp_sound (isFn_of Go.Proofs.Try.func35 (by kernel_rfl) (by kernel_rfl) (by kernel_rfl)) okFs_ok mix [.val (.slice data.a data.len data.cap), .val (.int .i64 a), .val (.int .i64 b)] (by rw [slices_insertionSortOrdered_int64_eq]; exact h)

def slices_heapSortOrdered_int64 (data : Sl) (a : Int) (b : Int) : Prog :=
.lt (.int .i64) (a) fun (n0 : Int) =>
.lt (.int .i64) (IntKind.wrap .i64 (b - a)) fun (n1 : Int) =>
.lt (.int .i64) (IntKind.wrap .i64 (Int.tdiv (IntKind.wrap .i64 (n1 - 1)) 2)) fun (n2 : Int) =>
.bind 1 [] (
.loop 2 [.one (.int .i64)] (n2, ()) (u1 fun (n3 : Int) =>
.ite (decide (n3 ≥ 0)) (
.call F.slices_siftDownOrdered_int64 [data.v, .int .i64 n3, .int .i64 n1, .int .i64 n0] (.tup []) (u0 <|
.lt (.int .i64) (IntKind.wrap .i64 (n3 - 1)) fun (n4 : Int) =>
.done 2 [.int .i64 n4])) (
.done 1 []))) (u0 <|
.lt (.int .i64) (IntKind.wrap .i64 (n1 - 1)) fun (n5 : Int) =>
.bind 1 [] (
.loop 2 [.one (.int .i64)] (n5, ()) (u1 fun (n6 : Int) =>
.ite (decide (n6 ≥ 0)) (
.bind 3 [] (
.tick <|
.ex [.adr] (c1 fun a7 => 0 ≤ IntKind.wrap .i64 (n0 + n6) ∧ IntKind.wrap .i64 (n0 + n6) < ((data.len : Nat) : Int) ∧ data.a = some a7) (u1 fun a8 =>
.read True (ld T.int64 (Addr.add a8 (Int.toNat (IntKind.wrap .i64 (n0 + n6)) * 1))) (sI .i64) (u1 fun (n9 : Int) =>
.ex [.adr] (c1 fun a10 => 0 ≤ n0 ∧ n0 < ((data.len : Nat) : Int) ∧ data.a = some a10) (u1 fun a11 =>
.read True (ld T.int64 (Addr.add a11 (Int.toNat n0 * 1))) (sI .i64) (u1 fun (n12 : Int) =>
.ex [.adr] (c1 fun a13 => 0 ≤ n0 ∧ n0 < ((data.len : Nat) : Int) ∧ data.a = some a13) (u1 fun a14 =>
.actU (st T.int64 (Addr.add a14 (Int.toNat n0 * 1)) (.int .i64 n9)) <|
.ex [.adr] (c1 fun a15 => 0 ≤ IntKind.wrap .i64 (n0 + n6) ∧ IntKind.wrap .i64 (n0 + n6) < ((data.len : Nat) : Int) ∧ data.a = some a15) (u1 fun a16 =>
.actU (st T.int64 (Addr.add a16 (Int.toNat (IntKind.wrap .i64 (n0 + n6)) * 1)) (.int .i64 n12)) <|
.untick <|
.done 3 []))))))) (u0 <|
.call F.slices_siftDownOrdered_int64 [data.v, .int .i64 0, .int .i64 n6, .int .i64 n0] (.tup []) (u0 <|
.lt (.int .i64) (IntKind.wrap .i64 (n6 - 1)) fun (n17 : Int) =>
.done 2 [.int .i64 n17]))) (
.done 1 []))) (u0 <|
.done 0 []))
theorem slices_heapSortOrdered_int64_eq (data : Sl) (a : Int) (b : Int) : decomp P 56 ⟨okFs, []⟩ { cnd := [], blk := [(0, []), (2, [])], reg := [(10, [])], lps := [(0, [(9, .one (.int .i64))]), (2, [(10, .one (.int .i64))])] } [] (bodyOf Go.Proofs.Try.f36) [.val (.slice data.a data.len data.cap), .val (.int .i64 a), .val (.int .i64 b)] = slices_heapSortOrdered_int64 data a b := by kernel_rfl
theorem slices_heapSortOrdered_int64_calls (data : Sl) (a : Int) (b : Int) {w : World} {R : List Value → World → Prop} (h : (slices_heapSortOrdered_int64 data a b).wp P (fun _ => True) w fun e vs w' => e = 0 ∧ R vs w') :
    Calls P F.slices_heapSortOrdered_int64 #[.slice data.a data.len data.cap, .int .i64 a, .int .i64 b] w fun e w' => ∃ vs, e = .returned (pack vs) ∧ R vs w' :=
  decomp_sound (isFn_of Go.Proofs.Try.func36 (by kernel_rfl) (by kernel_rfl) (by kernel_rfl)) okFs_ok mix [.val (.slice data.a data.len data.cap), .val (.int .i64 a), .val (.int .i64 b)] (by rw [slices_heapSortOrdered_int64_eq]; exact h)

def slices_breakPatternsOrdered_int64 (data : Sl) (a : Int) (b : Int) : Prog :=
.lt (.int .i64) (IntKind.wrap .i64 (b - a)) fun (n0 : Int) =>
.bind 1 [] (
.ite (decide (n0 ≥ 8)) (
.act (new T.slices_xorshift) sA (u1 fun a1 =>
.actU (st T.slices_xorshift a1 (.int .u64 (IntKind.wrap .u64 n0))) <|
.call F.slices_nextPowerOfTwo [.int .i64 n0] (sI .u64) (u1 fun (n2 : Int) =>
.lt (.int .u64) (n2) fun (n3 : Int) =>
.lt (.int .i64) (IntKind.wrap .i64 (IntKind.wrap .i64 (a + IntKind.wrap .i64 (IntKind.wrap .i64 (Int.tdiv n0 4) * 2)) - 1)) fun (n4 : Int) =>
.bind 2 [] (
.loop 3 [.one (.int .i64)] (n4, ()) (u1 fun (n5 : Int) =>
.ite (decide (n5 ≤ IntKind.wrap .i64 (IntKind.wrap .i64 (a + IntKind.wrap .i64 (IntKind.wrap .i64 (Int.tdiv n0 4) * 2)) + 1))) (
.call F.slices_xorshift_Next [.pointer (some a1)] (sI .u64) (u1 fun (n6 : Int) =>
.lt (.int .i64) (IntKind.wrap .i64 (IntKind.wrap .u64 (((BitVec.toNat (BitVec.ofInt 64 n6 &&& BitVec.ofInt 64 (IntKind.wrap .u64 (n3 - 1))) : Nat) : Int)))) fun (n7 : Int) =>
.bind 4 [.one (.int .i64)] (
.ite (decide (n7 ≥ n0)) (
.lt (.int .i64) (IntKind.wrap .i64 (n7 - n0)) fun (n8 : Int) =>
.done 4 [.int .i64 n8]) (
.done 4 [.int .i64 n7])) (u1 fun (n9 : Int) =>
.bind 4 [] (
.tick <|
.ex [.adr] (c1 fun a10 => 0 ≤ IntKind.wrap .i64 (a + n9) ∧ IntKind.wrap .i64 (a + n9) < ((data.len : Nat) : Int) ∧ data.a = some a10) (u1 fun a11 =>
.read True (ld T.int64 (Addr.add a11 (Int.toNat (IntKind.wrap .i64 (a + n9)) * 1))) (sI .i64) (u1 fun (n12 : Int) =>
.ex [.adr] (c1 fun a13 => 0 ≤ n5 ∧ n5 < ((data.len : Nat) : Int) ∧ data.a = some a13) (u1 fun a14 =>
.read True (ld T.int64 (Addr.add a14 (Int.toNat n5 * 1))) (sI .i64) (u1 fun (n15 : Int) =>
.ex [.adr] (c1 fun a16 => 0 ≤ n5 ∧ n5 < ((data.len : Nat) : Int) ∧ data.a = some a16) (u1 fun a17 =>
.actU (st T.int64 (Addr.add a17 (Int.toNat n5 * 1)) (.int .i64 n12)) <|
.ex [.adr] (c1 fun a18 => 0 ≤ IntKind.wrap .i64 (a + n9) ∧ IntKind.wrap .i64 (a + n9) < ((data.len : Nat) : Int) ∧ data.a = some a18) (u1 fun a19 =>
.actU (st T.int64 (Addr.add a19 (Int.toNat (IntKind.wrap .i64 (a + n9)) * 1)) (.int .i64 n15)) <|
.untick <|
.done 4 []))))))) (u0 <|
.lt (.int .i64) (IntKind.wrap .i64 (n5 + 1)) fun (n20 : Int) =>
.done 3 [.int .i64 n20])))) (
.done 2 []))) (u0 <|
.done 1 [])))) (
.done 1 [])) (u0 <|
.done 0 [])
theorem slices_breakPatternsOrdered_int64_eq (data : Sl) (a : Int) (b : Int) : decomp P 65 ⟨okFs, []⟩ { cnd := [(504403158269689899, [(10, .one (.int .i64))]), (151115727451828386267151, [])], blk := [(0, [])], reg := [(10, [])], lps := [(0, [(9, .one (.int .i64))])] } [] (bodyOf Go.Proofs.Try.f37) [.val (.slice data.a data.len data.cap), .val (.int .i64 a), .val (.int .i64 b)] = slices_breakPatternsOrdered_int64 data a b := by kernel_rfl
theorem slices_breakPatternsOrdered_int64_calls (data : Sl) (a : Int) (b : Int) {w : World} {R : List Value → World → Prop} (h : (slices_breakPatternsOrdered_int64 data a b).wp P (fun _ => True) w fun e vs w' => e = 0 ∧ R vs w') :
    Calls P F.slices_breakPatternsOrdered_int64 #[.slice data.a data.len data.cap, .int .i64 a, .int .i64 b] w fun e w' => ∃ vs, e = .returned (pack vs) ∧ R vs w' :=
  decomp_sound (isFn_of Go.Proofs.Try.func37 (by kernel_rfl) (by kernel_rfl) (by kernel_rfl)) okFs_ok mix [.val (.slice data.a data.len data.cap), .val (.int .i64 a), .val (.int .i64 b)] (by rw [slices_breakPatternsOrdered_int64_eq]; exact h)

def slices_choosePivotOrdered_int64 (data : Sl) (a : Int) (b : Int) : Prog :=
.lt (.int .i64) (IntKind.wrap .i64 (b - a)) fun (n0 : Int) =>
.act (new T.int) sA (u1 fun a1 =>
.lt (.int .i64) (IntKind.wrap .i64 (a + IntKind.wrap .i64 (IntKind.wrap .i64 (Int.tdiv n0 4) * 1))) fun (n2 : Int) =>
.lt (.int .i64) (IntKind.wrap .i64 (a + IntKind.wrap .i64 (IntKind.wrap .i64 (Int.tdiv n0 4) * 2))) fun (n3 : Int) =>
.lt (.int .i64) (IntKind.wrap .i64 (a + IntKind.wrap .i64 (IntKind.wrap .i64 (Int.tdiv n0 4) * 3))) fun (n4 : Int) =>
.bind 1 [.one (.int .i64)] (
.ite (decide (n0 ≥ 8)) (
.bind 2 [.one (.int .i64), .one (.int .i64), .one (.int .i64)] (
.ite (decide (n0 ≥ 50)) (
.call F.slices_medianAdjacentOrdered_int64 [data.v, .int .i64 n2, .pointer (some a1)] (sI .i64) (u1 fun (n5 : Int) =>
.lt (.int .i64) (n5) fun (n6 : Int) =>
.call F.slices_medianAdjacentOrdered_int64 [data.v, .int .i64 n3, .pointer (some a1)] (sI .i64) (u1 fun (n7 : Int) =>
.lt (.int .i64) (n7) fun (n8 : Int) =>
.call F.slices_medianAdjacentOrdered_int64 [data.v, .int .i64 n4, .pointer (some a1)] (sI .i64) (u1 fun (n9 : Int) =>
.lt (.int .i64) (n9) fun (n10 : Int) =>
.done 2 [.int .i64 n6, .int .i64 n8, .int .i64 n10])))) (
.done 2 [.int .i64 n2, .int .i64 n3, .int .i64 n4])) (u3 fun (n11 : Int) (n12 : Int) (n13 : Int) =>
.call F.slices_medianOrdered_int64 [data.v, .int .i64 n11, .int .i64 n12, .int .i64 n13, .pointer (some a1)] (sI .i64) (u1 fun (n14 : Int) =>
.lt (.int .i64) (n14) fun (n15 : Int) =>
.done 1 [.int .i64 n15]))) (
.done 1 [.int .i64 n3])) (u1 fun (n16 : Int) =>
.read True (ld T.int a1) (sI .i64) (u1 fun (n17 : Int) =>
.lt (.bool) (n17 == 0) fun b18 =>
.ite (b18) (
.lt (.int .i64) (n16) fun (n19 : Int) =>
.done 0 [.int .i64 n19, .int .i64 1]) (
.lt (.bool) (n17 == 12) fun b20 =>
.ite (b20) (
.lt (.int .i64) (n16) fun (n21 : Int) =>
.done 0 [.int .i64 n21, .int .i64 2]) (
.lt (.int .i64) (n16) fun (n22 : Int) =>
.done 0 [.int .i64 n22, .int .i64 0])))))
theorem slices_choosePivotOrdered_int64_eq (data : Sl) (a : Int) (b : Int) : decomp P 57 ⟨okFs, []⟩ { cnd := [(71916856578932770, [(10, .one (.int .i64)), (11, .one (.int .i64)), (12, .one (.int .i64))]), (2305807824870965280, [(11, .one (.int .i64))])], blk := [], reg := [], lps := [] } [.tmp 6, .tmp 7] (bodyOf Go.Proofs.Try.f38) [.val (.slice data.a data.len data.cap), .val (.int .i64 a), .val (.int .i64 b)] = slices_choosePivotOrdered_int64 data a b := by kernel_rfl
theorem slices_choosePivotOrdered_int64_calls (data : Sl) (a : Int) (b : Int) {w : World} {R : List Value → World → Prop} (h : (slices_choosePivotOrdered_int64 data a b).wp P (fun _ => True) w fun e vs w' => e = 0 ∧ R vs w') :
    Calls P F.slices_choosePivotOrdered_int64 #[.slice data.a data.len data.cap, .int .i64 a, .int .i64 b] w fun e w' => ∃ vs, e = .returned (pack vs) ∧ R vs w' :=
  decomp_sound (isFn_of Go.Proofs.Try.func38 (by kernel_rfl) (by kernel_rfl) (by kernel_rfl)) okFs_ok mix [.val (.slice data.a data.len data.cap), .val (.int .i64 a), .val (.int .i64 b)] (by rw [slices_choosePivotOrdered_int64_eq]; exact h)

def slices_reverseRangeOrdered_int64 (data : Sl) (a : Int) (b : Int) : Prog :=
.lt (.int .i64) (a) fun (n0 : Int) =>
.lt (.int .i64) (IntKind.wrap .i64 (b - 1)) fun (n1 : Int) =>
.bind 1 [] (
.loop 2 [.one (.int .i64), .one (.int .i64)] (n0, (n1, ())) (u2 fun (n2 : Int) (n3 : Int) =>
.ite (decide (n2 < n3)) (
.bind 3 [] (
.tick <|
.ex [.adr] (c1 fun a4 => 0 ≤ n3 ∧ n3 < ((data.len : Nat) : Int) ∧ data.a = some a4) (u1 fun a5 =>
.read True (ld T.int64 (Addr.add a5 (Int.toNat n3 * 1))) (sI .i64) (u1 fun (n6 : Int) =>
.ex [.adr] (c1 fun a7 => 0 ≤ n2 ∧ n2 < ((data.len : Nat) : Int) ∧ data.a = some a7) (u1 fun a8 =>
.read True (ld T.int64 (Addr.add a8 (Int.toNat n2 * 1))) (sI .i64) (u1 fun (n9 : Int) =>
.ex [.adr] (c1 fun a10 => 0 ≤ n2 ∧ n2 < ((data.len : Nat) : Int) ∧ data.a = some a10) (u1 fun a11 =>
.actU (st T.int64 (Addr.add a11 (Int.toNat n2 * 1)) (.int .i64 n6)) <|
.ex [.adr] (c1 fun a12 => 0 ≤ n3 ∧ n3 < ((data.len : Nat) : Int) ∧ data.a = some a12) (u1 fun a13 =>
.actU (st T.int64 (Addr.add a13 (Int.toNat n3 * 1)) (.int .i64 n9)) <|
.untick <|
.done 3 []))))))) (u0 <|
.lt (.int .i64) (IntKind.wrap .i64 (n2 + 1)) fun (n14 : Int) =>
.lt (.int .i64) (IntKind.wrap .i64 (n3 - 1)) fun (n15 : Int) =>
.done 2 [.int .i64 n14, .int .i64 n15])) (
.done 1 []))) (u0 <|
.done 0 [])
theorem slices_reverseRangeOrdered_int64_eq (data : Sl) (a : Int) (b : Int) : decomp P 32 ⟨okFs, []⟩ { cnd := [], blk := [(0, [])], reg := [(3, [])], lps := [(0, [(6, .one (.int .i64)), (7, .one (.int .i64))])] } [] (bodyOf Go.Proofs.Try.f39) [.val (.slice data.a data.len data.cap), .val (.int .i64 a), .val (.int .i64 b)] = slices_reverseRangeOrdered_int64 data a b := by kernel_rfl
theorem slices_reverseRangeOrdered_int64_calls (data : Sl) (a : Int) (b : Int) {w : World} {R : List Value → World → Prop} (h : (slices_reverseRangeOrdered_int64 data a b).wp P (fun _ => True) w fun e vs w' => e = 0 ∧ R vs w') :
    Calls P F.slices_reverseRangeOrdered_int64 #[.slice data.a data.len data.cap, .int .i64 a, .int .i64 b] w fun e w' => ∃ vs, e = .returned (pack vs) ∧ R vs w' :=
  decomp_sound (isFn_of Go.Proofs.Try.func39 (by kernel_rfl) (by kernel_rfl) (by kernel_rfl)) okFs_ok mix [.val (.slice data.a data.len data.cap), .val (.int .i64 a), .val (.int .i64 b)] (by rw [slices_reverseRangeOrdered_int64_eq]; exact h)

def slices_partialInsertionSortOrdered_int64 (data : Sl) (a : Int) (b : Int) : Prog :=
.lt (.int .i64) (IntKind.wrap .i64 (a + 1)) fun (n0 : Int) =>
.bind 1 [] (
.loop 2 [.one (.int .i64), .one (.int .i64)] (n0, (0, ())) (u2 fun (n1 : Int) (n2 : Int) =>
.ite (decide (n2 < 5)) (
.bind 3 [.one (.int .i64)] (
.bind 4 [.one (.int .i64)] (
.loop 5 [.one (.int .i64)] (n1, ()) (u1 fun (n3 : Int) =>
.bind 6 [.one .bool] (
.tick <|
.ex [.adr] (c1 fun a4 => decide (n3 < b) = true → 0 ≤ n3 ∧ n3 < ((data.len : Nat) : Int) ∧ data.a = some a4) (u1 fun a5 =>
.read (decide (n3 < b) = true) (ld T.int64 (Addr.add a5 (Int.toNat n3 * 1))) (sI .i64) (u1 fun (n6 : Int) =>
.ex [.adr] (c1 fun a7 => decide (n3 < b) = true → 0 ≤ IntKind.wrap .i64 (n3 - 1) ∧ IntKind.wrap .i64 (n3 - 1) < ((data.len : Nat) : Int) ∧ data.a = some a7) (u1 fun a8 =>
.read (decide (n3 < b) = true) (ld T.int64 (Addr.add a8 (Int.toNat (IntKind.wrap .i64 (n3 - 1)) * 1))) (sI .i64) (u1 fun (n9 : Int) =>
.ite (decide (n3 < b)) (
.call F.cmp_Less_int64 [.int .i64 n6, .int .i64 n9] sB (u1 fun b10 =>
.untick <|
.done 6 [.bool (not b10)])) (
.untick <|
.done 6 [.bool false])))))) (u1 fun b11 =>
.ite (b11) (
.lt (.int .i64) (IntKind.wrap .i64 (n3 + 1)) fun (n12 : Int) =>
.done 5 [.int .i64 n12]) (
.done 4 [.int .i64 n3])))) (u1 fun (n13 : Int) =>
.ite (n13 == b) (
.done 0 [.bool true]) (
.ite (decide (IntKind.wrap .i64 (b - a) < 50)) (
.done 0 [.bool false]) (
.bind 4 [] (
.tick <|
.ex [.adr] (c1 fun a14 => 0 ≤ IntKind.wrap .i64 (n13 - 1) ∧ IntKind.wrap .i64 (n13 - 1) < ((data.len : Nat) : Int) ∧ data.a = some a14) (u1 fun a15 =>
.read True (ld T.int64 (Addr.add a15 (Int.toNat (IntKind.wrap .i64 (n13 - 1)) * 1))) (sI .i64) (u1 fun (n16 : Int) =>
.ex [.adr] (c1 fun a17 => 0 ≤ n13 ∧ n13 < ((data.len : Nat) : Int) ∧ data.a = some a17) (u1 fun a18 =>
.read True (ld T.int64 (Addr.add a18 (Int.toNat n13 * 1))) (sI .i64) (u1 fun (n19 : Int) =>
.ex [.adr] (c1 fun a20 => 0 ≤ n13 ∧ n13 < ((data.len : Nat) : Int) ∧ data.a = some a20) (u1 fun a21 =>
.actU (st T.int64 (Addr.add a21 (Int.toNat n13 * 1)) (.int .i64 n16)) <|
.ex [.adr] (c1 fun a22 => 0 ≤ IntKind.wrap .i64 (n13 - 1) ∧ IntKind.wrap .i64 (n13 - 1) < ((data.len : Nat) : Int) ∧ data.a = some a22) (u1 fun a23 =>
.actU (st T.int64 (Addr.add a23 (Int.toNat (IntKind.wrap .i64 (n13 - 1)) * 1)) (.int .i64 n19)) <|
.untick <|
.done 4 []))))))) (u0 <|
.bind 4 [] (
.ite (decide (IntKind.wrap .i64 (n13 - a) ≥ 2)) (
.lt (.int .i64) (IntKind.wrap .i64 (n13 - 1)) fun (n24 : Int) =>
.bind 5 [] (
.loop 6 [.one (.int .i64)] (n24, ()) (u1 fun (n25 : Int) =>
.ite (decide (n25 ≥ 1)) (
.tick <|
.ex [.adr] (c1 fun a26 => 0 ≤ n25 ∧ n25 < ((data.len : Nat) : Int) ∧ data.a = some a26) (u1 fun a27 =>
.read True (ld T.int64 (Addr.add a27 (Int.toNat n25 * 1))) (sI .i64) (u1 fun (n28 : Int) =>
.ex [.adr] (c1 fun a29 => 0 ≤ IntKind.wrap .i64 (n25 - 1) ∧ IntKind.wrap .i64 (n25 - 1) < ((data.len : Nat) : Int) ∧ data.a = some a29) (u1 fun a30 =>
.read True (ld T.int64 (Addr.add a30 (Int.toNat (IntKind.wrap .i64 (n25 - 1)) * 1))) (sI .i64) (u1 fun (n31 : Int) =>
.call F.cmp_Less_int64 [.int .i64 n28, .int .i64 n31] sB (u1 fun b32 =>
.untick <|
.ite (not b32) (
.done 5 []) (
.bind 7 [] (
.tick <|
.ex [.adr] (c1 fun a33 => 0 ≤ IntKind.wrap .i64 (n25 - 1) ∧ IntKind.wrap .i64 (n25 - 1) < ((data.len : Nat) : Int) ∧ data.a = some a33) (u1 fun a34 =>
.read True (ld T.int64 (Addr.add a34 (Int.toNat (IntKind.wrap .i64 (n25 - 1)) * 1))) (sI .i64) (u1 fun (n35 : Int) =>
.ex [.adr] (c1 fun a36 => 0 ≤ n25 ∧ n25 < ((data.len : Nat) : Int) ∧ data.a = some a36) (u1 fun a37 =>
.read True (ld T.int64 (Addr.add a37 (Int.toNat n25 * 1))) (sI .i64) (u1 fun (n38 : Int) =>
.ex [.adr] (c1 fun a39 => 0 ≤ n25 ∧ n25 < ((data.len : Nat) : Int) ∧ data.a = some a39) (u1 fun a40 =>
.actU (st T.int64 (Addr.add a40 (Int.toNat n25 * 1)) (.int .i64 n35)) <|
.ex [.adr] (c1 fun a41 => 0 ≤ IntKind.wrap .i64 (n25 - 1) ∧ IntKind.wrap .i64 (n25 - 1) < ((data.len : Nat) : Int) ∧ data.a = some a41) (u1 fun a42 =>
.actU (st T.int64 (Addr.add a42 (Int.toNat (IntKind.wrap .i64 (n25 - 1)) * 1)) (.int .i64 n38)) <|
.untick <|
.done 7 []))))))) (u0 <|
.lt (.int .i64) (IntKind.wrap .i64 (n25 - 1)) fun (n43 : Int) =>
.done 6 [.int .i64 n43])))))))) (
.done 5 []))) (u0 <|
.done 4 [])) (
.done 4 [])) (u0 <|
.bind 4 [] (
.ite (decide (IntKind.wrap .i64 (b - n13) ≥ 2)) (
.lt (.int .i64) (IntKind.wrap .i64 (n13 + 1)) fun (n44 : Int) =>
.bind 5 [] (
.loop 6 [.one (.int .i64)] (n44, ()) (u1 fun (n45 : Int) =>
.ite (decide (n45 < b)) (
.tick <|
.ex [.adr] (c1 fun a46 => 0 ≤ n45 ∧ n45 < ((data.len : Nat) : Int) ∧ data.a = some a46) (u1 fun a47 =>
.read True (ld T.int64 (Addr.add a47 (Int.toNat n45 * 1))) (sI .i64) (u1 fun (n48 : Int) =>
.ex [.adr] (c1 fun a49 => 0 ≤ IntKind.wrap .i64 (n45 - 1) ∧ IntKind.wrap .i64 (n45 - 1) < ((data.len : Nat) : Int) ∧ data.a = some a49) (u1 fun a50 =>
.read True (ld T.int64 (Addr.add a50 (Int.toNat (IntKind.wrap .i64 (n45 - 1)) * 1))) (sI .i64) (u1 fun (n51 : Int) =>
.call F.cmp_Less_int64 [.int .i64 n48, .int .i64 n51] sB (u1 fun b52 =>
.untick <|
.ite (not b52) (
.done 5 []) (
.bind 7 [] (
.tick <|
.ex [.adr] (c1 fun a53 => 0 ≤ IntKind.wrap .i64 (n45 - 1) ∧ IntKind.wrap .i64 (n45 - 1) < ((data.len : Nat) : Int) ∧ data.a = some a53) (u1 fun a54 =>
.read True (ld T.int64 (Addr.add a54 (Int.toNat (IntKind.wrap .i64 (n45 - 1)) * 1))) (sI .i64) (u1 fun (n55 : Int) =>
.ex [.adr] (c1 fun a56 => 0 ≤ n45 ∧ n45 < ((data.len : Nat) : Int) ∧ data.a = some a56) (u1 fun a57 =>
.read True (ld T.int64 (Addr.add a57 (Int.toNat n45 * 1))) (sI .i64) (u1 fun (n58 : Int) =>
.ex [.adr] (c1 fun a59 => 0 ≤ n45 ∧ n45 < ((data.len : Nat) : Int) ∧ data.a = some a59) (u1 fun a60 =>
.actU (st T.int64 (Addr.add a60 (Int.toNat n45 * 1)) (.int .i64 n55)) <|
.ex [.adr] (c1 fun a61 => 0 ≤ IntKind.wrap .i64 (n45 - 1) ∧ IntKind.wrap .i64 (n45 - 1) < ((data.len : Nat) : Int) ∧ data.a = some a61) (u1 fun a62 =>
.actU (st T.int64 (Addr.add a62 (Int.toNat (IntKind.wrap .i64 (n45 - 1)) * 1)) (.int .i64 n58)) <|
.untick <|
.done 7 []))))))) (u0 <|
.lt (.int .i64) (IntKind.wrap .i64 (n45 + 1)) fun (n63 : Int) =>
.done 6 [.int .i64 n63])))))))) (
.done 5 []))) (u0 <|
.done 4 [])) (
.done 4 [])) (u0 <|
.done 3 [.int .i64 n13]))))))) (u1 fun (n64 : Int) =>
.lt (.int .i64) (IntKind.wrap .i64 (n2 + 1)) fun (n65 : Int) =>
.done 2 [.int .i64 n64, .int .i64 n65])) (
.done 1 []))) (u0 <|
.done 0 [.bool false])
theorem slices_partialInsertionSortOrdered_int64_eq (data : Sl) (a : Int) (b : Int) : decomp P 133 ⟨okFs, []⟩ { cnd := [(162259276810323897460099431530557, []), (44601490394465097853804022731031474851545186, [])], blk := [(0, []), (1, [(7, .one (.int .i64))]), (2, [(7, .one (.int .i64))]), (4, []), (6, [])], reg := [(5, [(32, .one .bool)]), (11, []), (17, []), (23, [])], lps := [(0, [(7, .one (.int .i64)), (8, .one (.int .i64))]), (2, [(7, .one (.int .i64))]), (4, [(9, .one (.int .i64))]), (6, [(10, .one (.int .i64))])] } [.tmp 6] (bodyOf Go.Proofs.Try.f40) [.val (.slice data.a data.len data.cap), .val (.int .i64 a), .val (.int .i64 b)] = slices_partialInsertionSortOrdered_int64 data a b := by kernel_rfl
theorem slices_partialInsertionSortOrdered_int64_calls (data : Sl) (a : Int) (b : Int) {w : World} {R : List Value → World → Prop} (h : (slices_partialInsertionSortOrdered_int64 data a b).wp P (fun _ => True) w fun e vs w' => e = 0 ∧ R vs w') :
    Calls P F.slices_partialInsertionSortOrdered_int64 #[.slice data.a data.len data.cap, .int .i64 a, .int .i64 b] w fun e w' => ∃ vs, e = .returned (pack vs) ∧ R vs w' :=
  decomp_sound (isFn_of Go.Proofs.Try.func40 (by kernel_rfl) (by kernel_rfl) (by kernel_rfl)) okFs_ok mix [.val (.slice data.a data.len data.cap), .val (.int .i64 a), .val (.int .i64 b)] (by rw [slices_partialInsertionSortOrdered_int64_eq]; exact h)

def cmp_Less_int64 (x : Int) (y : Int) : Prog :=
.bind 1 [.one .bool] (
.call F.cmp_isNaN_int64 [.int .i64 x] sB (u1 fun b0 =>
.ite (b0) (
.call F.cmp_isNaN_int64 [.int .i64 y] sB (u1 fun b1 =>
.lt (.bool) (not b1 || decide (x < y)) fun b2 =>
.done 1 [.bool b2])) (
.lt (.bool) (decide (x < y)) fun b3 =>
.done 1 [.bool b3]))) (u1 fun b4 =>
.done 0 [.bool b4])
theorem cmp_Less_int64_eq (x : Int) (y : Int) : decomp P 17 ⟨okFs, []⟩ { cnd := [], blk := [], reg := [(1, [(4, .one .bool)])], lps := [] } [.tmp 4] (bodyOf Go.Proofs.Try.f41) [.val (.int .i64 x), .val (.int .i64 y)] = cmp_Less_int64 x y := by kernel_rfl
theorem cmp_Less_int64_calls (x : Int) (y : Int) {w : World} {R : List Value → World → Prop} (h : (cmp_Less_int64 x y).wp P (fun _ => True) w fun e vs w' => e = 0 ∧ R vs w') :
    Calls P F.cmp_Less_int64 #[.int .i64 x, .int .i64 y] w fun e w' => ∃ vs, e = .returned (pack vs) ∧ R vs w' :=
  decomp_sound (isFn_of Go.Proofs.Try.func41 (by kernel_rfl) (by kernel_rfl) (by kernel_rfl)) okFs_ok mix [.val (.int .i64 x), .val (.int .i64 y)] (by rw [cmp_Less_int64_eq]; exact h)

def slices_partitionEqualOrdered_int64 (data : Sl) (a : Int) (b : Int) (pivot : Int) : Prog :=
.bind 1 [] (
.tick <|
.ex [.adr] (c1 fun a0 => 0 ≤ pivot ∧ pivot < ((data.len : Nat) : Int) ∧ data.a = some a0) (u1 fun a1 =>
.read True (ld T.int64 (Addr.add a1 (Int.toNat pivot * 1))) (sI .i64) (u1 fun (n2 : Int) =>
.ex [.adr] (c1 fun a3 => 0 ≤ a ∧ a < ((data.len : Nat) : Int) ∧ data.a = some a3) (u1 fun a4 =>
.read True (ld T.int64 (Addr.add a4 (Int.toNat a * 1))) (sI .i64) (u1 fun (n5 : Int) =>
.ex [.adr] (c1 fun a6 => 0 ≤ a ∧ a < ((data.len : Nat) : Int) ∧ data.a = some a6) (u1 fun a7 =>
.actU (st T.int64 (Addr.add a7 (Int.toNat a * 1)) (.int .i64 n2)) <|
.ex [.adr] (c1 fun a8 => 0 ≤ pivot ∧ pivot < ((data.len : Nat) : Int) ∧ data.a = some a8) (u1 fun a9 =>
.actU (st T.int64 (Addr.add a9 (Int.toNat pivot * 1)) (.int .i64 n5)) <|
.untick <|
.done 1 []))))))) (u0 <|
.lt (.int .i64) (IntKind.wrap .i64 (a + 1)) fun (n10 : Int) =>
.lt (.int .i64) (IntKind.wrap .i64 (b - 1)) fun (n11 : Int) =>
.bind 1 [.one (.int .i64)] (
.loop 2 [.one (.int .i64), .one (.int .i64)] (n10, (n11, ())) (u2 fun (n12 : Int) (n13 : Int) =>
.bind 3 [.one (.int .i64), .one (.int .i64)] (
.bind 4 [.one (.int .i64)] (
.loop 5 [.one (.int .i64)] (n12, ()) (u1 fun (n14 : Int) =>
.bind 6 [.one .bool] (
.tick <|
.ex [.adr] (c1 fun a15 => decide (n14 ≤ n13) = true → 0 ≤ a ∧ a < ((data.len : Nat) : Int) ∧ data.a = some a15) (u1 fun a16 =>
.read (decide (n14 ≤ n13) = true) (ld T.int64 (Addr.add a16 (Int.toNat a * 1))) (sI .i64) (u1 fun (n17 : Int) =>
.ex [.adr] (c1 fun a18 => decide (n14 ≤ n13) = true → 0 ≤ n14 ∧ n14 < ((data.len : Nat) : Int) ∧ data.a = some a18) (u1 fun a19 =>
.read (decide (n14 ≤ n13) = true) (ld T.int64 (Addr.add a19 (Int.toNat n14 * 1))) (sI .i64) (u1 fun (n20 : Int) =>
.ite (decide (n14 ≤ n13)) (
.call F.cmp_Less_int64 [.int .i64 n17, .int .i64 n20] sB (u1 fun b21 =>
.untick <|
.done 6 [.bool (not b21)])) (
.untick <|
.done 6 [.bool false])))))) (u1 fun b22 =>
.ite (b22) (
.lt (.int .i64) (IntKind.wrap .i64 (n14 + 1)) fun (n23 : Int) =>
.done 5 [.int .i64 n23]) (
.done 4 [.int .i64 n14])))) (u1 fun (n24 : Int) =>
.bind 4 [.one (.int .i64)] (
.loop 5 [.one (.int .i64)] (n13, ()) (u1 fun (n25 : Int) =>
.bind 6 [.one .bool] (
.tick <|
.ex [.adr] (c1 fun a26 => decide (n24 ≤ n25) = true → 0 ≤ a ∧ a < ((data.len : Nat) : Int) ∧ data.a = some a26) (u1 fun a27 =>
.read (decide (n24 ≤ n25) = true) (ld T.int64 (Addr.add a27 (Int.toNat a * 1))) (sI .i64) (u1 fun (n28 : Int) =>
.ex [.adr] (c1 fun a29 => decide (n24 ≤ n25) = true → 0 ≤ n25 ∧ n25 < ((data.len : Nat) : Int) ∧ data.a = some a29) (u1 fun a30 =>
.read (decide (n24 ≤ n25) = true) (ld T.int64 (Addr.add a30 (Int.toNat n25 * 1))) (sI .i64) (u1 fun (n31 : Int) =>
.ite (decide (n24 ≤ n25)) (
.call F.cmp_Less_int64 [.int .i64 n28, .int .i64 n31] sB (u1 fun b32 =>
.untick <|
.done 6 [.bool b32])) (
.untick <|
.done 6 [.bool false])))))) (u1 fun b33 =>
.ite (b33) (
.lt (.int .i64) (IntKind.wrap .i64 (n25 - 1)) fun (n34 : Int) =>
.done 5 [.int .i64 n34]) (
.done 4 [.int .i64 n25])))) (u1 fun (n35 : Int) =>
.ite (decide (n24 > n35)) (
.done 1 [.int .i64 n24]) (
.bind 4 [] (
.tick <|
.ex [.adr] (c1 fun a36 => 0 ≤ n35 ∧ n35 < ((data.len : Nat) : Int) ∧ data.a = some a36) (u1 fun a37 =>
.read True (ld T.int64 (Addr.add a37 (Int.toNat n35 * 1))) (sI .i64) (u1 fun (n38 : Int) =>
.ex [.adr] (c1 fun a39 => 0 ≤ n24 ∧ n24 < ((data.len : Nat) : Int) ∧ data.a = some a39) (u1 fun a40 =>
.read True (ld T.int64 (Addr.add a40 (Int.toNat n24 * 1))) (sI .i64) (u1 fun (n41 : Int) =>
.ex [.adr] (c1 fun a42 => 0 ≤ n24 ∧ n24 < ((data.len : Nat) : Int) ∧ data.a = some a42) (u1 fun a43 =>
.actU (st T.int64 (Addr.add a43 (Int.toNat n24 * 1)) (.int .i64 n38)) <|
.ex [.adr] (c1 fun a44 => 0 ≤ n35 ∧ n35 < ((data.len : Nat) : Int) ∧ data.a = some a44) (u1 fun a45 =>
.actU (st T.int64 (Addr.add a45 (Int.toNat n35 * 1)) (.int .i64 n41)) <|
.untick <|
.done 4 []))))))) (u0 <|
.lt (.int .i64) (IntKind.wrap .i64 (n24 + 1)) fun (n46 : Int) =>
.lt (.int .i64) (IntKind.wrap .i64 (n35 - 1)) fun (n47 : Int) =>
.done 3 [.int .i64 n46, .int .i64 n47]))))) (u2 fun (n48 : Int) (n49 : Int) =>
.done 2 [.int .i64 n48, .int .i64 n49]))) (u1 fun (n50 : Int) =>
.lt (.int .i64) (n50) fun (n51 : Int) =>
.done 0 [.int .i64 n51]))
theorem slices_partitionEqualOrdered_int64_eq (data : Sl) (a : Int) (b : Int) (pivot : Int) : decomp P 84 ⟨okFs, []⟩ { cnd := [], blk := [(0, [(9, .one (.int .i64))]), (1, [(9, .one (.int .i64)), (10, .one (.int .i64))]), (2, [(9, .one (.int .i64))]), (4, [(10, .one (.int .i64))])], reg := [(1, []), (3, [(43, .one .bool)]), (5, [(59, .one .bool)]), (8, [])], lps := [(0, [(9, .one (.int .i64)), (10, .one (.int .i64))]), (2, [(9, .one (.int .i64))]), (4, [(10, .one (.int .i64))])] } [.tmp 8] (bodyOf Go.Proofs.Try.f42) [.val (.slice data.a data.len data.cap), .val (.int .i64 a), .val (.int .i64 b), .val (.int .i64 pivot)] = slices_partitionEqualOrdered_int64 data a b pivot := by kernel_rfl
theorem slices_partitionEqualOrdered_int64_calls (data : Sl) (a : Int) (b : Int) (pivot : Int) {w : World} {R : List Value → World → Prop} (h : (slices_partitionEqualOrdered_int64 data a b pivot).wp P (fun _ => True) w fun e vs w' => e = 0 ∧ R vs w') :
    Calls P F.slices_partitionEqualOrdered_int64 #[.slice data.a data.len data.cap, .int .i64 a, .int .i64 b, .int .i64 pivot] w fun e w' => ∃ vs, e = .returned (pack vs) ∧ R vs w' :=
  decomp_sound (isFn_of Go.Proofs.Try.func42 (by kernel_rfl) (by kernel_rfl) (by kernel_rfl)) okFs_ok mix [.val (.slice data.a data.len data.cap), .val (.int .i64 a), .val (.int .i64 b), .val (.int .i64 pivot)] (by rw [slices_partitionEqualOrdered_int64_eq]; exact h)

def slices_partitionOrdered_int64 (data : Sl) (a : Int) (b : Int) (pivot : Int) : Prog :=
.bind 1 [] (
.tick <|
.ex [.adr] (c1 fun a0 => 0 ≤ pivot ∧ pivot < ((data.len : Nat) : Int) ∧ data.a = some a0) (u1 fun a1 =>
.read True (ld T.int64 (Addr.add a1 (Int.toNat pivot * 1))) (sI .i64) (u1 fun (n2 : Int) =>
.ex [.adr] (c1 fun a3 => 0 ≤ a ∧ a < ((data.len : Nat) : Int) ∧ data.a = some a3) (u1 fun a4 =>
.read True (ld T.int64 (Addr.add a4 (Int.toNat a * 1))) (sI .i64) (u1 fun (n5 : Int) =>
.ex [.adr] (c1 fun a6 => 0 ≤ a ∧ a < ((data.len : Nat) : Int) ∧ data.a = some a6) (u1 fun a7 =>
.actU (st T.int64 (Addr.add a7 (Int.toNat a * 1)) (.int .i64 n2)) <|
.ex [.adr] (c1 fun a8 => 0 ≤ pivot ∧ pivot < ((data.len : Nat) : Int) ∧ data.a = some a8) (u1 fun a9 =>
.actU (st T.int64 (Addr.add a9 (Int.toNat pivot * 1)) (.int .i64 n5)) <|
.untick <|
.done 1 []))))))) (u0 <|
.lt (.int .i64) (IntKind.wrap .i64 (a + 1)) fun (n10 : Int) =>
.lt (.int .i64) (IntKind.wrap .i64 (b - 1)) fun (n11 : Int) =>
.bind 1 [.one (.int .i64)] (
.loop 2 [.one (.int .i64)] (n10, ()) (u1 fun (n12 : Int) =>
.bind 3 [.one .bool] (
.tick <|
.ex [.adr] (c1 fun a13 => decide (n12 ≤ n11) = true → 0 ≤ n12 ∧ n12 < ((data.len : Nat) : Int) ∧ data.a = some a13) (u1 fun a14 =>
.read (decide (n12 ≤ n11) = true) (ld T.int64 (Addr.add a14 (Int.toNat n12 * 1))) (sI .i64) (u1 fun (n15 : Int) =>
.ex [.adr] (c1 fun a16 => decide (n12 ≤ n11) = true → 0 ≤ a ∧ a < ((data.len : Nat) : Int) ∧ data.a = some a16) (u1 fun a17 =>
.read (decide (n12 ≤ n11) = true) (ld T.int64 (Addr.add a17 (Int.toNat a * 1))) (sI .i64) (u1 fun (n18 : Int) =>
.ite (decide (n12 ≤ n11)) (
.call F.cmp_Less_int64 [.int .i64 n15, .int .i64 n18] sB (u1 fun b19 =>
.untick <|
.done 3 [.bool b19])) (
.untick <|
.done 3 [.bool false])))))) (u1 fun b20 =>
.ite (b20) (
.lt (.int .i64) (IntKind.wrap .i64 (n12 + 1)) fun (n21 : Int) =>
.done 2 [.int .i64 n21]) (
.done 1 [.int .i64 n12])))) (u1 fun (n22 : Int) =>
.bind 1 [.one (.int .i64)] (
.loop 2 [.one (.int .i64)] (n11, ()) (u1 fun (n23 : Int) =>
.bind 3 [.one .bool] (
.tick <|
.ex [.adr] (c1 fun a24 => decide (n22 ≤ n23) = true → 0 ≤ n23 ∧ n23 < ((data.len : Nat) : Int) ∧ data.a = some a24) (u1 fun a25 =>
.read (decide (n22 ≤ n23) = true) (ld T.int64 (Addr.add a25 (Int.toNat n23 * 1))) (sI .i64) (u1 fun (n26 : Int) =>
.ex [.adr] (c1 fun a27 => decide (n22 ≤ n23) = true → 0 ≤ a ∧ a < ((data.len : Nat) : Int) ∧ data.a = some a27) (u1 fun a28 =>
.read (decide (n22 ≤ n23) = true) (ld T.int64 (Addr.add a28 (Int.toNat a * 1))) (sI .i64) (u1 fun (n29 : Int) =>
.ite (decide (n22 ≤ n23)) (
.call F.cmp_Less_int64 [.int .i64 n26, .int .i64 n29] sB (u1 fun b30 =>
.untick <|
.done 3 [.bool (not b30)])) (
.untick <|
.done 3 [.bool false])))))) (u1 fun b31 =>
.ite (b31) (
.lt (.int .i64) (IntKind.wrap .i64 (n23 - 1)) fun (n32 : Int) =>
.done 2 [.int .i64 n32]) (
.done 1 [.int .i64 n23])))) (u1 fun (n33 : Int) =>
.ite (decide (n22 > n33)) (
.bind 1 [] (
.tick <|
.ex [.adr] (c1 fun a34 => 0 ≤ a ∧ a < ((data.len : Nat) : Int) ∧ data.a = some a34) (u1 fun a35 =>
.read True (ld T.int64 (Addr.add a35 (Int.toNat a * 1))) (sI .i64) (u1 fun (n36 : Int) =>
.ex [.adr] (c1 fun a37 => 0 ≤ n33 ∧ n33 < ((data.len : Nat) : Int) ∧ data.a = some a37) (u1 fun a38 =>
.read True (ld T.int64 (Addr.add a38 (Int.toNat n33 * 1))) (sI .i64) (u1 fun (n39 : Int) =>
.ex [.adr] (c1 fun a40 => 0 ≤ n33 ∧ n33 < ((data.len : Nat) : Int) ∧ data.a = some a40) (u1 fun a41 =>
.actU (st T.int64 (Addr.add a41 (Int.toNat n33 * 1)) (.int .i64 n36)) <|
.ex [.adr] (c1 fun a42 => 0 ≤ a ∧ a < ((data.len : Nat) : Int) ∧ data.a = some a42) (u1 fun a43 =>
.actU (st T.int64 (Addr.add a43 (Int.toNat a * 1)) (.int .i64 n39)) <|
.untick <|
.done 1 []))))))) (u0 <|
.lt (.int .i64) (n33) fun (n44 : Int) =>
.done 0 [.int .i64 n44, .bool true])) (
.bind 1 [] (
.tick <|
.ex [.adr] (c1 fun a45 => 0 ≤ n33 ∧ n33 < ((data.len : Nat) : Int) ∧ data.a = some a45) (u1 fun a46 =>
.read True (ld T.int64 (Addr.add a46 (Int.toNat n33 * 1))) (sI .i64) (u1 fun (n47 : Int) =>
.ex [.adr] (c1 fun a48 => 0 ≤ n22 ∧ n22 < ((data.len : Nat) : Int) ∧ data.a = some a48) (u1 fun a49 =>
.read True (ld T.int64 (Addr.add a49 (Int.toNat n22 * 1))) (sI .i64) (u1 fun (n50 : Int) =>
.ex [.adr] (c1 fun a51 => 0 ≤ n22 ∧ n22 < ((data.len : Nat) : Int) ∧ data.a = some a51) (u1 fun a52 =>
.actU (st T.int64 (Addr.add a52 (Int.toNat n22 * 1)) (.int .i64 n47)) <|
.ex [.adr] (c1 fun a53 => 0 ≤ n33 ∧ n33 < ((data.len : Nat) : Int) ∧ data.a = some a53) (u1 fun a54 =>
.actU (st T.int64 (Addr.add a54 (Int.toNat n33 * 1)) (.int .i64 n50)) <|
.untick <|
.done 1 []))))))) (u0 <|
.lt (.int .i64) (IntKind.wrap .i64 (n22 + 1)) fun (n55 : Int) =>
.lt (.int .i64) (IntKind.wrap .i64 (n33 - 1)) fun (n56 : Int) =>
.bind 1 [.one (.int .i64)] (
.loop 2 [.one (.int .i64), .one (.int .i64)] (n55, (n56, ())) (u2 fun (n57 : Int) (n58 : Int) =>
.bind 3 [.one (.int .i64), .one (.int .i64)] (
.bind 4 [.one (.int .i64)] (
.loop 5 [.one (.int .i64)] (n57, ()) (u1 fun (n59 : Int) =>
.bind 6 [.one .bool] (
.tick <|
.ex [.adr] (c1 fun a60 => decide (n59 ≤ n58) = true → 0 ≤ n59 ∧ n59 < ((data.len : Nat) : Int) ∧ data.a = some a60) (u1 fun a61 =>
.read (decide (n59 ≤ n58) = true) (ld T.int64 (Addr.add a61 (Int.toNat n59 * 1))) (sI .i64) (u1 fun (n62 : Int) =>
.ex [.adr] (c1 fun a63 => decide (n59 ≤ n58) = true → 0 ≤ a ∧ a < ((data.len : Nat) : Int) ∧ data.a = some a63) (u1 fun a64 =>
.read (decide (n59 ≤ n58) = true) (ld T.int64 (Addr.add a64 (Int.toNat a * 1))) (sI .i64) (u1 fun (n65 : Int) =>
.ite (decide (n59 ≤ n58)) (
.call F.cmp_Less_int64 [.int .i64 n62, .int .i64 n65] sB (u1 fun b66 =>
.untick <|
.done 6 [.bool b66])) (
.untick <|
.done 6 [.bool false])))))) (u1 fun b67 =>
.ite (b67) (
.lt (.int .i64) (IntKind.wrap .i64 (n59 + 1)) fun (n68 : Int) =>
.done 5 [.int .i64 n68]) (
.done 4 [.int .i64 n59])))) (u1 fun (n69 : Int) =>
.bind 4 [.one (.int .i64)] (
.loop 5 [.one (.int .i64)] (n58, ()) (u1 fun (n70 : Int) =>
.bind 6 [.one .bool] (
.tick <|
.ex [.adr] (c1 fun a71 => decide (n69 ≤ n70) = true → 0 ≤ n70 ∧ n70 < ((data.len : Nat) : Int) ∧ data.a = some a71) (u1 fun a72 =>
.read (decide (n69 ≤ n70) = true) (ld T.int64 (Addr.add a72 (Int.toNat n70 * 1))) (sI .i64) (u1 fun (n73 : Int) =>
.ex [.adr] (c1 fun a74 => decide (n69 ≤ n70) = true → 0 ≤ a ∧ a < ((data.len : Nat) : Int) ∧ data.a = some a74) (u1 fun a75 =>
.read (decide (n69 ≤ n70) = true) (ld T.int64 (Addr.add a75 (Int.toNat a * 1))) (sI .i64) (u1 fun (n76 : Int) =>
.ite (decide (n69 ≤ n70)) (
.call F.cmp_Less_int64 [.int .i64 n73, .int .i64 n76] sB (u1 fun b77 =>
.untick <|
.done 6 [.bool (not b77)])) (
.untick <|
.done 6 [.bool false])))))) (u1 fun b78 =>
.ite (b78) (
.lt (.int .i64) (IntKind.wrap .i64 (n70 - 1)) fun (n79 : Int) =>
.done 5 [.int .i64 n79]) (
.done 4 [.int .i64 n70])))) (u1 fun (n80 : Int) =>
.ite (decide (n69 > n80)) (
.done 1 [.int .i64 n80]) (
.bind 4 [] (
.tick <|
.ex [.adr] (c1 fun a81 => 0 ≤ n80 ∧ n80 < ((data.len : Nat) : Int) ∧ data.a = some a81) (u1 fun a82 =>
.read True (ld T.int64 (Addr.add a82 (Int.toNat n80 * 1))) (sI .i64) (u1 fun (n83 : Int) =>
.ex [.adr] (c1 fun a84 => 0 ≤ n69 ∧ n69 < ((data.len : Nat) : Int) ∧ data.a = some a84) (u1 fun a85 =>
.read True (ld T.int64 (Addr.add a85 (Int.toNat n69 * 1))) (sI .i64) (u1 fun (n86 : Int) =>
.ex [.adr] (c1 fun a87 => 0 ≤ n69 ∧ n69 < ((data.len : Nat) : Int) ∧ data.a = some a87) (u1 fun a88 =>
.actU (st T.int64 (Addr.add a88 (Int.toNat n69 * 1)) (.int .i64 n83)) <|
.ex [.adr] (c1 fun a89 => 0 ≤ n80 ∧ n80 < ((data.len : Nat) : Int) ∧ data.a = some a89) (u1 fun a90 =>
.actU (st T.int64 (Addr.add a90 (Int.toNat n80 * 1)) (.int .i64 n86)) <|
.untick <|
.done 4 []))))))) (u0 <|
.lt (.int .i64) (IntKind.wrap .i64 (n69 + 1)) fun (n91 : Int) =>
.lt (.int .i64) (IntKind.wrap .i64 (n80 - 1)) fun (n92 : Int) =>
.done 3 [.int .i64 n91, .int .i64 n92]))))) (u2 fun (n93 : Int) (n94 : Int) =>
.done 2 [.int .i64 n93, .int .i64 n94]))) (u1 fun (n95 : Int) =>
.bind 1 [] (
.tick <|
.ex [.adr] (c1 fun a96 => 0 ≤ a ∧ a < ((data.len : Nat) : Int) ∧ data.a = some a96) (u1 fun a97 =>
.read True (ld T.int64 (Addr.add a97 (Int.toNat a * 1))) (sI .i64) (u1 fun (n98 : Int) =>
.ex [.adr] (c1 fun a99 => 0 ≤ n95 ∧ n95 < ((data.len : Nat) : Int) ∧ data.a = some a99) (u1 fun a100 =>
.read True (ld T.int64 (Addr.add a100 (Int.toNat n95 * 1))) (sI .i64) (u1 fun (n101 : Int) =>
.ex [.adr] (c1 fun a102 => 0 ≤ n95 ∧ n95 < ((data.len : Nat) : Int) ∧ data.a = some a102) (u1 fun a103 =>
.actU (st T.int64 (Addr.add a103 (Int.toNat n95 * 1)) (.int .i64 n98)) <|
.ex [.adr] (c1 fun a104 => 0 ≤ a ∧ a < ((data.len : Nat) : Int) ∧ data.a = some a104) (u1 fun a105 =>
.actU (st T.int64 (Addr.add a105 (Int.toNat a * 1)) (.int .i64 n101)) <|
.untick <|
.done 1 []))))))) (u0 <|
.lt (.int .i64) (n95) fun (n106 : Int) =>
.done 0 [.int .i64 n106, .bool false])))))))
theorem slices_partitionOrdered_int64_eq (data : Sl) (a : Int) (b : Int) (pivot : Int) : decomp P 168 ⟨okFs, []⟩ { cnd := [], blk := [(0, [(10, .one (.int .i64))]), (2, [(11, .one (.int .i64))]), (4, [(11, .one (.int .i64))]), (5, [(10, .one (.int .i64)), (11, .one (.int .i64))]), (6, [(10, .one (.int .i64))]), (8, [(11, .one (.int .i64))])], reg := [(1, []), (3, [(43, .one .bool)]), (5, [(60, .one .bool)]), (8, []), (10, []), (13, [(112, .one .bool)]), (15, [(129, .one .bool)]), (18, []), (21, [])], lps := [(0, [(10, .one (.int .i64))]), (2, [(11, .one (.int .i64))]), (4, [(10, .one (.int .i64)), (11, .one (.int .i64))]), (6, [(10, .one (.int .i64))]), (8, [(11, .one (.int .i64))])] } [.tmp 8, .tmp 9] (bodyOf Go.Proofs.Try.f43) [.val (.slice data.a data.len data.cap), .val (.int .i64 a), .val (.int .i64 b), .val (.int .i64 pivot)] = slices_partitionOrdered_int64 data a b pivot := by kernel_rfl
theorem slices_partitionOrdered_int64_calls (data : Sl) (a : Int) (b : Int) (pivot : Int) {w : World} {R : List Value → World → Prop} (h : (slices_partitionOrdered_int64 data a b pivot).wp P (fun _ => True) w fun e vs w' => e = 0 ∧ R vs w') :
    Calls P F.slices_partitionOrdered_int64 #[.slice data.a data.len data.cap, .int .i64 a, .int .i64 b, .int .i64 pivot] w fun e w' => ∃ vs, e = .returned (pack vs) ∧ R vs w' :=
  decomp_sound (isFn_of Go.Proofs.Try.func43 (by kernel_rfl) (by kernel_rfl) (by kernel_rfl)) okFs_ok mix [.val (.slice data.a data.len data.cap), .val (.int .i64 a), .val (.int .i64 b), .val (.int .i64 pivot)] (by rw [slices_partitionOrdered_int64_eq]; exact h)

def math_bits_Len32 (x : Int) : Prog :=
.bind 1 [.one (.int .u32), .one (.int .i64)] (
.ite (decide (x ≥ 65536)) (
.lt (.int .u32) (Int.fdiv x 65536) fun (n0 : Int) =>
.done 1 [.int .u32 n0, .int .i64 16]) (
.done 1 [.int .u32 x, .int .i64 0])) (u2 fun (n1 : Int) (n2 : Int) =>
.bind 1 [.one (.int .u32), .one (.int .i64)] (
.ite (decide (n1 ≥ 256)) (
.lt (.int .u32) (Int.fdiv n1 256) fun (n3 : Int) =>
.lt (.int .i64) (IntKind.wrap .i64 (n2 + 8)) fun (n4 : Int) =>
.done 1 [.int .u32 n3, .int .i64 n4]) (
.done 1 [.int .u32 n1, .int .i64 n2])) (u2 fun (n5 : Int) (n6 : Int) =>
.must (0 ≤ IntKind.wrap .u8 n5 ∧ IntKind.wrap .u8 n5 < 256) <|
.lt (.int .i64) (IntKind.wrap .i64 (n6 + IntKind.wrap .i64 (bt (ByteArray.mk #[0, 1, 2, 2, 3, 3, 3, 3, 4, 4, 4, 4, 4, 4, 4, 4, 5, 5, 5, 5, 5, 5, 5, 5, 5, 5, 5, 5, 5, 5, 5, 5, 6, 6, 6, 6, 6, 6, 6, 6, 6, 6, 6, 6, 6, 6, 6, 6, 6, 6, 6, 6, 6, 6, 6, 6, 6, 6, 6, 6, 6, 6, 6, 6, 7, 7, 7, 7, 7, 7, 7, 7, 7, 7, 7, 7, 7, 7, 7, 7, 7, 7, 7, 7, 7, 7, 7, 7, 7, 7, 7, 7, 7, 7, 7, 7, 7, 7, 7, 7, 7, 7, 7, 7, 7, 7, 7, 7, 7, 7, 7, 7, 7, 7, 7, 7, 7, 7, 7, 7, 7, 7, 7, 7, 7, 7, 7, 7, 8, 8, 8, 8, 8, 8, 8, 8, 8, 8, 8, 8, 8, 8, 8, 8, 8, 8, 8, 8, 8, 8, 8, 8, 8, 8, 8, 8, 8, 8, 8, 8, 8, 8, 8, 8, 8, 8, 8, 8, 8, 8, 8, 8, 8, 8, 8, 8, 8, 8, 8, 8, 8, 8, 8, 8, 8, 8, 8, 8, 8, 8, 8, 8, 8, 8, 8, 8, 8, 8, 8, 8, 8, 8, 8, 8, 8, 8, 8, 8, 8, 8, 8, 8, 8, 8, 8, 8, 8, 8, 8, 8, 8, 8, 8, 8, 8, 8, 8, 8, 8, 8, 8, 8, 8, 8, 8, 8, 8, 8, 8, 8, 8, 8, 8, 8, 8, 8, 8, 8, 8, 8, 8, 8, 8, 8, 8, 8]) (IntKind.wrap .u8 n5)))) fun (n7 : Int) =>
.done 0 [.int .i64 n7]))
theorem math_bits_Len32_eq (x : Int) : decomp P 19 ⟨okFs, []⟩ { cnd := [(413700, [(0, .one (.int .u32)), (2, .one (.int .i64))]), (31477768, [(0, .one (.int .u32)), (2, .one (.int .i64))])], blk := [], reg := [], lps := [] } [.tmp 2] (bodyOf Go.Proofs.Try.f44) [.val (.int .u32 x)] = math_bits_Len32 x := by kernel_rfl
theorem math_bits_Len32_calls (x : Int) {w : World} {R : List Value → World → Prop} (h : (math_bits_Len32 x).wp P (fun _ => True) w fun e vs w' => e = 0 ∧ R vs w') :
    Calls P F.math_bits_Len32 #[.int .u32 x] w fun e w' => ∃ vs, e = .returned (pack vs) ∧ R vs w' :=
  decomp_sound (isFn_of Go.Proofs.Try.func44 (by kernel_rfl) (by kernel_rfl) (by kernel_rfl)) okFs_ok mix [.val (.int .u32 x)] (by rw [math_bits_Len32_eq]; exact h)

def math_bits_Len64 (x : Int) : Prog :=
.bind 1 [.one (.int .u64), .one (.int .i64)] (
.ite (decide (x ≥ 4294967296)) (
.lt (.int .u64) (Int.fdiv x 4294967296) fun (n0 : Int) =>
.done 1 [.int .u64 n0, .int .i64 32]) (
.done 1 [.int .u64 x, .int .i64 0])) (u2 fun (n1 : Int) (n2 : Int) =>
.bind 1 [.one (.int .u64), .one (.int .i64)] (
.ite (decide (n1 ≥ 65536)) (
.lt (.int .u64) (Int.fdiv n1 65536) fun (n3 : Int) =>
.lt (.int .i64) (IntKind.wrap .i64 (n2 + 16)) fun (n4 : Int) =>
.done 1 [.int .u64 n3, .int .i64 n4]) (
.done 1 [.int .u64 n1, .int .i64 n2])) (u2 fun (n5 : Int) (n6 : Int) =>
.bind 1 [.one (.int .u64), .one (.int .i64)] (
.ite (decide (n5 ≥ 256)) (
.lt (.int .u64) (Int.fdiv n5 256) fun (n7 : Int) =>
.lt (.int .i64) (IntKind.wrap .i64 (n6 + 8)) fun (n8 : Int) =>
.done 1 [.int .u64 n7, .int .i64 n8]) (
.done 1 [.int .u64 n5, .int .i64 n6])) (u2 fun (n9 : Int) (n10 : Int) =>
.must (0 ≤ IntKind.wrap .u8 n9 ∧ IntKind.wrap .u8 n9 < 256) <|
.lt (.int .i64) (IntKind.wrap .i64 (n10 + IntKind.wrap .i64 (bt (ByteArray.mk #[0, 1, 2, 2, 3, 3, 3, 3, 4, 4, 4, 4, 4, 4, 4, 4, 5, 5, 5, 5, 5, 5, 5, 5, 5, 5, 5, 5, 5, 5, 5, 5, 6, 6, 6, 6, 6, 6, 6, 6, 6, 6, 6, 6, 6, 6, 6, 6, 6, 6, 6, 6, 6, 6, 6, 6, 6, 6, 6, 6, 6, 6, 6, 6, 7, 7, 7, 7, 7, 7, 7, 7, 7, 7, 7, 7, 7, 7, 7, 7, 7, 7, 7, 7, 7, 7, 7, 7, 7, 7, 7, 7, 7, 7, 7, 7, 7, 7, 7, 7, 7, 7, 7, 7, 7, 7, 7, 7, 7, 7, 7, 7, 7, 7, 7, 7, 7, 7, 7, 7, 7, 7, 7, 7, 7, 7, 7, 7, 8, 8, 8, 8, 8, 8, 8, 8, 8, 8, 8, 8, 8, 8, 8, 8, 8, 8, 8, 8, 8, 8, 8, 8, 8, 8, 8, 8, 8, 8, 8, 8, 8, 8, 8, 8, 8, 8, 8, 8, 8, 8, 8, 8, 8, 8, 8, 8, 8, 8, 8, 8, 8, 8, 8, 8, 8, 8, 8, 8, 8, 8, 8, 8, 8, 8, 8, 8, 8, 8, 8, 8, 8, 8, 8, 8, 8, 8, 8, 8, 8, 8, 8, 8, 8, 8, 8, 8, 8, 8, 8, 8, 8, 8, 8, 8, 8, 8, 8, 8, 8, 8, 8, 8, 8, 8, 8, 8, 8, 8, 8, 8, 8, 8, 8, 8, 8, 8, 8, 8, 8, 8, 8, 8, 8, 8, 8, 8]) (IntKind.wrap .u8 n9)))) fun (n11 : Int) =>
.done 0 [.int .i64 n11])))
theorem math_bits_Len64_eq (x : Int) : decomp P 25 ⟨okFs, []⟩ { cnd := [(413700, [(0, .one (.int .u64)), (2, .one (.int .i64))]), (31477768, [(0, .one (.int .u64)), (2, .one (.int .i64))]), (2013286414, [(0, .one (.int .u64)), (2, .one (.int .i64))])], blk := [], reg := [], lps := [] } [.tmp 2] (bodyOf Go.Proofs.Try.f45) [.val (.int .u64 x)] = math_bits_Len64 x := by kernel_rfl
theorem math_bits_Len64_calls (x : Int) {w : World} {R : List Value → World → Prop} (h : (math_bits_Len64 x).wp P (fun _ => True) w fun e vs w' => e = 0 ∧ R vs w') :
    Calls P F.math_bits_Len64 #[.int .u64 x] w fun e w' => ∃ vs, e = .returned (pack vs) ∧ R vs w' :=
  decomp_sound (isFn_of Go.Proofs.Try.func45 (by kernel_rfl) (by kernel_rfl) (by kernel_rfl)) okFs_ok mix [.val (.int .u64 x)] (by rw [math_bits_Len64_eq]; exact h)

def slices_siftDownOrdered_int64 (data : Sl) (lo : Int) (hi : Int) (first : Int) : Prog :=
.lt (.int .i64) (lo) fun (n0 : Int) =>
.bind 1 [] (
.loop 2 [.one (.int .i64)] (n0, ()) (u1 fun (n1 : Int) =>
.lt (.int .i64) (IntKind.wrap .i64 (IntKind.wrap .i64 (2 * n1) + 1)) fun (n2 : Int) =>
.ite (decide (n2 ≥ hi)) (
.done 1 []) (
.bind 3 [.one .bool] (
.tick <|
.ex [.adr] (c1 fun a3 => decide (IntKind.wrap .i64 (n2 + 1) < hi) = true → 0 ≤ IntKind.wrap .i64 (first + n2) ∧ IntKind.wrap .i64 (first + n2) < ((data.len : Nat) : Int) ∧ data.a = some a3) (u1 fun a4 =>
.read (decide (IntKind.wrap .i64 (n2 + 1) < hi) = true) (ld T.int64 (Addr.add a4 (Int.toNat (IntKind.wrap .i64 (first + n2)) * 1))) (sI .i64) (u1 fun (n5 : Int) =>
.ex [.adr] (c1 fun a6 => decide (IntKind.wrap .i64 (n2 + 1) < hi) = true → 0 ≤ IntKind.wrap .i64 (IntKind.wrap .i64 (first + n2) + 1) ∧ IntKind.wrap .i64 (IntKind.wrap .i64 (first + n2) + 1) < ((data.len : Nat) : Int) ∧ data.a = some a6) (u1 fun a7 =>
.read (decide (IntKind.wrap .i64 (n2 + 1) < hi) = true) (ld T.int64 (Addr.add a7 (Int.toNat (IntKind.wrap .i64 (IntKind.wrap .i64 (first + n2) + 1)) * 1))) (sI .i64) (u1 fun (n8 : Int) =>
.ite (decide (IntKind.wrap .i64 (n2 + 1) < hi)) (
.call F.cmp_Less_int64 [.int .i64 n5, .int .i64 n8] sB (u1 fun b9 =>
.untick <|
.done 3 [.bool b9])) (
.untick <|
.done 3 [.bool false])))))) (u1 fun b10 =>
.bind 3 [.one (.int .i64)] (
.ite (b10) (
.lt (.int .i64) (IntKind.wrap .i64 (n2 + 1)) fun (n11 : Int) =>
.done 3 [.int .i64 n11]) (
.done 3 [.int .i64 n2])) (u1 fun (n12 : Int) =>
.tick <|
.ex [.adr] (c1 fun a13 => 0 ≤ IntKind.wrap .i64 (first + n1) ∧ IntKind.wrap .i64 (first + n1) < ((data.len : Nat) : Int) ∧ data.a = some a13) (u1 fun a14 =>
.read True (ld T.int64 (Addr.add a14 (Int.toNat (IntKind.wrap .i64 (first + n1)) * 1))) (sI .i64) (u1 fun (n15 : Int) =>
.ex [.adr] (c1 fun a16 => 0 ≤ IntKind.wrap .i64 (first + n12) ∧ IntKind.wrap .i64 (first + n12) < ((data.len : Nat) : Int) ∧ data.a = some a16) (u1 fun a17 =>
.read True (ld T.int64 (Addr.add a17 (Int.toNat (IntKind.wrap .i64 (first + n12)) * 1))) (sI .i64) (u1 fun (n18 : Int) =>
.call F.cmp_Less_int64 [.int .i64 n15, .int .i64 n18] sB (u1 fun b19 =>
.untick <|
.ite (not b19) (
.done 0 []) (
.bind 3 [] (
.tick <|
.ex [.adr] (c1 fun a20 => 0 ≤ IntKind.wrap .i64 (first + n12) ∧ IntKind.wrap .i64 (first + n12) < ((data.len : Nat) : Int) ∧ data.a = some a20) (u1 fun a21 =>
.read True (ld T.int64 (Addr.add a21 (Int.toNat (IntKind.wrap .i64 (first + n12)) * 1))) (sI .i64) (u1 fun (n22 : Int) =>
.ex [.adr] (c1 fun a23 => 0 ≤ IntKind.wrap .i64 (first + n1) ∧ IntKind.wrap .i64 (first + n1) < ((data.len : Nat) : Int) ∧ data.a = some a23) (u1 fun a24 =>
.read True (ld T.int64 (Addr.add a24 (Int.toNat (IntKind.wrap .i64 (first + n1)) * 1))) (sI .i64) (u1 fun (n25 : Int) =>
.ex [.adr] (c1 fun a26 => 0 ≤ IntKind.wrap .i64 (first + n1) ∧ IntKind.wrap .i64 (first + n1) < ((data.len : Nat) : Int) ∧ data.a = some a26) (u1 fun a27 =>
.actU (st T.int64 (Addr.add a27 (Int.toNat (IntKind.wrap .i64 (first + n1)) * 1)) (.int .i64 n22)) <|
.ex [.adr] (c1 fun a28 => 0 ≤ IntKind.wrap .i64 (first + n12) ∧ IntKind.wrap .i64 (first + n12) < ((data.len : Nat) : Int) ∧ data.a = some a28) (u1 fun a29 =>
.actU (st T.int64 (Addr.add a29 (Int.toNat (IntKind.wrap .i64 (first + n12)) * 1)) (.int .i64 n25)) <|
.untick <|
.done 3 []))))))) (u0 <|
.lt (.int .i64) (n12) fun (n30 : Int) =>
.done 2 [.int .i64 n30])))))))))))) (u0 <|
.done 0 [])
theorem slices_siftDownOrdered_int64_eq (data : Sl) (lo : Int) (hi : Int) (first : Int) : decomp P 76 ⟨okFs, []⟩ { cnd := [(1688849862361124, [(9, .one (.int .i64))])], blk := [(0, [])], reg := [(3, [(36, .one .bool)]), (6, [])], lps := [(0, [(8, .one (.int .i64))])] } [] (bodyOf Go.Proofs.Try.f46) [.val (.slice data.a data.len data.cap), .val (.int .i64 lo), .val (.int .i64 hi), .val (.int .i64 first)] = slices_siftDownOrdered_int64 data lo hi first := by kernel_rfl
theorem slices_siftDownOrdered_int64_calls (data : Sl) (lo : Int) (hi : Int) (first : Int) {w : World} {R : List Value → World → Prop} (h : (slices_siftDownOrdered_int64 data lo hi first).wp P (fun _ => True) w fun e vs w' => e = 0 ∧ R vs w') :
    Calls P F.slices_siftDownOrdered_int64 #[.slice data.a data.len data.cap, .int .i64 lo, .int .i64 hi, .int .i64 first] w fun e w' => ∃ vs, e = .returned (pack vs) ∧ R vs w' :=
  decomp_sound (isFn_of Go.Proofs.Try.func46 (by kernel_rfl) (by kernel_rfl) (by kernel_rfl)) okFs_ok mix [.val (.slice data.a data.len data.cap), .val (.int .i64 lo), .val (.int .i64 hi), .val (.int .i64 first)] (by rw [slices_siftDownOrdered_int64_eq]; exact h)

def slices_nextPowerOfTwo (length : Int) : Prog :=
.call F.math_bits_Len [.int .u64 (IntKind.wrap .u64 length)] (sI .i64) (u1 fun (n0 : Int) =>
.must (0 ≤ n0) <|
.lt (.int .u64) (IntKind.wrap .u64 (1 * 2 ^ min (Int.toNat n0) 64)) fun (n1 : Int) =>
.done 0 [.int .u64 n1])
theorem slices_nextPowerOfTwo_eq (length : Int) : decomp P 7 ⟨okFs, []⟩ { cnd := [], blk := [], reg := [], lps := [] } [.tmp 2] (bodyOf Go.Proofs.Try.f47) [.val (.int .i64 length)] = slices_nextPowerOfTwo length := by kernel_rfl
theorem slices_nextPowerOfTwo_calls (length : Int) {w : World} {R : List Value → World → Prop} (h : (slices_nextPowerOfTwo length).wp P (fun _ => True) w fun e vs w' => e = 0 ∧ R vs w') :
    Calls P F.slices_nextPowerOfTwo #[.int .i64 length] w fun e w' => ∃ vs, e = .returned (pack vs) ∧ R vs w' :=
  decomp_sound (isFn_of Go.Proofs.Try.func47 (by kernel_rfl) (by kernel_rfl) (by kernel_rfl)) okFs_ok mix [.val (.int .i64 length)] (by rw [slices_nextPowerOfTwo_eq]; exact h)

def slices_xorshift_Next (r : Option Addr) : Prog :=
.tick <|
.ex [.adr] (c1 fun a0 => r = some a0) (u1 fun a1 =>
.read True (ld T.slices_xorshift a1) (sI .u64) (u1 fun (n2 : Int) =>
.ex [.adr] (c1 fun a3 => r = some a3) (u1 fun a4 =>
.read True (ld T.slices_xorshift a4) (sI .u64) (u1 fun (n5 : Int) =>
.ex [.adr] (c1 fun a6 => r = some a6) (u1 fun a7 =>
.actU (st T.slices_xorshift a7 (.int .u64 (IntKind.wrap .u64 (((BitVec.toNat (BitVec.ofInt 64 n2 ^^^ BitVec.ofInt 64 (IntKind.wrap .u64 (n5 * 8192))) : Nat) : Int))))) <|
.untick <|
.tick <|
.ex [.adr] (c1 fun a8 => r = some a8) (u1 fun a9 =>
.read True (ld T.slices_xorshift a9) (sI .u64) (u1 fun (n10 : Int) =>
.ex [.adr] (c1 fun a11 => r = some a11) (u1 fun a12 =>
.read True (ld T.slices_xorshift a12) (sI .u64) (u1 fun (n13 : Int) =>
.ex [.adr] (c1 fun a14 => r = some a14) (u1 fun a15 =>
.actU (st T.slices_xorshift a15 (.int .u64 (IntKind.wrap .u64 (((BitVec.toNat (BitVec.ofInt 64 n10 ^^^ BitVec.ofInt 64 (Int.fdiv n13 128)) : Nat) : Int))))) <|
.untick <|
.tick <|
.ex [.adr] (c1 fun a16 => r = some a16) (u1 fun a17 =>
.read True (ld T.slices_xorshift a17) (sI .u64) (u1 fun (n18 : Int) =>
.ex [.adr] (c1 fun a19 => r = some a19) (u1 fun a20 =>
.read True (ld T.slices_xorshift a20) (sI .u64) (u1 fun (n21 : Int) =>
.ex [.adr] (c1 fun a22 => r = some a22) (u1 fun a23 =>
.actU (st T.slices_xorshift a23 (.int .u64 (IntKind.wrap .u64 (((BitVec.toNat (BitVec.ofInt 64 n18 ^^^ BitVec.ofInt 64 (IntKind.wrap .u64 (n21 * 131072))) : Nat) : Int))))) <|
.untick <|
.ex [.adr] (c1 fun a24 => r = some a24) (u1 fun a25 =>
.read True (ld T.slices_xorshift a25) (sI .u64) (u1 fun (n26 : Int) =>
.lt (.int .u64) (n26) fun (n27 : Int) =>
.done 0 [.int .u64 n27])))))))))))))))))
theorem slices_xorshift_Next_eq (r : Option Addr) : decomp P 33 ⟨okFs, []⟩ { cnd := [], blk := [], reg := [], lps := [] } [.tmp 2] (bodyOf Go.Proofs.Try.f48) [.val (.pointer r)] = slices_xorshift_Next r := by kernel_rfl
theorem slices_xorshift_Next_calls (r : Option Addr) {w : World} {R : List Value → World → Prop} (h : (slices_xorshift_Next r).wp P (fun _ => True) w fun e vs w' => e = 0 ∧ R vs w') :
    Calls P F.slices_xorshift_Next #[.pointer r] w fun e w' => ∃ vs, e = .returned (pack vs) ∧ R vs w' :=
  decomp_sound (isFn_of Go.Proofs.Try.func48 (by kernel_rfl) (by kernel_rfl) (by kernel_rfl)) okFs_ok mix [.val (.pointer r)] (by rw [slices_xorshift_Next_eq]; exact h)

def slices_medianAdjacentOrdered_int64 (data : Sl) (a : Int) (swaps : Option Addr) : Prog :=
.call F.slices_medianOrdered_int64 [data.v, .int .i64 (IntKind.wrap .i64 (a - 1)), .int .i64 a, .int .i64 (IntKind.wrap .i64 (a + 1)), .pointer swaps] (sI .i64) (u1 fun (n0 : Int) =>
.lt (.int .i64) (n0) fun (n1 : Int) =>
.done 0 [.int .i64 n1])
theorem slices_medianAdjacentOrdered_int64_eq (data : Sl) (a : Int) (swaps : Option Addr) : decomp P 15 ⟨okFs, []⟩ { cnd := [], blk := [], reg := [], lps := [] } [.tmp 6] (bodyOf Go.Proofs.Try.f49) [.val (.slice data.a data.len data.cap), .val (.int .i64 a), .val (.pointer swaps)] = slices_medianAdjacentOrdered_int64 data a swaps := by kernel_rfl
theorem slices_medianAdjacentOrdered_int64_calls (data : Sl) (a : Int) (swaps : Option Addr) {w : World} {R : List Value → World → Prop} (h : (slices_medianAdjacentOrdered_int64 data a swaps).wp P (fun _ => True) w fun e vs w' => e = 0 ∧ R vs w') :
    Calls P F.slices_medianAdjacentOrdered_int64 #[.slice data.a data.len data.cap, .int .i64 a, .pointer swaps] w fun e w' => ∃ vs, e = .returned (pack vs) ∧ R vs w' :=
  decomp_sound (isFn_of Go.Proofs.Try.func49 (by kernel_rfl) (by kernel_rfl) (by kernel_rfl)) okFs_ok mix [.val (.slice data.a data.len data.cap), .val (.int .i64 a), .val (.pointer swaps)] (by rw [slices_medianAdjacentOrdered_int64_eq]; exact h)

def slices_medianOrdered_int64 (data : Sl) (a : Int) (b : Int) (c : Int) (swaps : Option Addr) : Prog :=
.call F.slices_order2Ordered_int64 [data.v, .int .i64 a, .int .i64 b, .pointer swaps] (.tup [.one (.int .i64), .one (.int .i64)]) (u2 fun (n0 : Int) (n1 : Int) =>
.lt (.int .i64) (n0) fun (n2 : Int) =>
.lt (.int .i64) (n1) fun (n3 : Int) =>
.call F.slices_order2Ordered_int64 [data.v, .int .i64 n3, .int .i64 c, .pointer swaps] (.tup [.one (.int .i64), .one (.int .i64)]) (u2 fun (n4 : Int) (n5 : Int) =>
.lt (.int .i64) (n4) fun (n6 : Int) =>
.lt (.int .i64) (n5) fun (n7 : Int) =>
.call F.slices_order2Ordered_int64 [data.v, .int .i64 n2, .int .i64 n6, .pointer swaps] (.tup [.one (.int .i64), .one (.int .i64)]) (u2 fun (n8 : Int) (n9 : Int) =>
.lt (.int .i64) (n8) fun (n10 : Int) =>
.lt (.int .i64) (n9) fun (n11 : Int) =>
.lt (.int .i64) (n11) fun (n12 : Int) =>
.done 0 [.int .i64 n12])))
theorem slices_medianOrdered_int64_eq (data : Sl) (a : Int) (b : Int) (c : Int) (swaps : Option Addr) : decomp P 36 ⟨okFs, []⟩ { cnd := [], blk := [], reg := [], lps := [] } [.tmp 10] (bodyOf Go.Proofs.Try.f50) [.val (.slice data.a data.len data.cap), .val (.int .i64 a), .val (.int .i64 b), .val (.int .i64 c), .val (.pointer swaps)] = slices_medianOrdered_int64 data a b c swaps := by kernel_rfl
theorem slices_medianOrdered_int64_calls (data : Sl) (a : Int) (b : Int) (c : Int) (swaps : Option Addr) {w : World} {R : List Value → World → Prop} (h : (slices_medianOrdered_int64 data a b c swaps).wp P (fun _ => True) w fun e vs w' => e = 0 ∧ R vs w') :
    Calls P F.slices_medianOrdered_int64 #[.slice data.a data.len data.cap, .int .i64 a, .int .i64 b, .int .i64 c, .pointer swaps] w fun e w' => ∃ vs, e = .returned (pack vs) ∧ R vs w' :=
  decomp_sound (isFn_of Go.Proofs.Try.func50 (by kernel_rfl) (by kernel_rfl) (by kernel_rfl)) okFs_ok mix [.val (.slice data.a data.len data.cap), .val (.int .i64 a), .val (.int .i64 b), .val (.int .i64 c), .val (.pointer swaps)] (by rw [slices_medianOrdered_int64_eq]; exact h)

def cmp_isNaN_int64 (x : Int) : Prog :=
.lt (.bool) (x != x) fun b0 =>
.done 0 [.bool b0]
theorem cmp_isNaN_int64_eq (x : Int) : decomp P 6 ⟨okFs, []⟩ { cnd := [], blk := [], reg := [], lps := [] } [.tmp 2] (bodyOf Go.Proofs.Try.f51) [.val (.int .i64 x)] = cmp_isNaN_int64 x := by kernel_rfl
theorem cmp_isNaN_int64_calls (x : Int) {w : World} {R : List Value → World → Prop} (h : (cmp_isNaN_int64 x).wp P (fun _ => True) w fun e vs w' => e = 0 ∧ R vs w') :
    Calls P F.cmp_isNaN_int64 #[.int .i64 x] w fun e w' => ∃ vs, e = .returned (pack vs) ∧ R vs w' :=
  decomp_sound (isFn_of Go.Proofs.Try.func51 (by kernel_rfl) (by kernel_rfl) (by kernel_rfl)) okFs_ok mix [.val (.int .i64 x)] (by rw [cmp_isNaN_int64_eq]; exact h)

def slices_order2Ordered_int64 (data : Sl) (a : Int) (b : Int) (swaps : Option Addr) : Prog :=
.tick <|
.ex [.adr] (c1 fun a0 => 0 ≤ b ∧ b < ((data.len : Nat) : Int) ∧ data.a = some a0) (u1 fun a1 =>
.read True (ld T.int64 (Addr.add a1 (Int.toNat b * 1))) (sI .i64) (u1 fun (n2 : Int) =>
.ex [.adr] (c1 fun a3 => 0 ≤ a ∧ a < ((data.len : Nat) : Int) ∧ data.a = some a3) (u1 fun a4 =>
.read True (ld T.int64 (Addr.add a4 (Int.toNat a * 1))) (sI .i64) (u1 fun (n5 : Int) =>
.call F.cmp_Less_int64 [.int .i64 n2, .int .i64 n5] sB (u1 fun b6 =>
.untick <|
.ite (b6) (
.ex [.adr] (c1 fun a7 => swaps = some a7) (u1 fun a8 =>
.read True (ld T.int a8) (sI .i64) (u1 fun (n9 : Int) =>
.ex [.adr] (c1 fun a10 => swaps = some a10) (u1 fun a11 =>
.actU (st T.int a11 (.int .i64 (IntKind.wrap .i64 (n9 + 1)))) <|
.lt (.int .i64) (b) fun (n12 : Int) =>
.lt (.int .i64) (a) fun (n13 : Int) =>
.done 0 [.int .i64 n12, .int .i64 n13])))) (
.lt (.int .i64) (a) fun (n14 : Int) =>
.lt (.int .i64) (b) fun (n15 : Int) =>
.done 0 [.int .i64 n14, .int .i64 n15]))))))
theorem slices_order2Ordered_int64_eq (data : Sl) (a : Int) (b : Int) (swaps : Option Addr) : decomp P 28 ⟨okFs, []⟩ { cnd := [], blk := [], reg := [], lps := [] } [.tmp 8, .tmp 9] (bodyOf Go.Proofs.Try.f52) [.val (.slice data.a data.len data.cap), .val (.int .i64 a), .val (.int .i64 b), .val (.pointer swaps)] = slices_order2Ordered_int64 data a b swaps := by kernel_rfl
theorem slices_order2Ordered_int64_calls (data : Sl) (a : Int) (b : Int) (swaps : Option Addr) {w : World} {R : List Value → World → Prop} (h : (slices_order2Ordered_int64 data a b swaps).wp P (fun _ => True) w fun e vs w' => e = 0 ∧ R vs w') :
    Calls P F.slices_order2Ordered_int64 #[.slice data.a data.len data.cap, .int .i64 a, .int .i64 b, .pointer swaps] w fun e w' => ∃ vs, e = .returned (pack vs) ∧ R vs w' :=
  decomp_sound (isFn_of Go.Proofs.Try.func52 (by kernel_rfl) (by kernel_rfl) (by kernel_rfl)) okFs_ok mix [.val (.slice data.a data.len data.cap), .val (.int .i64 a), .val (.int .i64 b), .val (.pointer swaps)] (by rw [slices_order2Ordered_int64_eq]; exact h)
end Go.Dec
