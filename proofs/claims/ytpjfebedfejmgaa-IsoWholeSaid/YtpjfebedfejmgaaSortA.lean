/- Sorting, part A: what Go's pdqsort over the elements of a slice is, whatever their type. Printed by sortgen.py. -/
import Derived.Test.YtpjfebedfejmgaaOpsE
namespace Go.Dec
set_option linter.unusedVariables false

/-- What the sort of one type of elements leans on. -/
structure SortI where
  T : TypeId
  s : Sh1
  sz : Nat
  less : HL s.prims → HL s.prims → (Bool → Prog) → Prog
  ex : List Value
  xs : TypeId
  ti : TypeId
  fNext : FuncId
  fPow : FuncId
  f_sift : FuncId
  f_heap : FuncId
  f_ins : FuncId
  f_brk : FuncId
  f_rev : FuncId
  f_pins : FuncId
  f_peq : FuncId
  f_part : FuncId
  f_ord2 : FuncId
  f_med : FuncId
  f_medj : FuncId
  f_piv : FuncId
  f_pdq : FuncId

def SortI.sift (I : SortI) (data : Sl) (lo : Int) (hi : Int) (first : Int) : Prog :=
.lt (.int .i64) (lo) fun (n0 : Int) =>
.bind 1 [] (
.loop 2 [.one (.int .i64)] (n0, ()) (u1 fun (n1 : Int) =>
.lt (.int .i64) (IntKind.wrap .i64 (IntKind.wrap .i64 (2 * n1) + 1)) fun (n2 : Int) =>
.ite (decide (n2 ≥ hi)) (
.done 1 []) (
.bind 3 [.one .bool] (
.tick <|
.ex [.adr] (c1 fun a3 => decide (IntKind.wrap .i64 (n2 + 1) < hi) = true → 0 ≤ IntKind.wrap .i64 (first + n2) ∧ IntKind.wrap .i64 (first + n2) < ((data.len : Nat) : Int) ∧ data.a = some a3) (u1 fun a4 =>
.read ((decide (IntKind.wrap .i64 (n2 + 1) < hi) = true)) (ld I.T (Addr.add a4 (Int.toNat (IntKind.wrap .i64 (first + n2)) * I.sz))) (.one I.s) (fun n5 =>
.ex [.adr] (c1 fun a6 => decide (IntKind.wrap .i64 (n2 + 1) < hi) = true → 0 ≤ IntKind.wrap .i64 (IntKind.wrap .i64 (first + n2) + 1) ∧ IntKind.wrap .i64 (IntKind.wrap .i64 (first + n2) + 1) < ((data.len : Nat) : Int) ∧ data.a = some a6) (u1 fun a7 =>
.read ((decide (IntKind.wrap .i64 (n2 + 1) < hi) = true)) (ld I.T (Addr.add a7 (Int.toNat (IntKind.wrap .i64 (IntKind.wrap .i64 (first + n2) + 1)) * I.sz))) (.one I.s) (fun n8 =>
.ite (decide (IntKind.wrap .i64 (n2 + 1) < hi)) (
I.less n5 n8 (fun b9 =>
.untick <|
.done 3 [.bool b9])) (
.untick <|
.done 3 [.bool false])))))) (u1 fun b10 =>
.bind 3 [.one (.int .i64)] (
.ite (b10) (
.lt (.int .i64) (IntKind.wrap .i64 (n2 + 1)) fun (n11 : Int) =>
.done 3 [.int .i64 n11]) (
.done 3 [.int .i64 n2])) (u1 fun (n12 : Int) =>
.tick <|
.ex [.adr] (c1 fun a13 => 0 ≤ IntKind.wrap .i64 (first + n1) ∧ IntKind.wrap .i64 (first + n1) < ((data.len : Nat) : Int) ∧ data.a = some a13) (u1 fun a14 =>
.read (True) (ld I.T (Addr.add a14 (Int.toNat (IntKind.wrap .i64 (first + n1)) * I.sz))) (.one I.s) (fun n15 =>
.ex [.adr] (c1 fun a16 => 0 ≤ IntKind.wrap .i64 (first + n12) ∧ IntKind.wrap .i64 (first + n12) < ((data.len : Nat) : Int) ∧ data.a = some a16) (u1 fun a17 =>
.read (True) (ld I.T (Addr.add a17 (Int.toNat (IntKind.wrap .i64 (first + n12)) * I.sz))) (.one I.s) (fun n18 =>
I.less n15 n18 (fun b19 =>
.untick <|
.ite (not b19) (
.done 0 []) (
.bind 3 [] (
.tick <|
.ex [.adr] (c1 fun a20 => 0 ≤ IntKind.wrap .i64 (first + n12) ∧ IntKind.wrap .i64 (first + n12) < ((data.len : Nat) : Int) ∧ data.a = some a20) (u1 fun a21 =>
.read (True) (ld I.T (Addr.add a21 (Int.toNat (IntKind.wrap .i64 (first + n12)) * I.sz))) (.one I.s) (fun n22 =>
.ex [.adr] (c1 fun a23 => 0 ≤ IntKind.wrap .i64 (first + n1) ∧ IntKind.wrap .i64 (first + n1) < ((data.len : Nat) : Int) ∧ data.a = some a23) (u1 fun a24 =>
.read (True) (ld I.T (Addr.add a24 (Int.toNat (IntKind.wrap .i64 (first + n1)) * I.sz))) (.one I.s) (fun n25 =>
.ex [.adr] (c1 fun a26 => 0 ≤ IntKind.wrap .i64 (first + n1) ∧ IntKind.wrap .i64 (first + n1) < ((data.len : Nat) : Int) ∧ data.a = some a26) (u1 fun a27 =>
.actU (st I.T (Addr.add a27 (Int.toNat (IntKind.wrap .i64 (first + n1)) * I.sz)) ((Sh.one I.s).mk n22)) <|
.ex [.adr] (c1 fun a28 => 0 ≤ IntKind.wrap .i64 (first + n12) ∧ IntKind.wrap .i64 (first + n12) < ((data.len : Nat) : Int) ∧ data.a = some a28) (u1 fun a29 =>
.actU (st I.T (Addr.add a29 (Int.toNat (IntKind.wrap .i64 (first + n12)) * I.sz)) ((Sh.one I.s).mk n25)) <|
.untick <|
.done 3 []))))))) (u0 <|
.lt (.int .i64) (n12) fun (n30 : Int) =>
.done 2 [.int .i64 n30])))))))))))) (u0 <|
.done 0 [])

def SortI.heap (I : SortI) (data : Sl) (a : Int) (b : Int) : Prog :=
.lt (.int .i64) (a) fun (n0 : Int) =>
.lt (.int .i64) (IntKind.wrap .i64 (b - a)) fun (n1 : Int) =>
.lt (.int .i64) (IntKind.wrap .i64 (Int.tdiv (IntKind.wrap .i64 (n1 - 1)) 2)) fun (n2 : Int) =>
.bind 1 [] (
.loop 2 [.one (.int .i64)] (n2, ()) (u1 fun (n3 : Int) =>
.ite (decide (n3 ≥ 0)) (
.call I.f_sift ([data.v, .int .i64 n3, .int .i64 n1, .int .i64 n0] ++ I.ex) (.tup []) (u0 <|
.lt (.int .i64) (IntKind.wrap .i64 (n3 - 1)) fun (n4 : Int) =>
.done 2 [.int .i64 n4])) (
.done 1 []))) (u0 <|
.lt (.int .i64) (IntKind.wrap .i64 (n1 - 1)) fun (n5 : Int) =>
.bind 1 [] (
.loop 2 [.one (.int .i64)] (n5, ()) (u1 fun (n6 : Int) =>
.ite (decide (n6 ≥ 0)) (
.bind 3 [] (
.tick <|
.ex [.adr] (c1 fun a7 => 0 ≤ IntKind.wrap .i64 (n0 + n6) ∧ IntKind.wrap .i64 (n0 + n6) < ((data.len : Nat) : Int) ∧ data.a = some a7) (u1 fun a8 =>
.read (True) (ld I.T (Addr.add a8 (Int.toNat (IntKind.wrap .i64 (n0 + n6)) * I.sz))) (.one I.s) (fun n9 =>
.ex [.adr] (c1 fun a10 => 0 ≤ n0 ∧ n0 < ((data.len : Nat) : Int) ∧ data.a = some a10) (u1 fun a11 =>
.read (True) (ld I.T (Addr.add a11 (Int.toNat n0 * I.sz))) (.one I.s) (fun n12 =>
.ex [.adr] (c1 fun a13 => 0 ≤ n0 ∧ n0 < ((data.len : Nat) : Int) ∧ data.a = some a13) (u1 fun a14 =>
.actU (st I.T (Addr.add a14 (Int.toNat n0 * I.sz)) ((Sh.one I.s).mk n9)) <|
.ex [.adr] (c1 fun a15 => 0 ≤ IntKind.wrap .i64 (n0 + n6) ∧ IntKind.wrap .i64 (n0 + n6) < ((data.len : Nat) : Int) ∧ data.a = some a15) (u1 fun a16 =>
.actU (st I.T (Addr.add a16 (Int.toNat (IntKind.wrap .i64 (n0 + n6)) * I.sz)) ((Sh.one I.s).mk n12)) <|
.untick <|
.done 3 []))))))) (u0 <|
.call I.f_sift ([data.v, .int .i64 0, .int .i64 n6, .int .i64 n0] ++ I.ex) (.tup []) (u0 <|
.lt (.int .i64) (IntKind.wrap .i64 (n6 - 1)) fun (n17 : Int) =>
.done 2 [.int .i64 n17]))) (
.done 1 []))) (u0 <|
.done 0 []))

def SortI.ins (I : SortI) (data : Sl) (a : Int) (b : Int) : Prog :=
.lt (.int .i64) (IntKind.wrap .i64 (a + 1)) fun (n0 : Int) =>
.bind 1 [] (
.loop 2 [.one (.int .i64)] (n0, ()) (u1 fun (n1 : Int) =>
.ite (decide (n1 < b)) (
.bind 3 [] (
.lt (.int .i64) (n1) fun (n2 : Int) =>
.bind 4 [] (
.loop 5 [.one (.int .i64)] (n2, ()) (u1 fun (n3 : Int) =>
.bind 6 [.one .bool] (
.tick <|
.ex [.adr] (c1 fun a4 => decide (n3 > a) = true → 0 ≤ n3 ∧ n3 < ((data.len : Nat) : Int) ∧ data.a = some a4) (u1 fun a5 =>
.read ((decide (n3 > a) = true)) (ld I.T (Addr.add a5 (Int.toNat n3 * I.sz))) (.one I.s) (fun n6 =>
.ex [.adr] (c1 fun a7 => decide (n3 > a) = true → 0 ≤ IntKind.wrap .i64 (n3 - 1) ∧ IntKind.wrap .i64 (n3 - 1) < ((data.len : Nat) : Int) ∧ data.a = some a7) (u1 fun a8 =>
.read ((decide (n3 > a) = true)) (ld I.T (Addr.add a8 (Int.toNat (IntKind.wrap .i64 (n3 - 1)) * I.sz))) (.one I.s) (fun n9 =>
.ite (decide (n3 > a)) (
I.less n6 n9 (fun b10 =>
.untick <|
.done 6 [.bool b10])) (
.untick <|
.done 6 [.bool false])))))) (u1 fun b11 =>
.ite (b11) (
.bind 6 [] (
.tick <|
.ex [.adr] (c1 fun a12 => 0 ≤ IntKind.wrap .i64 (n3 - 1) ∧ IntKind.wrap .i64 (n3 - 1) < ((data.len : Nat) : Int) ∧ data.a = some a12) (u1 fun a13 =>
.read (True) (ld I.T (Addr.add a13 (Int.toNat (IntKind.wrap .i64 (n3 - 1)) * I.sz))) (.one I.s) (fun n14 =>
.ex [.adr] (c1 fun a15 => 0 ≤ n3 ∧ n3 < ((data.len : Nat) : Int) ∧ data.a = some a15) (u1 fun a16 =>
.read (True) (ld I.T (Addr.add a16 (Int.toNat n3 * I.sz))) (.one I.s) (fun n17 =>
.ex [.adr] (c1 fun a18 => 0 ≤ n3 ∧ n3 < ((data.len : Nat) : Int) ∧ data.a = some a18) (u1 fun a19 =>
.actU (st I.T (Addr.add a19 (Int.toNat n3 * I.sz)) ((Sh.one I.s).mk n14)) <|
.ex [.adr] (c1 fun a20 => 0 ≤ IntKind.wrap .i64 (n3 - 1) ∧ IntKind.wrap .i64 (n3 - 1) < ((data.len : Nat) : Int) ∧ data.a = some a20) (u1 fun a21 =>
.actU (st I.T (Addr.add a21 (Int.toNat (IntKind.wrap .i64 (n3 - 1)) * I.sz)) ((Sh.one I.s).mk n17)) <|
.untick <|
.done 6 []))))))) (u0 <|
.lt (.int .i64) (IntKind.wrap .i64 (n3 - 1)) fun (n22 : Int) =>
.done 5 [.int .i64 n22])) (
.done 4 [])))) (u0 <|
.done 3 [])) (u0 <|
.lt (.int .i64) (IntKind.wrap .i64 (n1 + 1)) fun (n23 : Int) =>
.done 2 [.int .i64 n23])) (
.done 1 []))) (u0 <|
.done 0 [])

def SortI.brk (I : SortI) (data : Sl) (a : Int) (b : Int) : Prog :=
.lt (.int .i64) (IntKind.wrap .i64 (b - a)) fun (n0 : Int) =>
.bind 1 [] (
.ite (decide (n0 ≥ 8)) (
.act (new I.xs) sA (u1 fun a1 =>
.actU (st I.xs a1 (.int .u64 (IntKind.wrap .u64 n0))) <|
.call I.fPow [.int .i64 n0] (sI .u64) (u1 fun (n2 : Int) =>
.lt (.int .u64) (n2) fun (n3 : Int) =>
.lt (.int .i64) (IntKind.wrap .i64 (IntKind.wrap .i64 (a + IntKind.wrap .i64 (IntKind.wrap .i64 (Int.tdiv n0 4) * 2)) - 1)) fun (n4 : Int) =>
.bind 2 [] (
.loop 3 [.one (.int .i64)] (n4, ()) (u1 fun (n5 : Int) =>
.ite (decide (n5 ≤ IntKind.wrap .i64 (IntKind.wrap .i64 (a + IntKind.wrap .i64 (IntKind.wrap .i64 (Int.tdiv n0 4) * 2)) + 1))) (
.call I.fNext [.pointer (some a1)] (sI .u64) (u1 fun (n6 : Int) =>
.lt (.int .i64) (IntKind.wrap .i64 (IntKind.wrap .u64 (((BitVec.toNat (BitVec.ofInt 64 n6 &&& BitVec.ofInt 64 (IntKind.wrap .u64 (n3 - 1))) : Nat) : Int)))) fun (n7 : Int) =>
.bind 4 [.one (.int .i64)] (
.ite (decide (n7 ≥ n0)) (
.lt (.int .i64) (IntKind.wrap .i64 (n7 - n0)) fun (n8 : Int) =>
.done 4 [.int .i64 n8]) (
.done 4 [.int .i64 n7])) (u1 fun (n9 : Int) =>
.bind 4 [] (
.tick <|
.ex [.adr] (c1 fun a10 => 0 ≤ IntKind.wrap .i64 (a + n9) ∧ IntKind.wrap .i64 (a + n9) < ((data.len : Nat) : Int) ∧ data.a = some a10) (u1 fun a11 =>
.read (True) (ld I.T (Addr.add a11 (Int.toNat (IntKind.wrap .i64 (a + n9)) * I.sz))) (.one I.s) (fun n12 =>
.ex [.adr] (c1 fun a13 => 0 ≤ n5 ∧ n5 < ((data.len : Nat) : Int) ∧ data.a = some a13) (u1 fun a14 =>
.read (True) (ld I.T (Addr.add a14 (Int.toNat n5 * I.sz))) (.one I.s) (fun n15 =>
.ex [.adr] (c1 fun a16 => 0 ≤ n5 ∧ n5 < ((data.len : Nat) : Int) ∧ data.a = some a16) (u1 fun a17 =>
.actU (st I.T (Addr.add a17 (Int.toNat n5 * I.sz)) ((Sh.one I.s).mk n12)) <|
.ex [.adr] (c1 fun a18 => 0 ≤ IntKind.wrap .i64 (a + n9) ∧ IntKind.wrap .i64 (a + n9) < ((data.len : Nat) : Int) ∧ data.a = some a18) (u1 fun a19 =>
.actU (st I.T (Addr.add a19 (Int.toNat (IntKind.wrap .i64 (a + n9)) * I.sz)) ((Sh.one I.s).mk n15)) <|
.untick <|
.done 4 []))))))) (u0 <|
.lt (.int .i64) (IntKind.wrap .i64 (n5 + 1)) fun (n20 : Int) =>
.done 3 [.int .i64 n20])))) (
.done 2 []))) (u0 <|
.done 1 [])))) (
.done 1 [])) (u0 <|
.done 0 [])

def SortI.rev (I : SortI) (data : Sl) (a : Int) (b : Int) : Prog :=
.lt (.int .i64) (a) fun (n0 : Int) =>
.lt (.int .i64) (IntKind.wrap .i64 (b - 1)) fun (n1 : Int) =>
.bind 1 [] (
.loop 2 [.one (.int .i64), .one (.int .i64)] (n0, (n1, ())) (u2 fun (n2 : Int) (n3 : Int) =>
.ite (decide (n2 < n3)) (
.bind 3 [] (
.tick <|
.ex [.adr] (c1 fun a4 => 0 ≤ n3 ∧ n3 < ((data.len : Nat) : Int) ∧ data.a = some a4) (u1 fun a5 =>
.read (True) (ld I.T (Addr.add a5 (Int.toNat n3 * I.sz))) (.one I.s) (fun n6 =>
.ex [.adr] (c1 fun a7 => 0 ≤ n2 ∧ n2 < ((data.len : Nat) : Int) ∧ data.a = some a7) (u1 fun a8 =>
.read (True) (ld I.T (Addr.add a8 (Int.toNat n2 * I.sz))) (.one I.s) (fun n9 =>
.ex [.adr] (c1 fun a10 => 0 ≤ n2 ∧ n2 < ((data.len : Nat) : Int) ∧ data.a = some a10) (u1 fun a11 =>
.actU (st I.T (Addr.add a11 (Int.toNat n2 * I.sz)) ((Sh.one I.s).mk n6)) <|
.ex [.adr] (c1 fun a12 => 0 ≤ n3 ∧ n3 < ((data.len : Nat) : Int) ∧ data.a = some a12) (u1 fun a13 =>
.actU (st I.T (Addr.add a13 (Int.toNat n3 * I.sz)) ((Sh.one I.s).mk n9)) <|
.untick <|
.done 3 []))))))) (u0 <|
.lt (.int .i64) (IntKind.wrap .i64 (n2 + 1)) fun (n14 : Int) =>
.lt (.int .i64) (IntKind.wrap .i64 (n3 - 1)) fun (n15 : Int) =>
.done 2 [.int .i64 n14, .int .i64 n15])) (
.done 1 []))) (u0 <|
.done 0 [])

def SortI.pins (I : SortI) (data : Sl) (a : Int) (b : Int) : Prog :=
.lt (.int .i64) (IntKind.wrap .i64 (a + 1)) fun (n0 : Int) =>
.bind 1 [] (
.loop 2 [.one (.int .i64), .one (.int .i64)] (n0, (0, ())) (u2 fun (n1 : Int) (n2 : Int) =>
.ite (decide (n2 < 5)) (
.bind 3 [.one (.int .i64)] (
.bind 4 [.one (.int .i64)] (
.loop 5 [.one (.int .i64)] (n1, ()) (u1 fun (n3 : Int) =>
.bind 6 [.one .bool] (
.tick <|
.ex [.adr] (c1 fun a4 => decide (n3 < b) = true → 0 ≤ n3 ∧ n3 < ((data.len : Nat) : Int) ∧ data.a = some a4) (u1 fun a5 =>
.read ((decide (n3 < b) = true)) (ld I.T (Addr.add a5 (Int.toNat n3 * I.sz))) (.one I.s) (fun n6 =>
.ex [.adr] (c1 fun a7 => decide (n3 < b) = true → 0 ≤ IntKind.wrap .i64 (n3 - 1) ∧ IntKind.wrap .i64 (n3 - 1) < ((data.len : Nat) : Int) ∧ data.a = some a7) (u1 fun a8 =>
.read ((decide (n3 < b) = true)) (ld I.T (Addr.add a8 (Int.toNat (IntKind.wrap .i64 (n3 - 1)) * I.sz))) (.one I.s) (fun n9 =>
.ite (decide (n3 < b)) (
I.less n6 n9 (fun b10 =>
.untick <|
.done 6 [.bool (not b10)])) (
.untick <|
.done 6 [.bool false])))))) (u1 fun b11 =>
.ite (b11) (
.lt (.int .i64) (IntKind.wrap .i64 (n3 + 1)) fun (n12 : Int) =>
.done 5 [.int .i64 n12]) (
.done 4 [.int .i64 n3])))) (u1 fun (n13 : Int) =>
.ite (n13 == b) (
.done 0 [.bool true]) (
.ite (decide (IntKind.wrap .i64 (b - a) < 50)) (
.done 0 [.bool false]) (
.bind 4 [] (
.tick <|
.ex [.adr] (c1 fun a14 => 0 ≤ IntKind.wrap .i64 (n13 - 1) ∧ IntKind.wrap .i64 (n13 - 1) < ((data.len : Nat) : Int) ∧ data.a = some a14) (u1 fun a15 =>
.read (True) (ld I.T (Addr.add a15 (Int.toNat (IntKind.wrap .i64 (n13 - 1)) * I.sz))) (.one I.s) (fun n16 =>
.ex [.adr] (c1 fun a17 => 0 ≤ n13 ∧ n13 < ((data.len : Nat) : Int) ∧ data.a = some a17) (u1 fun a18 =>
.read (True) (ld I.T (Addr.add a18 (Int.toNat n13 * I.sz))) (.one I.s) (fun n19 =>
.ex [.adr] (c1 fun a20 => 0 ≤ n13 ∧ n13 < ((data.len : Nat) : Int) ∧ data.a = some a20) (u1 fun a21 =>
.actU (st I.T (Addr.add a21 (Int.toNat n13 * I.sz)) ((Sh.one I.s).mk n16)) <|
.ex [.adr] (c1 fun a22 => 0 ≤ IntKind.wrap .i64 (n13 - 1) ∧ IntKind.wrap .i64 (n13 - 1) < ((data.len : Nat) : Int) ∧ data.a = some a22) (u1 fun a23 =>
.actU (st I.T (Addr.add a23 (Int.toNat (IntKind.wrap .i64 (n13 - 1)) * I.sz)) ((Sh.one I.s).mk n19)) <|
.untick <|
.done 4 []))))))) (u0 <|
.bind 4 [] (
.ite (decide (IntKind.wrap .i64 (n13 - a) ≥ 2)) (
.lt (.int .i64) (IntKind.wrap .i64 (n13 - 1)) fun (n24 : Int) =>
.bind 5 [] (
.loop 6 [.one (.int .i64)] (n24, ()) (u1 fun (n25 : Int) =>
.ite (decide (n25 ≥ 1)) (
.tick <|
.ex [.adr] (c1 fun a26 => 0 ≤ n25 ∧ n25 < ((data.len : Nat) : Int) ∧ data.a = some a26) (u1 fun a27 =>
.read (True) (ld I.T (Addr.add a27 (Int.toNat n25 * I.sz))) (.one I.s) (fun n28 =>
.ex [.adr] (c1 fun a29 => 0 ≤ IntKind.wrap .i64 (n25 - 1) ∧ IntKind.wrap .i64 (n25 - 1) < ((data.len : Nat) : Int) ∧ data.a = some a29) (u1 fun a30 =>
.read (True) (ld I.T (Addr.add a30 (Int.toNat (IntKind.wrap .i64 (n25 - 1)) * I.sz))) (.one I.s) (fun n31 =>
I.less n28 n31 (fun b32 =>
.untick <|
.ite (not b32) (
.done 5 []) (
.bind 7 [] (
.tick <|
.ex [.adr] (c1 fun a33 => 0 ≤ IntKind.wrap .i64 (n25 - 1) ∧ IntKind.wrap .i64 (n25 - 1) < ((data.len : Nat) : Int) ∧ data.a = some a33) (u1 fun a34 =>
.read (True) (ld I.T (Addr.add a34 (Int.toNat (IntKind.wrap .i64 (n25 - 1)) * I.sz))) (.one I.s) (fun n35 =>
.ex [.adr] (c1 fun a36 => 0 ≤ n25 ∧ n25 < ((data.len : Nat) : Int) ∧ data.a = some a36) (u1 fun a37 =>
.read (True) (ld I.T (Addr.add a37 (Int.toNat n25 * I.sz))) (.one I.s) (fun n38 =>
.ex [.adr] (c1 fun a39 => 0 ≤ n25 ∧ n25 < ((data.len : Nat) : Int) ∧ data.a = some a39) (u1 fun a40 =>
.actU (st I.T (Addr.add a40 (Int.toNat n25 * I.sz)) ((Sh.one I.s).mk n35)) <|
.ex [.adr] (c1 fun a41 => 0 ≤ IntKind.wrap .i64 (n25 - 1) ∧ IntKind.wrap .i64 (n25 - 1) < ((data.len : Nat) : Int) ∧ data.a = some a41) (u1 fun a42 =>
.actU (st I.T (Addr.add a42 (Int.toNat (IntKind.wrap .i64 (n25 - 1)) * I.sz)) ((Sh.one I.s).mk n38)) <|
.untick <|
.done 7 []))))))) (u0 <|
.lt (.int .i64) (IntKind.wrap .i64 (n25 - 1)) fun (n43 : Int) =>
.done 6 [.int .i64 n43])))))))) (
.done 5 []))) (u0 <|
.done 4 [])) (
.done 4 [])) (u0 <|
.bind 4 [] (
.ite (decide (IntKind.wrap .i64 (b - n13) ≥ 2)) (
.lt (.int .i64) (IntKind.wrap .i64 (n13 + 1)) fun (n44 : Int) =>
.bind 5 [] (
.loop 6 [.one (.int .i64)] (n44, ()) (u1 fun (n45 : Int) =>
.ite (decide (n45 < b)) (
.tick <|
.ex [.adr] (c1 fun a46 => 0 ≤ n45 ∧ n45 < ((data.len : Nat) : Int) ∧ data.a = some a46) (u1 fun a47 =>
.read (True) (ld I.T (Addr.add a47 (Int.toNat n45 * I.sz))) (.one I.s) (fun n48 =>
.ex [.adr] (c1 fun a49 => 0 ≤ IntKind.wrap .i64 (n45 - 1) ∧ IntKind.wrap .i64 (n45 - 1) < ((data.len : Nat) : Int) ∧ data.a = some a49) (u1 fun a50 =>
.read (True) (ld I.T (Addr.add a50 (Int.toNat (IntKind.wrap .i64 (n45 - 1)) * I.sz))) (.one I.s) (fun n51 =>
I.less n48 n51 (fun b52 =>
.untick <|
.ite (not b52) (
.done 5 []) (
.bind 7 [] (
.tick <|
.ex [.adr] (c1 fun a53 => 0 ≤ IntKind.wrap .i64 (n45 - 1) ∧ IntKind.wrap .i64 (n45 - 1) < ((data.len : Nat) : Int) ∧ data.a = some a53) (u1 fun a54 =>
.read (True) (ld I.T (Addr.add a54 (Int.toNat (IntKind.wrap .i64 (n45 - 1)) * I.sz))) (.one I.s) (fun n55 =>
.ex [.adr] (c1 fun a56 => 0 ≤ n45 ∧ n45 < ((data.len : Nat) : Int) ∧ data.a = some a56) (u1 fun a57 =>
.read (True) (ld I.T (Addr.add a57 (Int.toNat n45 * I.sz))) (.one I.s) (fun n58 =>
.ex [.adr] (c1 fun a59 => 0 ≤ n45 ∧ n45 < ((data.len : Nat) : Int) ∧ data.a = some a59) (u1 fun a60 =>
.actU (st I.T (Addr.add a60 (Int.toNat n45 * I.sz)) ((Sh.one I.s).mk n55)) <|
.ex [.adr] (c1 fun a61 => 0 ≤ IntKind.wrap .i64 (n45 - 1) ∧ IntKind.wrap .i64 (n45 - 1) < ((data.len : Nat) : Int) ∧ data.a = some a61) (u1 fun a62 =>
.actU (st I.T (Addr.add a62 (Int.toNat (IntKind.wrap .i64 (n45 - 1)) * I.sz)) ((Sh.one I.s).mk n58)) <|
.untick <|
.done 7 []))))))) (u0 <|
.lt (.int .i64) (IntKind.wrap .i64 (n45 + 1)) fun (n63 : Int) =>
.done 6 [.int .i64 n63])))))))) (
.done 5 []))) (u0 <|
.done 4 [])) (
.done 4 [])) (u0 <|
.done 3 [.int .i64 n13]))))))) (u1 fun (n64 : Int) =>
.lt (.int .i64) (IntKind.wrap .i64 (n2 + 1)) fun (n65 : Int) =>
.done 2 [.int .i64 n64, .int .i64 n65])) (
.done 1 []))) (u0 <|
.done 0 [.bool false])

def SortI.peq (I : SortI) (data : Sl) (a : Int) (b : Int) (pivot : Int) : Prog :=
.bind 1 [] (
.tick <|
.ex [.adr] (c1 fun a0 => 0 ≤ pivot ∧ pivot < ((data.len : Nat) : Int) ∧ data.a = some a0) (u1 fun a1 =>
.read (True) (ld I.T (Addr.add a1 (Int.toNat pivot * I.sz))) (.one I.s) (fun n2 =>
.ex [.adr] (c1 fun a3 => 0 ≤ a ∧ a < ((data.len : Nat) : Int) ∧ data.a = some a3) (u1 fun a4 =>
.read (True) (ld I.T (Addr.add a4 (Int.toNat a * I.sz))) (.one I.s) (fun n5 =>
.ex [.adr] (c1 fun a6 => 0 ≤ a ∧ a < ((data.len : Nat) : Int) ∧ data.a = some a6) (u1 fun a7 =>
.actU (st I.T (Addr.add a7 (Int.toNat a * I.sz)) ((Sh.one I.s).mk n2)) <|
.ex [.adr] (c1 fun a8 => 0 ≤ pivot ∧ pivot < ((data.len : Nat) : Int) ∧ data.a = some a8) (u1 fun a9 =>
.actU (st I.T (Addr.add a9 (Int.toNat pivot * I.sz)) ((Sh.one I.s).mk n5)) <|
.untick <|
.done 1 []))))))) (u0 <|
.lt (.int .i64) (IntKind.wrap .i64 (a + 1)) fun (n10 : Int) =>
.lt (.int .i64) (IntKind.wrap .i64 (b - 1)) fun (n11 : Int) =>
.bind 1 [.one (.int .i64)] (
.loop 2 [.one (.int .i64), .one (.int .i64)] (n10, (n11, ())) (u2 fun (n12 : Int) (n13 : Int) =>
.bind 3 [.one (.int .i64), .one (.int .i64)] (
.bind 4 [.one (.int .i64)] (
.loop 5 [.one (.int .i64)] (n12, ()) (u1 fun (n14 : Int) =>
.bind 6 [.one .bool] (
.tick <|
.ex [.adr] (c1 fun a15 => decide (n14 ≤ n13) = true → 0 ≤ a ∧ a < ((data.len : Nat) : Int) ∧ data.a = some a15) (u1 fun a16 =>
.read ((decide (n14 ≤ n13) = true)) (ld I.T (Addr.add a16 (Int.toNat a * I.sz))) (.one I.s) (fun n17 =>
.ex [.adr] (c1 fun a18 => decide (n14 ≤ n13) = true → 0 ≤ n14 ∧ n14 < ((data.len : Nat) : Int) ∧ data.a = some a18) (u1 fun a19 =>
.read ((decide (n14 ≤ n13) = true)) (ld I.T (Addr.add a19 (Int.toNat n14 * I.sz))) (.one I.s) (fun n20 =>
.ite (decide (n14 ≤ n13)) (
I.less n17 n20 (fun b21 =>
.untick <|
.done 6 [.bool (not b21)])) (
.untick <|
.done 6 [.bool false])))))) (u1 fun b22 =>
.ite (b22) (
.lt (.int .i64) (IntKind.wrap .i64 (n14 + 1)) fun (n23 : Int) =>
.done 5 [.int .i64 n23]) (
.done 4 [.int .i64 n14])))) (u1 fun (n24 : Int) =>
.bind 4 [.one (.int .i64)] (
.loop 5 [.one (.int .i64)] (n13, ()) (u1 fun (n25 : Int) =>
.bind 6 [.one .bool] (
.tick <|
.ex [.adr] (c1 fun a26 => decide (n24 ≤ n25) = true → 0 ≤ a ∧ a < ((data.len : Nat) : Int) ∧ data.a = some a26) (u1 fun a27 =>
.read ((decide (n24 ≤ n25) = true)) (ld I.T (Addr.add a27 (Int.toNat a * I.sz))) (.one I.s) (fun n28 =>
.ex [.adr] (c1 fun a29 => decide (n24 ≤ n25) = true → 0 ≤ n25 ∧ n25 < ((data.len : Nat) : Int) ∧ data.a = some a29) (u1 fun a30 =>
.read ((decide (n24 ≤ n25) = true)) (ld I.T (Addr.add a30 (Int.toNat n25 * I.sz))) (.one I.s) (fun n31 =>
.ite (decide (n24 ≤ n25)) (
I.less n28 n31 (fun b32 =>
.untick <|
.done 6 [.bool b32])) (
.untick <|
.done 6 [.bool false])))))) (u1 fun b33 =>
.ite (b33) (
.lt (.int .i64) (IntKind.wrap .i64 (n25 - 1)) fun (n34 : Int) =>
.done 5 [.int .i64 n34]) (
.done 4 [.int .i64 n25])))) (u1 fun (n35 : Int) =>
.ite (decide (n24 > n35)) (
.done 1 [.int .i64 n24]) (
.bind 4 [] (
.tick <|
.ex [.adr] (c1 fun a36 => 0 ≤ n35 ∧ n35 < ((data.len : Nat) : Int) ∧ data.a = some a36) (u1 fun a37 =>
.read (True) (ld I.T (Addr.add a37 (Int.toNat n35 * I.sz))) (.one I.s) (fun n38 =>
.ex [.adr] (c1 fun a39 => 0 ≤ n24 ∧ n24 < ((data.len : Nat) : Int) ∧ data.a = some a39) (u1 fun a40 =>
.read (True) (ld I.T (Addr.add a40 (Int.toNat n24 * I.sz))) (.one I.s) (fun n41 =>
.ex [.adr] (c1 fun a42 => 0 ≤ n24 ∧ n24 < ((data.len : Nat) : Int) ∧ data.a = some a42) (u1 fun a43 =>
.actU (st I.T (Addr.add a43 (Int.toNat n24 * I.sz)) ((Sh.one I.s).mk n38)) <|
.ex [.adr] (c1 fun a44 => 0 ≤ n35 ∧ n35 < ((data.len : Nat) : Int) ∧ data.a = some a44) (u1 fun a45 =>
.actU (st I.T (Addr.add a45 (Int.toNat n35 * I.sz)) ((Sh.one I.s).mk n41)) <|
.untick <|
.done 4 []))))))) (u0 <|
.lt (.int .i64) (IntKind.wrap .i64 (n24 + 1)) fun (n46 : Int) =>
.lt (.int .i64) (IntKind.wrap .i64 (n35 - 1)) fun (n47 : Int) =>
.done 3 [.int .i64 n46, .int .i64 n47]))))) (u2 fun (n48 : Int) (n49 : Int) =>
.done 2 [.int .i64 n48, .int .i64 n49]))) (u1 fun (n50 : Int) =>
.lt (.int .i64) (n50) fun (n51 : Int) =>
.done 0 [.int .i64 n51]))

def SortI.part (I : SortI) (data : Sl) (a : Int) (b : Int) (pivot : Int) : Prog :=
.bind 1 [] (
.tick <|
.ex [.adr] (c1 fun a0 => 0 ≤ pivot ∧ pivot < ((data.len : Nat) : Int) ∧ data.a = some a0) (u1 fun a1 =>
.read (True) (ld I.T (Addr.add a1 (Int.toNat pivot * I.sz))) (.one I.s) (fun n2 =>
.ex [.adr] (c1 fun a3 => 0 ≤ a ∧ a < ((data.len : Nat) : Int) ∧ data.a = some a3) (u1 fun a4 =>
.read (True) (ld I.T (Addr.add a4 (Int.toNat a * I.sz))) (.one I.s) (fun n5 =>
.ex [.adr] (c1 fun a6 => 0 ≤ a ∧ a < ((data.len : Nat) : Int) ∧ data.a = some a6) (u1 fun a7 =>
.actU (st I.T (Addr.add a7 (Int.toNat a * I.sz)) ((Sh.one I.s).mk n2)) <|
.ex [.adr] (c1 fun a8 => 0 ≤ pivot ∧ pivot < ((data.len : Nat) : Int) ∧ data.a = some a8) (u1 fun a9 =>
.actU (st I.T (Addr.add a9 (Int.toNat pivot * I.sz)) ((Sh.one I.s).mk n5)) <|
.untick <|
.done 1 []))))))) (u0 <|
.lt (.int .i64) (IntKind.wrap .i64 (a + 1)) fun (n10 : Int) =>
.lt (.int .i64) (IntKind.wrap .i64 (b - 1)) fun (n11 : Int) =>
.bind 1 [.one (.int .i64)] (
.loop 2 [.one (.int .i64)] (n10, ()) (u1 fun (n12 : Int) =>
.bind 3 [.one .bool] (
.tick <|
.ex [.adr] (c1 fun a13 => decide (n12 ≤ n11) = true → 0 ≤ n12 ∧ n12 < ((data.len : Nat) : Int) ∧ data.a = some a13) (u1 fun a14 =>
.read ((decide (n12 ≤ n11) = true)) (ld I.T (Addr.add a14 (Int.toNat n12 * I.sz))) (.one I.s) (fun n15 =>
.ex [.adr] (c1 fun a16 => decide (n12 ≤ n11) = true → 0 ≤ a ∧ a < ((data.len : Nat) : Int) ∧ data.a = some a16) (u1 fun a17 =>
.read ((decide (n12 ≤ n11) = true)) (ld I.T (Addr.add a17 (Int.toNat a * I.sz))) (.one I.s) (fun n18 =>
.ite (decide (n12 ≤ n11)) (
I.less n15 n18 (fun b19 =>
.untick <|
.done 3 [.bool b19])) (
.untick <|
.done 3 [.bool false])))))) (u1 fun b20 =>
.ite (b20) (
.lt (.int .i64) (IntKind.wrap .i64 (n12 + 1)) fun (n21 : Int) =>
.done 2 [.int .i64 n21]) (
.done 1 [.int .i64 n12])))) (u1 fun (n22 : Int) =>
.bind 1 [.one (.int .i64)] (
.loop 2 [.one (.int .i64)] (n11, ()) (u1 fun (n23 : Int) =>
.bind 3 [.one .bool] (
.tick <|
.ex [.adr] (c1 fun a24 => decide (n22 ≤ n23) = true → 0 ≤ n23 ∧ n23 < ((data.len : Nat) : Int) ∧ data.a = some a24) (u1 fun a25 =>
.read ((decide (n22 ≤ n23) = true)) (ld I.T (Addr.add a25 (Int.toNat n23 * I.sz))) (.one I.s) (fun n26 =>
.ex [.adr] (c1 fun a27 => decide (n22 ≤ n23) = true → 0 ≤ a ∧ a < ((data.len : Nat) : Int) ∧ data.a = some a27) (u1 fun a28 =>
.read ((decide (n22 ≤ n23) = true)) (ld I.T (Addr.add a28 (Int.toNat a * I.sz))) (.one I.s) (fun n29 =>
.ite (decide (n22 ≤ n23)) (
I.less n26 n29 (fun b30 =>
.untick <|
.done 3 [.bool (not b30)])) (
.untick <|
.done 3 [.bool false])))))) (u1 fun b31 =>
.ite (b31) (
.lt (.int .i64) (IntKind.wrap .i64 (n23 - 1)) fun (n32 : Int) =>
.done 2 [.int .i64 n32]) (
.done 1 [.int .i64 n23])))) (u1 fun (n33 : Int) =>
.ite (decide (n22 > n33)) (
.bind 1 [] (
.tick <|
.ex [.adr] (c1 fun a34 => 0 ≤ a ∧ a < ((data.len : Nat) : Int) ∧ data.a = some a34) (u1 fun a35 =>
.read (True) (ld I.T (Addr.add a35 (Int.toNat a * I.sz))) (.one I.s) (fun n36 =>
.ex [.adr] (c1 fun a37 => 0 ≤ n33 ∧ n33 < ((data.len : Nat) : Int) ∧ data.a = some a37) (u1 fun a38 =>
.read (True) (ld I.T (Addr.add a38 (Int.toNat n33 * I.sz))) (.one I.s) (fun n39 =>
.ex [.adr] (c1 fun a40 => 0 ≤ n33 ∧ n33 < ((data.len : Nat) : Int) ∧ data.a = some a40) (u1 fun a41 =>
.actU (st I.T (Addr.add a41 (Int.toNat n33 * I.sz)) ((Sh.one I.s).mk n36)) <|
.ex [.adr] (c1 fun a42 => 0 ≤ a ∧ a < ((data.len : Nat) : Int) ∧ data.a = some a42) (u1 fun a43 =>
.actU (st I.T (Addr.add a43 (Int.toNat a * I.sz)) ((Sh.one I.s).mk n39)) <|
.untick <|
.done 1 []))))))) (u0 <|
.lt (.int .i64) (n33) fun (n44 : Int) =>
.done 0 [.int .i64 n44, .bool true])) (
.bind 1 [] (
.tick <|
.ex [.adr] (c1 fun a45 => 0 ≤ n33 ∧ n33 < ((data.len : Nat) : Int) ∧ data.a = some a45) (u1 fun a46 =>
.read (True) (ld I.T (Addr.add a46 (Int.toNat n33 * I.sz))) (.one I.s) (fun n47 =>
.ex [.adr] (c1 fun a48 => 0 ≤ n22 ∧ n22 < ((data.len : Nat) : Int) ∧ data.a = some a48) (u1 fun a49 =>
.read (True) (ld I.T (Addr.add a49 (Int.toNat n22 * I.sz))) (.one I.s) (fun n50 =>
.ex [.adr] (c1 fun a51 => 0 ≤ n22 ∧ n22 < ((data.len : Nat) : Int) ∧ data.a = some a51) (u1 fun a52 =>
.actU (st I.T (Addr.add a52 (Int.toNat n22 * I.sz)) ((Sh.one I.s).mk n47)) <|
.ex [.adr] (c1 fun a53 => 0 ≤ n33 ∧ n33 < ((data.len : Nat) : Int) ∧ data.a = some a53) (u1 fun a54 =>
.actU (st I.T (Addr.add a54 (Int.toNat n33 * I.sz)) ((Sh.one I.s).mk n50)) <|
.untick <|
.done 1 []))))))) (u0 <|
.lt (.int .i64) (IntKind.wrap .i64 (n22 + 1)) fun (n55 : Int) =>
.lt (.int .i64) (IntKind.wrap .i64 (n33 - 1)) fun (n56 : Int) =>
.bind 1 [.one (.int .i64)] (
.loop 2 [.one (.int .i64), .one (.int .i64)] (n55, (n56, ())) (u2 fun (n57 : Int) (n58 : Int) =>
.bind 3 [.one (.int .i64), .one (.int .i64)] (
.bind 4 [.one (.int .i64)] (
.loop 5 [.one (.int .i64)] (n57, ()) (u1 fun (n59 : Int) =>
.bind 6 [.one .bool] (
.tick <|
.ex [.adr] (c1 fun a60 => decide (n59 ≤ n58) = true → 0 ≤ n59 ∧ n59 < ((data.len : Nat) : Int) ∧ data.a = some a60) (u1 fun a61 =>
.read ((decide (n59 ≤ n58) = true)) (ld I.T (Addr.add a61 (Int.toNat n59 * I.sz))) (.one I.s) (fun n62 =>
.ex [.adr] (c1 fun a63 => decide (n59 ≤ n58) = true → 0 ≤ a ∧ a < ((data.len : Nat) : Int) ∧ data.a = some a63) (u1 fun a64 =>
.read ((decide (n59 ≤ n58) = true)) (ld I.T (Addr.add a64 (Int.toNat a * I.sz))) (.one I.s) (fun n65 =>
.ite (decide (n59 ≤ n58)) (
I.less n62 n65 (fun b66 =>
.untick <|
.done 6 [.bool b66])) (
.untick <|
.done 6 [.bool false])))))) (u1 fun b67 =>
.ite (b67) (
.lt (.int .i64) (IntKind.wrap .i64 (n59 + 1)) fun (n68 : Int) =>
.done 5 [.int .i64 n68]) (
.done 4 [.int .i64 n59])))) (u1 fun (n69 : Int) =>
.bind 4 [.one (.int .i64)] (
.loop 5 [.one (.int .i64)] (n58, ()) (u1 fun (n70 : Int) =>
.bind 6 [.one .bool] (
.tick <|
.ex [.adr] (c1 fun a71 => decide (n69 ≤ n70) = true → 0 ≤ n70 ∧ n70 < ((data.len : Nat) : Int) ∧ data.a = some a71) (u1 fun a72 =>
.read ((decide (n69 ≤ n70) = true)) (ld I.T (Addr.add a72 (Int.toNat n70 * I.sz))) (.one I.s) (fun n73 =>
.ex [.adr] (c1 fun a74 => decide (n69 ≤ n70) = true → 0 ≤ a ∧ a < ((data.len : Nat) : Int) ∧ data.a = some a74) (u1 fun a75 =>
.read ((decide (n69 ≤ n70) = true)) (ld I.T (Addr.add a75 (Int.toNat a * I.sz))) (.one I.s) (fun n76 =>
.ite (decide (n69 ≤ n70)) (
I.less n73 n76 (fun b77 =>
.untick <|
.done 6 [.bool (not b77)])) (
.untick <|
.done 6 [.bool false])))))) (u1 fun b78 =>
.ite (b78) (
.lt (.int .i64) (IntKind.wrap .i64 (n70 - 1)) fun (n79 : Int) =>
.done 5 [.int .i64 n79]) (
.done 4 [.int .i64 n70])))) (u1 fun (n80 : Int) =>
.ite (decide (n69 > n80)) (
.done 1 [.int .i64 n80]) (
.bind 4 [] (
.tick <|
.ex [.adr] (c1 fun a81 => 0 ≤ n80 ∧ n80 < ((data.len : Nat) : Int) ∧ data.a = some a81) (u1 fun a82 =>
.read (True) (ld I.T (Addr.add a82 (Int.toNat n80 * I.sz))) (.one I.s) (fun n83 =>
.ex [.adr] (c1 fun a84 => 0 ≤ n69 ∧ n69 < ((data.len : Nat) : Int) ∧ data.a = some a84) (u1 fun a85 =>
.read (True) (ld I.T (Addr.add a85 (Int.toNat n69 * I.sz))) (.one I.s) (fun n86 =>
.ex [.adr] (c1 fun a87 => 0 ≤ n69 ∧ n69 < ((data.len : Nat) : Int) ∧ data.a = some a87) (u1 fun a88 =>
.actU (st I.T (Addr.add a88 (Int.toNat n69 * I.sz)) ((Sh.one I.s).mk n83)) <|
.ex [.adr] (c1 fun a89 => 0 ≤ n80 ∧ n80 < ((data.len : Nat) : Int) ∧ data.a = some a89) (u1 fun a90 =>
.actU (st I.T (Addr.add a90 (Int.toNat n80 * I.sz)) ((Sh.one I.s).mk n86)) <|
.untick <|
.done 4 []))))))) (u0 <|
.lt (.int .i64) (IntKind.wrap .i64 (n69 + 1)) fun (n91 : Int) =>
.lt (.int .i64) (IntKind.wrap .i64 (n80 - 1)) fun (n92 : Int) =>
.done 3 [.int .i64 n91, .int .i64 n92]))))) (u2 fun (n93 : Int) (n94 : Int) =>
.done 2 [.int .i64 n93, .int .i64 n94]))) (u1 fun (n95 : Int) =>
.bind 1 [] (
.tick <|
.ex [.adr] (c1 fun a96 => 0 ≤ a ∧ a < ((data.len : Nat) : Int) ∧ data.a = some a96) (u1 fun a97 =>
.read (True) (ld I.T (Addr.add a97 (Int.toNat a * I.sz))) (.one I.s) (fun n98 =>
.ex [.adr] (c1 fun a99 => 0 ≤ n95 ∧ n95 < ((data.len : Nat) : Int) ∧ data.a = some a99) (u1 fun a100 =>
.read (True) (ld I.T (Addr.add a100 (Int.toNat n95 * I.sz))) (.one I.s) (fun n101 =>
.ex [.adr] (c1 fun a102 => 0 ≤ n95 ∧ n95 < ((data.len : Nat) : Int) ∧ data.a = some a102) (u1 fun a103 =>
.actU (st I.T (Addr.add a103 (Int.toNat n95 * I.sz)) ((Sh.one I.s).mk n98)) <|
.ex [.adr] (c1 fun a104 => 0 ≤ a ∧ a < ((data.len : Nat) : Int) ∧ data.a = some a104) (u1 fun a105 =>
.actU (st I.T (Addr.add a105 (Int.toNat a * I.sz)) ((Sh.one I.s).mk n101)) <|
.untick <|
.done 1 []))))))) (u0 <|
.lt (.int .i64) (n95) fun (n106 : Int) =>
.done 0 [.int .i64 n106, .bool false])))))))

def SortI.ord2 (I : SortI) (data : Sl) (a : Int) (b : Int) (swaps : Option Addr) : Prog :=
.tick <|
.ex [.adr] (c1 fun a0 => 0 ≤ b ∧ b < ((data.len : Nat) : Int) ∧ data.a = some a0) (u1 fun a1 =>
.read (True) (ld I.T (Addr.add a1 (Int.toNat b * I.sz))) (.one I.s) (fun n2 =>
.ex [.adr] (c1 fun a3 => 0 ≤ a ∧ a < ((data.len : Nat) : Int) ∧ data.a = some a3) (u1 fun a4 =>
.read (True) (ld I.T (Addr.add a4 (Int.toNat a * I.sz))) (.one I.s) (fun n5 =>
I.less n2 n5 (fun b6 =>
.untick <|
.ite (b6) (
.ex [.adr] (c1 fun a7 => swaps = some a7) (u1 fun a8 =>
.read True (ld I.ti a8) (sI .i64) (u1 fun (n9 : Int) =>
.ex [.adr] (c1 fun a10 => swaps = some a10) (u1 fun a11 =>
.actU (st I.ti a11 (.int .i64 (IntKind.wrap .i64 (n9 + 1)))) <|
.lt (.int .i64) (b) fun (n12 : Int) =>
.lt (.int .i64) (a) fun (n13 : Int) =>
.done 0 [.int .i64 n12, .int .i64 n13])))) (
.lt (.int .i64) (a) fun (n14 : Int) =>
.lt (.int .i64) (b) fun (n15 : Int) =>
.done 0 [.int .i64 n14, .int .i64 n15]))))))

def SortI.med (I : SortI) (data : Sl) (a : Int) (b : Int) (c : Int) (swaps : Option Addr) : Prog :=
.call I.f_ord2 ([data.v, .int .i64 a, .int .i64 b, .pointer swaps] ++ I.ex) (.tup [.one (.int .i64), .one (.int .i64)]) (u2 fun (n0 : Int) (n1 : Int) =>
.lt (.int .i64) (n0) fun (n2 : Int) =>
.lt (.int .i64) (n1) fun (n3 : Int) =>
.call I.f_ord2 ([data.v, .int .i64 n3, .int .i64 c, .pointer swaps] ++ I.ex) (.tup [.one (.int .i64), .one (.int .i64)]) (u2 fun (n4 : Int) (n5 : Int) =>
.lt (.int .i64) (n4) fun (n6 : Int) =>
.lt (.int .i64) (n5) fun (n7 : Int) =>
.call I.f_ord2 ([data.v, .int .i64 n2, .int .i64 n6, .pointer swaps] ++ I.ex) (.tup [.one (.int .i64), .one (.int .i64)]) (u2 fun (n8 : Int) (n9 : Int) =>
.lt (.int .i64) (n8) fun (n10 : Int) =>
.lt (.int .i64) (n9) fun (n11 : Int) =>
.lt (.int .i64) (n11) fun (n12 : Int) =>
.done 0 [.int .i64 n12])))

def SortI.medj (I : SortI) (data : Sl) (a : Int) (swaps : Option Addr) : Prog :=
.call I.f_med ([data.v, .int .i64 (IntKind.wrap .i64 (a - 1)), .int .i64 a, .int .i64 (IntKind.wrap .i64 (a + 1)), .pointer swaps] ++ I.ex) (sI .i64) (u1 fun (n0 : Int) =>
.lt (.int .i64) (n0) fun (n1 : Int) =>
.done 0 [.int .i64 n1])

def SortI.piv (I : SortI) (data : Sl) (a : Int) (b : Int) : Prog :=
.lt (.int .i64) (IntKind.wrap .i64 (b - a)) fun (n0 : Int) =>
.act (new I.ti) sA (u1 fun a1 =>
.lt (.int .i64) (IntKind.wrap .i64 (a + IntKind.wrap .i64 (IntKind.wrap .i64 (Int.tdiv n0 4) * 1))) fun (n2 : Int) =>
.lt (.int .i64) (IntKind.wrap .i64 (a + IntKind.wrap .i64 (IntKind.wrap .i64 (Int.tdiv n0 4) * 2))) fun (n3 : Int) =>
.lt (.int .i64) (IntKind.wrap .i64 (a + IntKind.wrap .i64 (IntKind.wrap .i64 (Int.tdiv n0 4) * 3))) fun (n4 : Int) =>
.bind 1 [.one (.int .i64)] (
.ite (decide (n0 ≥ 8)) (
.bind 2 [.one (.int .i64), .one (.int .i64), .one (.int .i64)] (
.ite (decide (n0 ≥ 50)) (
.call I.f_medj ([data.v, .int .i64 n2, .pointer (some a1)] ++ I.ex) (sI .i64) (u1 fun (n5 : Int) =>
.lt (.int .i64) (n5) fun (n6 : Int) =>
.call I.f_medj ([data.v, .int .i64 n3, .pointer (some a1)] ++ I.ex) (sI .i64) (u1 fun (n7 : Int) =>
.lt (.int .i64) (n7) fun (n8 : Int) =>
.call I.f_medj ([data.v, .int .i64 n4, .pointer (some a1)] ++ I.ex) (sI .i64) (u1 fun (n9 : Int) =>
.lt (.int .i64) (n9) fun (n10 : Int) =>
.done 2 [.int .i64 n6, .int .i64 n8, .int .i64 n10])))) (
.done 2 [.int .i64 n2, .int .i64 n3, .int .i64 n4])) (u3 fun (n11 : Int) (n12 : Int) (n13 : Int) =>
.call I.f_med ([data.v, .int .i64 n11, .int .i64 n12, .int .i64 n13, .pointer (some a1)] ++ I.ex) (sI .i64) (u1 fun (n14 : Int) =>
.lt (.int .i64) (n14) fun (n15 : Int) =>
.done 1 [.int .i64 n15]))) (
.done 1 [.int .i64 n3])) (u1 fun (n16 : Int) =>
.read True (ld I.ti a1) (sI .i64) (u1 fun (n17 : Int) =>
.lt (.bool) (n17 == 0) fun b18 =>
.ite (b18) (
.lt (.int .i64) (n16) fun (n19 : Int) =>
.done 0 [.int .i64 n19, .int .i64 1]) (
.lt (.bool) (n17 == 12) fun b20 =>
.ite (b20) (
.lt (.int .i64) (n16) fun (n21 : Int) =>
.done 0 [.int .i64 n21, .int .i64 2]) (
.lt (.int .i64) (n16) fun (n22 : Int) =>
.done 0 [.int .i64 n22, .int .i64 0])))))

def SortI.pdq (I : SortI) (data : Sl) (a : Int) (b : Int) (limit : Int) : Prog :=
.loop 1 [.one (.int .i64), .one (.int .i64), .one (.int .i64), .one .bool, .one .bool] (a, (b, (limit, (true, (true, ()))))) (u5 fun (n0 : Int) (n1 : Int) (n2 : Int) b3 b4 =>
.bind 2 [.one (.int .i64), .one (.int .i64), .one (.int .i64), .one .bool, .one .bool] (
.lt (.int .i64) (IntKind.wrap .i64 (n1 - n0)) fun (n5 : Int) =>
.ite (decide (n5 ≤ 12)) (
.call I.f_ins ([data.v, .int .i64 n0, .int .i64 n1] ++ I.ex) (.tup []) (u0 <|
.done 0 [])) (
.ite (n2 == 0) (
.call I.f_heap ([data.v, .int .i64 n0, .int .i64 n1] ++ I.ex) (.tup []) (u0 <|
.done 0 [])) (
.bind 3 [.one (.int .i64)] (
.ite (not b3) (
.call I.f_brk ([data.v, .int .i64 n0, .int .i64 n1] ++ I.ex) (.tup []) (u0 <|
.lt (.int .i64) (IntKind.wrap .i64 (n2 - 1)) fun (n6 : Int) =>
.done 3 [.int .i64 n6])) (
.done 3 [.int .i64 n2])) (u1 fun (n7 : Int) =>
.call I.f_piv ([data.v, .int .i64 n0, .int .i64 n1] ++ I.ex) (.tup [.one (.int .i64), .one (.int .i64)]) (u2 fun (n8 : Int) (n9 : Int) =>
.lt (.int .i64) (n8) fun (n10 : Int) =>
.lt (.int .i64) (n9) fun (n11 : Int) =>
.bind 3 [.one (.int .i64), .one (.int .i64)] (
.ite (n11 == 2) (
.call I.f_rev ([data.v, .int .i64 n0, .int .i64 n1] ++ I.ex) (.tup []) (u0 <|
.lt (.int .i64) (IntKind.wrap .i64 (IntKind.wrap .i64 (n1 - 1) - IntKind.wrap .i64 (n10 - n0))) fun (n12 : Int) =>
.done 3 [.int .i64 n12, .int .i64 1])) (
.done 3 [.int .i64 n10, .int .i64 n11])) (u2 fun (n13 : Int) (n14 : Int) =>
.bind 3 [] (
.ite (b3 && b4 && n14 == 1) (
.call I.f_pins ([data.v, .int .i64 n0, .int .i64 n1] ++ I.ex) sB (u1 fun b15 =>
.ite (b15) (
.done 0 []) (
.done 3 []))) (
.done 3 [])) (u0 <|
.bind 3 [.one .bool] (
.tick <|
.ex [.adr] (c1 fun a16 => decide (n0 > 0) = true → 0 ≤ IntKind.wrap .i64 (n0 - 1) ∧ IntKind.wrap .i64 (n0 - 1) < ((data.len : Nat) : Int) ∧ data.a = some a16) (u1 fun a17 =>
.read ((decide (n0 > 0) = true)) (ld I.T (Addr.add a17 (Int.toNat (IntKind.wrap .i64 (n0 - 1)) * I.sz))) (.one I.s) (fun n18 =>
.ex [.adr] (c1 fun a19 => decide (n0 > 0) = true → 0 ≤ n13 ∧ n13 < ((data.len : Nat) : Int) ∧ data.a = some a19) (u1 fun a20 =>
.read ((decide (n0 > 0) = true)) (ld I.T (Addr.add a20 (Int.toNat n13 * I.sz))) (.one I.s) (fun n21 =>
.ite (decide (n0 > 0)) (
I.less n18 n21 (fun b22 =>
.untick <|
.done 3 [.bool (not b22)])) (
.untick <|
.done 3 [.bool false])))))) (u1 fun b23 =>
.ite (b23) (
.call I.f_peq ([data.v, .int .i64 n0, .int .i64 n1, .int .i64 n13] ++ I.ex) (sI .i64) (u1 fun (n24 : Int) =>
.lt (.int .i64) (n24) fun (n25 : Int) =>
.lt (.int .i64) (n25) fun (n26 : Int) =>
.done 2 [.int .i64 n26, .int .i64 n1, .int .i64 n7, .bool b3, .bool b4])) (
.call I.f_part ([data.v, .int .i64 n0, .int .i64 n1, .int .i64 n13] ++ I.ex) (.tup [.one (.int .i64), .one .bool]) (u2 fun (n27 : Int) b28 =>
.lt (.int .i64) (n27) fun (n29 : Int) =>
.lt (.bool) (b28) fun b30 =>
.lt (.bool) (b30) fun b31 =>
.lt (.int .i64) (IntKind.wrap .i64 (n29 - n0)) fun (n32 : Int) =>
.lt (.int .i64) (IntKind.wrap .i64 (n1 - n29)) fun (n33 : Int) =>
.lt (.int .i64) (IntKind.wrap .i64 (Int.tdiv n5 8)) fun (n34 : Int) =>
.bind 3 [.one (.int .i64), .one (.int .i64), .one .bool] (
.ite (decide (n32 < n33)) (
.lt (.bool) (decide (n32 ≥ n34)) fun b35 =>
.call I.f_pdq ([data.v, .int .i64 n0, .int .i64 n29, .int .i64 n7] ++ I.ex) (.tup []) (u0 <|
.lt (.int .i64) (IntKind.wrap .i64 (n29 + 1)) fun (n36 : Int) =>
.done 3 [.int .i64 n36, .int .i64 n1, .bool b35])) (
.lt (.bool) (decide (n33 ≥ n34)) fun b37 =>
.call I.f_pdq ([data.v, .int .i64 (IntKind.wrap .i64 (n29 + 1)), .int .i64 n1, .int .i64 n7] ++ I.ex) (.tup []) (u0 <|
.lt (.int .i64) (n29) fun (n38 : Int) =>
.done 3 [.int .i64 n0, .int .i64 n38, .bool b37]))) (u3 fun (n39 : Int) (n40 : Int) b41 =>
.done 2 [.int .i64 n39, .int .i64 n40, .int .i64 n7, .bool b41, .bool b31]))))))))))) (u5 fun (n42 : Int) (n43 : Int) (n44 : Int) b45 b46 =>
.done 1 [.int .i64 n42, .int .i64 n43, .int .i64 n44, .bool b45, .bool b46]))

end Go.Dec