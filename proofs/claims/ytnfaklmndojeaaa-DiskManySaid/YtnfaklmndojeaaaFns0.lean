/- Functions of this seat, decompiled by a program of ours; each is held to the code by the kernel. -/
import Derived.Test.YtnfaklmndojeaaaNames
namespace Go.Dec
set_option linter.unusedVariables false

def towpathlaw04_DiskNews (room : Int) (name : ByteArray) : Prog :=
.call F.towpathlaw04_short [.string name, .int .i64 60] sS (u1 fun s0 =>
.lt (.str) (s0) fun s1 =>
.call F.disk_New [.int .i64 room] (.tup [.one .ptr, .one (.int .i64)]) (u2 fun p2 (n3 : Int) =>
.lt (.int .i64) (n3) fun (n4 : Int) =>
.ite (decide (room < 0) || decide (room > 4194304)) (
.bind 1 [.one .bool] (
.ite (Option.isNone p2 && n4 == 2) (
.call F.towpathlaw04_awake [] sB (u1 fun b5 =>
.lt (.bool) (b5) fun b6 =>
.done 1 [.bool b6])) (
.done 1 [.bool false])) (u1 fun b7 =>
.done 0 [.bool b7])) (
.bind 1 [.one .bool] (
.ite (Option.isNone p2 || n4 != 0) (
.done 1 [.bool true]) (
.call F.disk_Name [.string s1] sB (u1 fun b8 =>
.call F.towpathref04_Name [.string s1] sB (u1 fun b9 =>
.ite (not (b8 == b9)) (
.done 1 [.bool true]) (
.call F.disk_Disk_Free [.pointer p2] (sI .i64) (u1 fun (n10 : Int) =>
.done 1 [.bool (n10 != room)])))))) (u1 fun b11 =>
.ite (b11) (
.done 0 [.bool false]) (
.call F.disk_Disk_Append [.pointer p2, .string s1, .slice none 0 0] (sI .i64) (u1 fun (n12 : Int) =>
.lt (.int .i64) (n12) fun (n13 : Int) =>
.call F.disk_Disk_Read [.pointer p2, .string s1] (.tup [.one .slc, .one (.int .i64)]) (u2 fun l14 (n15 : Int) =>
.lt (.int .i64) (n15) fun (n16 : Int) =>
.bind 1 [.one .bool] (
.call F.towpathref04_Name [.string s1] sB (u1 fun b17 =>
.ite ((n13 == 0) == b17) (
.call F.towpathref04_Name [.string s1] sB (u1 fun b18 =>
.ite ((n16 == 0) == b18) (
.call F.towpathlaw04_awake [] sB (u1 fun b19 =>
.lt (.bool) (b19) fun b20 =>
.done 1 [.bool b20])) (
.done 1 [.bool false]))) (
.done 1 [.bool false]))) (u1 fun b21 =>
.done 0 [.bool b21]))))))))
theorem towpathlaw04_DiskNews_eq (room : Int) (name : ByteArray) : decomp P 75 ⟨okFs, []⟩ { cnd := [], blk := [], reg := [(4, [(4, .one .bool)]), (5, [(50, .one .bool)]), (9, [(4, .one .bool)])], lps := [] } [.tmp 4] (bodyOf Go.Proofs.Try.f3) [.val (.int .i64 room), .val (.string name)] = towpathlaw04_DiskNews room name := by kernel_rfl
theorem towpathlaw04_DiskNews_calls (room : Int) (name : ByteArray) {w : World} {R : List Value → World → Prop} (h : (towpathlaw04_DiskNews room name).wp P (fun _ => True) w fun e vs w' => e = 0 ∧ R vs w') :
    Calls P F.towpathlaw04_DiskNews #[.int .i64 room, .string name] w fun e w' => ∃ vs, e = .returned (pack vs) ∧ R vs w' :=
  decomp_sound (isFn_of Go.Proofs.Try.func3 (by kernel_rfl) (by kernel_rfl) (by kernel_rfl)) okFs_ok mix [.val (.int .i64 room), .val (.string name)] (by rw [towpathlaw04_DiskNews_eq]; exact h)

def towpathlaw04_DiskMany (n : Int) : Prog :=
.lt (.int .i64) (Int.tmod n 20) fun (n0 : Int) =>
.call F.disk_New [.int .i64 1000] (.tup [.one .ptr, .one (.int .i64)]) (u2 fun p1 (n2 : Int) =>
.lt (.int .i64) (n2) fun (n3 : Int) =>
.ite (n3 != 0) (
.done 0 [.bool false]) (
.bind 1 [] (
.loop 2 [.one (.int .i64)] (0, ()) (u1 fun (n4 : Int) =>
.ite (decide (n4 < IntKind.wrap .i64 (128 + n0))) (
.act (Instr.buildSlice T.s_uint8 2 #[(0, .int .u8 (IntKind.wrap .u8 (IntKind.wrap .i64 (97 + IntKind.wrap .i64 (Int.tdiv n4 26))))), (1, .int .u8 (IntKind.wrap .u8 (IntKind.wrap .i64 (97 + Int.tmod n4 26))))]) sL (u1 fun l5 =>
.read True (convert T.s_uint8 T.string l5.v) sS (u1 fun s6 =>
.must (((1 + ByteArray.size s6 : Nat) : Int) ≤ 9223372036854775807) <|
.lt (.str) ((ByteArray.mk #[102]) ++ s6) fun s7 =>
.bind 3 [.one (.int .i64)] (
.ite (decide (n4 ≥ 128)) (
.done 3 [.int .i64 5]) (
.done 3 [.int .i64 0])) (u1 fun (n8 : Int) =>
.act (Instr.buildSlice T.s_uint8 1 #[(0, .int .u8 120)]) sL (u1 fun l9 =>
.act (convert T.s_uint8 T.s_uint8 l9.v) sL (u1 fun l10 =>
.act (Instr.buildSlice T.s_s_uint8 1 #[(0, l10.v)]) sL (u1 fun l11 =>
.call F.disk_Disk_Append [.pointer p1, .string s7, l11.v] (sI .i64) (u1 fun (n12 : Int) =>
.ite (n12 != n8) (
.done 0 [.bool false]) (
.lt (.int .i64) (IntKind.wrap .i64 (n4 + 1)) fun (n13 : Int) =>
.done 2 [.int .i64 n13]))))))))) (
.done 1 []))) (u0 <|
.ite (decide (n0 < 0)) (
.bind 1 [.one .bool] (
.call F.disk_Disk_Names [.pointer p1, .string (ByteArray.mk #[102])] sL (u1 fun l14 =>
.ite (((l14.len : Nat) : Int) == IntKind.wrap .i64 (128 + n0)) (
.call F.towpathlaw04_awake [] sB (u1 fun b15 =>
.lt (.bool) (b15) fun b16 =>
.done 1 [.bool b16])) (
.done 1 [.bool false]))) (u1 fun b17 =>
.done 0 [.bool b17])) (
.bind 1 [.one .bool] (
.call F.disk_Disk_Names [.pointer p1, .string (ByteArray.mk #[])] sL (u1 fun l18 =>
.ite (((l18.len : Nat) : Int) == 128) (
.call F.disk_Disk_Names [.pointer p1, .string (ByteArray.mk #[102, 98])] sL (u1 fun l19 =>
.ite (((l19.len : Nat) : Int) == 26) (
.act (Instr.buildSlice T.s_uint8 1 #[(0, .int .u8 121)]) sL (u1 fun l20 =>
.act (convert T.s_uint8 T.s_uint8 l20.v) sL (u1 fun l21 =>
.act (Instr.buildSlice T.s_s_uint8 1 #[(0, l21.v)]) sL (u1 fun l22 =>
.call F.disk_Disk_Append [.pointer p1, .string (ByteArray.mk #[102, 97, 97]), l22.v] (sI .i64) (u1 fun (n23 : Int) =>
.ite (n23 == 0) (
.call F.disk_Disk_Append [.pointer p1, .string (ByteArray.mk #[122]), .slice none 0 0] (sI .i64) (u1 fun (n24 : Int) =>
.ite (n24 == 5) (
.call F.disk_Disk_Remove [.pointer p1, .string (ByteArray.mk #[102, 97, 97])] (sI .i64) (u1 fun (n25 : Int) =>
.ite (n25 == 0) (
.call F.disk_Disk_Append [.pointer p1, .string (ByteArray.mk #[122]), .slice none 0 0] (sI .i64) (u1 fun (n26 : Int) =>
.ite (n26 == 0) (
.call F.towpathlaw04_awake [] sB (u1 fun b27 =>
.lt (.bool) (b27) fun b28 =>
.done 1 [.bool b28])) (
.done 1 [.bool false]))) (
.done 1 [.bool false]))) (
.done 1 [.bool false]))) (
.done 1 [.bool false])))))) (
.done 1 [.bool false]))) (
.done 1 [.bool false]))) (u1 fun b29 =>
.done 0 [.bool b29])))))
theorem towpathlaw04_DiskMany_eq (n : Int) : decomp P 90 ⟨okFs, []⟩ { cnd := [(524322, [(7, .one (.int .i64))])], blk := [(0, [])], reg := [(15, [(2, .one .bool)]), (16, [(2, .one .bool)])], lps := [(0, [(5, .one (.int .i64))])] } [.tmp 2] (bodyOf Go.Proofs.Try.f4) [.val (.int .i64 n)] = towpathlaw04_DiskMany n := by kernel_rfl
theorem towpathlaw04_DiskMany_calls (n : Int) {w : World} {R : List Value → World → Prop} (h : (towpathlaw04_DiskMany n).wp P (fun _ => True) w fun e vs w' => e = 0 ∧ R vs w') :
    Calls P F.towpathlaw04_DiskMany #[.int .i64 n] w fun e w' => ∃ vs, e = .returned (pack vs) ∧ R vs w' :=
  decomp_sound (isFn_of Go.Proofs.Try.func4 (by kernel_rfl) (by kernel_rfl) (by kernel_rfl)) okFs_ok mix [.val (.int .i64 n)] (by rw [towpathlaw04_DiskMany_eq]; exact h)

def towpathlaw04_DiskSwaps (old : ByteArray) (fresh : ByteArray) (at_ : Int) (picks : Sl) : Prog :=
.call F.towpathlaw04_short [.string old, .int .i64 300] sS (u1 fun s0 =>
.call F.towpathlaw04_short [.string fresh, .int .i64 300] sS (u1 fun s1 =>
.lt (.str) (s0) fun s2 =>
.lt (.str) (s1) fun s3 =>
.bind 1 [.one .slc] (
.ite (decide (((picks.len : Nat) : Int) > 20)) (
.must ((0 : Int) ≤ 20 ∧ 20 ≤ ((picks.cap : Nat) : Int)) <|
.done 1 [.slice picks.a 20 picks.cap]) (
.done 1 [picks.v])) (u1 fun l4 =>
.call F.disk_New [.int .i64 4000] (.tup [.one .ptr, .one (.int .i64)]) (u2 fun p5 (n6 : Int) =>
.lt (.int .i64) (n6) fun (n7 : Int) =>
.bind 1 [.one .bool] (
.ite (n7 != 0) (
.done 1 [.bool true]) (
.act (convert T.string T.s_uint8 (.string s2)) sL (u1 fun l8 =>
.act (Instr.buildSlice T.s_s_uint8 1 #[(0, l8.v)]) sL (u1 fun l9 =>
.call F.disk_Disk_Append [.pointer p5, .string (ByteArray.mk #[120]), l9.v] (sI .i64) (u1 fun (n10 : Int) =>
.ite (n10 != 0) (
.done 1 [.bool true]) (
.act (Instr.buildSlice T.s_string 1 #[(0, .string (ByteArray.mk #[120]))]) sL (u1 fun l11 =>
.call F.disk_Disk_Sync [.pointer p5, l11.v] (sI .i64) (u1 fun (n12 : Int) =>
.done 1 [.bool (n12 != 0)])))))))) (u1 fun b13 =>
.ite (b13) (
.done 0 [.bool false]) (
.lt (.int .i64) (Int.tmod at_ 5) fun (n14 : Int) =>
.bind 1 [.one (.int .i64)] (
.ite (decide (n14 < 0)) (
.lt (.int .i64) (IntKind.wrap .i64 (0 - n14)) fun (n15 : Int) =>
.done 1 [.int .i64 n15]) (
.done 1 [.int .i64 n14])) (u1 fun (n16 : Int) =>
.call F.disk_Disk_Fuse [.pointer p5, .int .i64 n16] (.tup []) (u0 <|
.act (convert T.string T.s_uint8 (.string s3)) sL (u1 fun l17 =>
.act (Instr.buildSlice T.s_s_uint8 1 #[(0, l17.v)]) sL (u1 fun l18 =>
.call F.disk_Disk_Append [.pointer p5, .string (ByteArray.mk #[120, 46, 110, 101, 119]), l18.v] (sI .i64) (u1 fun (n19 : Int) =>
.lt (.int .i64) (n19) fun (n20 : Int) =>
.act (Instr.buildSlice T.s_string 1 #[(0, .string (ByteArray.mk #[120, 46, 110, 101, 119]))]) sL (u1 fun l21 =>
.call F.disk_Disk_Sync [.pointer p5, l21.v] (sI .i64) (u1 fun (n22 : Int) =>
.lt (.int .i64) (n22) fun (n23 : Int) =>
.call F.disk_Disk_Rename [.pointer p5, .string (ByteArray.mk #[120, 46, 110, 101, 119]), .string (ByteArray.mk #[120])] (sI .i64) (u1 fun (n24 : Int) =>
.lt (.int .i64) (n24) fun (n25 : Int) =>
.ite (not ((n20 == 0) == decide (n16 ≥ 1)) || not ((n23 == 0) == decide (n16 ≥ 2)) || not ((n25 == 0) == decide (n16 ≥ 3))) (
.done 0 [.bool false]) (
.call F.disk_Disk_Crash [.pointer p5, l4.v] sP (u1 fun p26 =>
.call F.disk_Disk_Read [.pointer p26, .string (ByteArray.mk #[120])] (.tup [.one .slc, .one (.int .i64)]) (u2 fun l27 (n28 : Int) =>
.lt (.int .i64) (n28) fun (n29 : Int) =>
.lt (.str) (s2) fun s30 =>
.bind 1 [.one .str] (
.ite (decide (n16 ≥ 3)) (
.lt (.str) (s3) fun s31 =>
.done 1 [.string s31]) (
.done 1 [.string s30])) (u1 fun s32 =>
.bind 1 [.one .bool] (
.read ((n29 == 0) = true) (convert T.s_uint8 T.string l27.v) sS (u1 fun s33 =>
.ite (n29 == 0 && ByteArray.toList s33 == ByteArray.toList s32) (
.call F.towpathlaw04_awake [] sB (u1 fun b34 =>
.lt (.bool) (b34) fun b35 =>
.done 1 [.bool b35])) (
.done 1 [.bool false]))) (u1 fun b36 =>
.done 0 [.bool b36])))))))))))))))))))
theorem towpathlaw04_DiskSwaps_eq (old : ByteArray) (fresh : ByteArray) (at_ : Int) (picks : Sl) : decomp P 106 ⟨okFs, []⟩ { cnd := [(206158462999, [(3, .one .slc)]), (13835058055282180145, [(2, .one (.int .i64))]), (81129638414606681695789273579613, [(16, .one .str)])], blk := [], reg := [(5, [(45, .one .bool)]), (20, [(8, .one .bool)])], lps := [] } [.tmp 8] (bodyOf Go.Proofs.Try.f5) [.val (.string old), .val (.string fresh), .val (.int .i64 at_), .val (.slice picks.a picks.len picks.cap)] = towpathlaw04_DiskSwaps old fresh at_ picks := by kernel_rfl
theorem towpathlaw04_DiskSwaps_calls (old : ByteArray) (fresh : ByteArray) (at_ : Int) (picks : Sl) {w : World} {R : List Value → World → Prop} (h : (towpathlaw04_DiskSwaps old fresh at_ picks).wp P (fun _ => True) w fun e vs w' => e = 0 ∧ R vs w') :
    Calls P F.towpathlaw04_DiskSwaps #[.string old, .string fresh, .int .i64 at_, .slice picks.a picks.len picks.cap] w fun e w' => ∃ vs, e = .returned (pack vs) ∧ R vs w' :=
  decomp_sound (isFn_of Go.Proofs.Try.func5 (by kernel_rfl) (by kernel_rfl) (by kernel_rfl)) okFs_ok mix [.val (.string old), .val (.string fresh), .val (.int .i64 at_), .val (.slice picks.a picks.len picks.cap)] (by rw [towpathlaw04_DiskSwaps_eq]; exact h)

def towpathlaw04_DiskPlays (room : Int) (l : Sl) : Prog :=
.call F.towpathlaw04_play [.int .i64 room, l.v, .int .i64 60] (.tup [.one .ptr, .one .ptr, .one .bool]) (u3 fun p0 p1 b2 =>
.lt (.bool) (b2) fun b3 =>
.bind 1 [.one .bool] (
.ite (b3) (
.call F.towpathlaw04_awake [] sB (u1 fun b4 =>
.lt (.bool) (b4) fun b5 =>
.done 1 [.bool b5])) (
.done 1 [.bool false])) (u1 fun b6 =>
.done 0 [.bool b6]))
theorem towpathlaw04_DiskPlays_eq (room : Int) (l : Sl) : decomp P 19 ⟨okFs, []⟩ { cnd := [], blk := [], reg := [(2, [(4, .one .bool)])], lps := [] } [.tmp 4] (bodyOf Go.Proofs.Try.f6) [.val (.int .i64 room), .val (.slice l.a l.len l.cap)] = towpathlaw04_DiskPlays room l := by kernel_rfl
theorem towpathlaw04_DiskPlays_calls (room : Int) (l : Sl) {w : World} {R : List Value → World → Prop} (h : (towpathlaw04_DiskPlays room l).wp P (fun _ => True) w fun e vs w' => e = 0 ∧ R vs w') :
    Calls P F.towpathlaw04_DiskPlays #[.int .i64 room, .slice l.a l.len l.cap] w fun e w' => ∃ vs, e = .returned (pack vs) ∧ R vs w' :=
  decomp_sound (isFn_of Go.Proofs.Try.func6 (by kernel_rfl) (by kernel_rfl) (by kernel_rfl)) okFs_ok mix [.val (.int .i64 room), .val (.slice l.a l.len l.cap)] (by rw [towpathlaw04_DiskPlays_eq]; exact h)

def towpathlaw04_DiskKeeps (room : Int) (l : Sl) (picks : Sl) : Prog :=
.call F.towpathlaw04_play [.int .i64 room, l.v, .int .i64 40] (.tup [.one .ptr, .one .ptr, .one .bool]) (u3 fun p0 p1 b2 =>
.lt (.bool) (b2) fun b3 =>
.ite (not b3) (
.done 0 [.bool false]) (
.bind 1 [.one .slc] (
.ite (decide (((picks.len : Nat) : Int) > 20)) (
.must ((0 : Int) ≤ 20 ∧ 20 ≤ ((picks.cap : Nat) : Int)) <|
.done 1 [.slice picks.a 20 picks.cap]) (
.done 1 [picks.v])) (u1 fun l4 =>
.call F.disk_Disk_Crash [.pointer p0, l4.v] sP (u1 fun p5 =>
.call F.disk_Disk_Names [.pointer p0, .string (ByteArray.mk #[])] sL (u1 fun l6 =>
.bind 1 [.one .bool] (
.ite (Option.isNone p5) (
.done 1 [.bool true]) (
.call F.disk_Disk_Names [.pointer p5, .string (ByteArray.mk #[])] sL (u1 fun l7 =>
.ite (((l7.len : Nat) : Int) != ((l6.len : Nat) : Int)) (
.done 1 [.bool true]) (
.call F.disk_Disk_Gone [.pointer p5] sB (u1 fun b8 =>
.done 1 [.bool b8]))))) (u1 fun b9 =>
.ite (b9) (
.done 0 [.bool false]) (
.bind 1 [] (
.loop 2 [.one (.int .i64)] (0, ()) (u1 fun (n10 : Int) =>
.ite (decide (n10 < ((l6.len : Nat) : Int))) (
.ex [.adr] (c1 fun a11 => 0 ≤ n10 ∧ n10 < ((l6.len : Nat) : Int) ∧ l6.a = some a11) (u1 fun a12 =>
.read True (ld T.string (Addr.add a12 (Int.toNat n10 * 1))) sS (u1 fun s13 =>
.lt (.str) (s13) fun s14 =>
.call F.disk_Disk_Read [.pointer p0, .string s14] (.tup [.one .slc, .one (.int .i64)]) (u2 fun l15 (n16 : Int) =>
.lt (.int .i64) (n16) fun (n17 : Int) =>
.call F.disk_Disk_Read [.pointer p5, .string s14] (.tup [.one .slc, .one (.int .i64)]) (u2 fun l18 (n19 : Int) =>
.lt (.int .i64) (n19) fun (n20 : Int) =>
.bind 3 [.one .bool] (
.tick <|
.must ((n20 != 0 || decide (((l18.len : Nat) : Int) > ((l15.len : Nat) : Int))) = false → 0 ≤ ((l18.len : Nat) : Int) ∧ ((l18.len : Nat) : Int) ≤ ((l15.cap : Nat) : Int)) <|
.read ((n20 != 0 || decide (((l18.len : Nat) : Int) > ((l15.len : Nat) : Int))) = false) (convert T.s_uint8 T.string (.slice l15.a (Int.toNat (((l18.len : Nat) : Int))) l15.cap)) sS (u1 fun s21 =>
.read ((n20 != 0 || decide (((l18.len : Nat) : Int) > ((l15.len : Nat) : Int))) = false) (convert T.s_uint8 T.string l18.v) sS (u1 fun s22 =>
.ite (n20 != 0 || decide (((l18.len : Nat) : Int) > ((l15.len : Nat) : Int)) || not (ByteArray.toList s21 == ByteArray.toList s22)) (
.untick <|
.done 3 [.bool true]) (
.call F.disk_Disk_Kept [.pointer p0, .string s14] (sI .i64) (u1 fun (n23 : Int) =>
.ite (decide (((l18.len : Nat) : Int) < n23)) (
.untick <|
.done 3 [.bool true]) (
.call F.disk_Disk_Kept [.pointer p5, .string s14] (sI .i64) (u1 fun (n24 : Int) =>
.untick <|
.done 3 [.bool (n24 != ((l18.len : Nat) : Int))]))))))) (u1 fun b25 =>
.ite (b25) (
.done 0 [.bool false]) (
.done 2 [.int .i64 (IntKind.wrap .i64 (n10 + 1))]))))))) (
.done 1 []))) (u0 <|
.call F.disk_Disk_Sync [.pointer p0, .slice none 0 0] (sI .i64) (u1 fun (n26 : Int) =>
.bind 1 [] (
.ite (n26 == 0) (
.bind 2 [] (
.loop 3 [.one (.int .i64)] (0, ()) (u1 fun (n27 : Int) =>
.ite (decide (n27 < ((l6.len : Nat) : Int))) (
.ex [.adr] (c1 fun a28 => 0 ≤ n27 ∧ n27 < ((l6.len : Nat) : Int) ∧ l6.a = some a28) (u1 fun a29 =>
.read True (ld T.string (Addr.add a29 (Int.toNat n27 * 1))) sS (u1 fun s30 =>
.lt (.str) (s30) fun s31 =>
.call F.disk_Disk_Read [.pointer p0, .string s31] (.tup [.one .slc, .one (.int .i64)]) (u2 fun l32 (n33 : Int) =>
.lt (.int .i64) (n33) fun (n34 : Int) =>
.call F.disk_Disk_Crash [.pointer p0, .slice none 0 0] sP (u1 fun p35 =>
.call F.disk_Disk_Read [.pointer p35, .string s31] (.tup [.one .slc, .one (.int .i64)]) (u2 fun l36 (n37 : Int) =>
.lt (.int .i64) (n37) fun (n38 : Int) =>
.read True (convert T.s_uint8 T.string l32.v) sS (u1 fun s39 =>
.read True (convert T.s_uint8 T.string l36.v) sS (u1 fun s40 =>
.ite (not (ByteArray.toList s39 == ByteArray.toList s40)) (
.done 0 [.bool false]) (
.done 3 [.int .i64 (IntKind.wrap .i64 (n27 + 1))]))))))))) (
.done 2 []))) (u0 <|
.done 1 [])) (
.done 1 [])) (u0 <|
.call F.towpathlaw04_awake [] sB (u1 fun b41 =>
.lt (.bool) (b41) fun b42 =>
.done 0 [.bool b42])))))))))))
theorem towpathlaw04_DiskKeeps_eq (room : Int) (l : Sl) (picks : Sl) : decomp P 140 ⟨okFs, []⟩ { cnd := [(844424930148387, [(2, .one .slc)]), (2854495300341328031881956073055338481395695729, [])], blk := [(0, []), (2, [])], reg := [(8, [(56, .one .bool)]), (15, [(109, .one .bool)])], lps := [(0, [(59, .one (.int .i64))]), (2, [(116, .one (.int .i64))])] } [.tmp 6] (bodyOf Go.Proofs.Try.f7) [.val (.int .i64 room), .val (.slice l.a l.len l.cap), .val (.slice picks.a picks.len picks.cap)] = towpathlaw04_DiskKeeps room l picks := by kernel_rfl
theorem towpathlaw04_DiskKeeps_calls (room : Int) (l : Sl) (picks : Sl) {w : World} {R : List Value → World → Prop} (h : (towpathlaw04_DiskKeeps room l picks).wp P (fun _ => True) w fun e vs w' => e = 0 ∧ R vs w') :
    Calls P F.towpathlaw04_DiskKeeps #[.int .i64 room, .slice l.a l.len l.cap, .slice picks.a picks.len picks.cap] w fun e w' => ∃ vs, e = .returned (pack vs) ∧ R vs w' :=
  decomp_sound (isFn_of Go.Proofs.Try.func7 (by kernel_rfl) (by kernel_rfl) (by kernel_rfl)) okFs_ok mix [.val (.int .i64 room), .val (.slice l.a l.len l.cap), .val (.slice picks.a picks.len picks.cap)] (by rw [towpathlaw04_DiskKeeps_eq]; exact h)

def towpathlaw04_DiskFull (room : Int) (l : Sl) : Prog :=
.lt (.int .i64) (Int.tmod room 800) fun (n0 : Int) =>
.bind 1 [.one (.int .i64)] (
.ite (decide (n0 < 0)) (
.lt (.int .i64) (IntKind.wrap .i64 (0 - n0)) fun (n1 : Int) =>
.done 1 [.int .i64 n1]) (
.done 1 [.int .i64 n0])) (u1 fun (n2 : Int) =>
.call F.disk_New [.int .i64 n2] (.tup [.one .ptr, .one (.int .i64)]) (u2 fun p3 (n4 : Int) =>
.lt (.int .i64) (n4) fun (n5 : Int) =>
.call F.towpathref04_New [.int .i64 n2] sP (u1 fun p6 =>
.ite (n5 != 0) (
.done 0 [.bool false]) (
.bind 1 [] (
.loop 2 [.one (.int .i64)] (0, ()) (u1 fun (n7 : Int) =>
.ite (decide (n7 < ((l.len : Nat) : Int))) (
.bind 3 [] (
.ex [.adr] (c1 fun a8 => 0 ≤ n7 ∧ n7 < ((l.len : Nat) : Int) ∧ l.a = some a8) (u1 fun a9 =>
.read True (ld T.towpathlaw04_Op (Addr.add a9 (Int.toNat n7 * 6))) (sG [.int .i64, .str, .str, .str, .int .i64, .slc]) (u6 fun (n10 : Int) s11 s12 s13 (n14 : Int) l15 =>
.act (new T.towpathlaw04_Op) sA (u1 fun a16 =>
.lt (.int .i64) (n7) fun (n17 : Int) =>
.actU (st T.towpathlaw04_Op a16 (.agg #[.int .i64 n10, .string s11, .string s12, .string s13, .int .i64 n14, l15.v])) <|
.ite (decide (n17 ≥ 60)) (
.done 1 []) (
.read True (ld T.int (Addr.add a16 0)) (sI .i64) (u1 fun (n18 : Int) =>
.read ((n18 == 7) = false) (ld T.int (Addr.add a16 0)) (sI .i64) (u1 fun (n19 : Int) =>
.ite (n18 == 7 || n19 == 9) (
.done 3 []) (
.call F.towpathref04_Disk_Copy [.pointer p6] sP (u1 fun p20 =>
.read True (ld T.towpathlaw04_Op a16) (sG [.int .i64, .str, .str, .str, .int .i64, .slc]) (u6 fun (n21 : Int) s22 s23 s24 (n25 : Int) l26 =>
.call F.towpathlaw04_small [.agg #[.int .i64 n21, .string s22, .string s23, .string s24, .int .i64 n25, l26.v]] (sG [.int .i64, .str, .str, .str, .int .i64, .slc]) (u6 fun (n27 : Int) s28 s29 s30 (n31 : Int) l32 =>
.call F.towpathlaw04_step [.pointer p3, .pointer p6, .agg #[.int .i64 n27, .string s28, .string s29, .string s30, .int .i64 n31, l32.v]] (.tup [.one .ptr, .one .ptr, .one .bool]) (u3 fun p33 p34 b35 =>
.lt (.bool) (b35) fun b36 =>
.bind 4 [.one .bool] (
.ite (not b36) (
.done 4 [.bool true]) (
.call F.disk_Disk_Used [.pointer p33] (sI .i64) (u1 fun (n37 : Int) =>
.ite (decide (n37 > n2)) (
.done 4 [.bool true]) (
.call F.disk_Disk_Free [.pointer p33] (sI .i64) (u1 fun (n38 : Int) =>
.call F.disk_Disk_Used [.pointer p33] (sI .i64) (u1 fun (n39 : Int) =>
.done 4 [.bool (n38 != IntKind.wrap .i64 (n2 - n39))])))))) (u1 fun b40 =>
.ite (b40) (
.done 0 [.bool false]) (
.read True (ld T.string (Addr.add a16 3)) sS (u1 fun s41 =>
.call F.towpathlaw04_short [.string s41, .int .i64 300] sS (u1 fun s42 =>
.lt (.str) (s42) fun s43 =>
.bind 4 [.one .bool] (
.read True (ld T.int (Addr.add a16 0)) (sI .i64) (u1 fun (n44 : Int) =>
.read (decide (n44 ≤ 1) = true) (ld T.int (Addr.add a16 0)) (sI .i64) (u1 fun (n45 : Int) =>
.ite (decide (n44 ≤ 1) && decide (n45 ≥ 0)) (
.call F.towpathref04_Disk_Free [.pointer p20] (sI .i64) (u1 fun (n46 : Int) =>
.ite (decide (((ByteArray.size s43 : Nat) : Int) > n46)) (
.call F.towpathlaw04_same [.pointer p3, .pointer p20] sB (u1 fun b47 =>
.done 4 [.bool (not b47)])) (
.done 4 [.bool false]))) (
.done 4 [.bool false])))) (u1 fun b48 =>
.ite (b48) (
.done 0 [.bool false]) (
.done 3 [])))))))))))))))))) (u0 <|
.done 2 [.int .i64 (IntKind.wrap .i64 (n7 + 1))])) (
.done 1 []))) (u0 <|
.call F.towpathlaw04_awake [] sB (u1 fun b49 =>
.lt (.bool) (b49) fun b50 =>
.done 0 [.bool b50]))))))
theorem towpathlaw04_DiskFull_eq (room : Int) (l : Sl) : decomp P 101 ⟨okFs, []⟩ { cnd := [(6442455058, [(0, .one (.int .i64))])], blk := [(0, []), (1, [])], reg := [(15, [(74, .one .bool)]), (18, [(98, .one .bool)])], lps := [(0, [(32, .one (.int .i64))])] } [.tmp 4] (bodyOf Go.Proofs.Try.f8) [.val (.int .i64 room), .val (.slice l.a l.len l.cap)] = towpathlaw04_DiskFull room l := by kernel_rfl
theorem towpathlaw04_DiskFull_calls (room : Int) (l : Sl) {w : World} {R : List Value → World → Prop} (h : (towpathlaw04_DiskFull room l).wp P (fun _ => True) w fun e vs w' => e = 0 ∧ R vs w') :
    Calls P F.towpathlaw04_DiskFull #[.int .i64 room, .slice l.a l.len l.cap] w fun e w' => ∃ vs, e = .returned (pack vs) ∧ R vs w' :=
  decomp_sound (isFn_of Go.Proofs.Try.func8 (by kernel_rfl) (by kernel_rfl) (by kernel_rfl)) okFs_ok mix [.val (.int .i64 room), .val (.slice l.a l.len l.cap)] (by rw [towpathlaw04_DiskFull_eq]; exact h)

def towpathlaw04_DiskApart (l : Sl) (on : Sl) (off : Sl) : Prog :=
.call F.towpathlaw04_play [.int .i64 4000, l.v, .int .i64 30] (.tup [.one .ptr, .one .ptr, .one .bool]) (u3 fun p0 p1 b2 =>
.lt (.bool) (b2) fun b3 =>
.ite (not b3) (
.done 0 [.bool false]) (
.act (Instr.buildSlice T.s_int 1 #[(0, .int .i64 3)]) sL (u1 fun l4 =>
.call F.disk_Disk_Crash [.pointer p0, l4.v] sP (u1 fun p5 =>
.act (Instr.buildSlice T.s_int 1 #[(0, .int .i64 3)]) sL (u1 fun l6 =>
.call F.towpathref04_Disk_Crash [.pointer p1, l6.v] sP (u1 fun p7 =>
.bind 1 [.one .bool] (
.loop 2 [.one .ptr, .one .ptr, .one .bool, .one .ptr, .one .ptr, .one (.int .i64)] (p0, (p1, (b3, (p5, (p7, (0, ())))))) (u6 fun p8 p9 b10 p11 p12 (n13 : Int) =>
.ite (decide (n13 < 30) && b10) (
.bind 3 [.one .ptr, .one .ptr, .one .bool] (
.ite (decide (n13 < ((on.len : Nat) : Int))) (
.ex [.adr] (c1 fun a14 => 0 ≤ n13 ∧ n13 < ((on.len : Nat) : Int) ∧ on.a = some a14) (u1 fun a15 =>
.read True (ld T.towpathlaw04_Op (Addr.add a15 (Int.toNat n13 * 6))) (sG [.int .i64, .str, .str, .str, .int .i64, .slc]) (u6 fun (n16 : Int) s17 s18 s19 (n20 : Int) l21 =>
.call F.towpathlaw04_small [.agg #[.int .i64 n16, .string s17, .string s18, .string s19, .int .i64 n20, l21.v]] (sG [.int .i64, .str, .str, .str, .int .i64, .slc]) (u6 fun (n22 : Int) s23 s24 s25 (n26 : Int) l27 =>
.call F.towpathlaw04_step [.pointer p8, .pointer p9, .agg #[.int .i64 n22, .string s23, .string s24, .string s25, .int .i64 n26, l27.v]] (.tup [.one .ptr, .one .ptr, .one .bool]) (u3 fun p28 p29 b30 =>
.lt (.bool) (b30) fun b31 =>
.done 3 [.pointer p28, .pointer p29, .bool b31]))))) (
.done 3 [.pointer p8, .pointer p9, .bool b10])) (u3 fun p32 p33 b34 =>
.bind 3 [.one .bool, .one .ptr, .one .ptr] (
.ite (b34 && decide (n13 < ((off.len : Nat) : Int))) (
.ex [.adr] (c1 fun a35 => 0 ≤ n13 ∧ n13 < ((off.len : Nat) : Int) ∧ off.a = some a35) (u1 fun a36 =>
.read True (ld T.towpathlaw04_Op (Addr.add a36 (Int.toNat n13 * 6))) (sG [.int .i64, .str, .str, .str, .int .i64, .slc]) (u6 fun (n37 : Int) s38 s39 s40 (n41 : Int) l42 =>
.call F.towpathlaw04_small [.agg #[.int .i64 n37, .string s38, .string s39, .string s40, .int .i64 n41, l42.v]] (sG [.int .i64, .str, .str, .str, .int .i64, .slc]) (u6 fun (n43 : Int) s44 s45 s46 (n47 : Int) l48 =>
.call F.towpathlaw04_step [.pointer p11, .pointer p12, .agg #[.int .i64 n43, .string s44, .string s45, .string s46, .int .i64 n47, l48.v]] (.tup [.one .ptr, .one .ptr, .one .bool]) (u3 fun p49 p50 b51 =>
.lt (.bool) (b51) fun b52 =>
.done 3 [.bool b52, .pointer p49, .pointer p50]))))) (
.done 3 [.bool b34, .pointer p11, .pointer p12])) (u3 fun b53 p54 p55 =>
.bind 3 [.one .bool] (
.ite (b53) (
.call F.towpathlaw04_same [.pointer p32, .pointer p33] sB (u1 fun b56 =>
.ite (b56) (
.call F.towpathlaw04_same [.pointer p54, .pointer p55] sB (u1 fun b57 =>
.lt (.bool) (b57) fun b58 =>
.done 3 [.bool b58])) (
.done 3 [.bool false]))) (
.done 3 [.bool false])) (u1 fun b59 =>
.lt (.int .i64) (IntKind.wrap .i64 (n13 + 1)) fun (n60 : Int) =>
.done 2 [.pointer p32, .pointer p33, .bool b59, .pointer p54, .pointer p55, .int .i64 n60])))) (
.done 1 [.bool b10]))) (u1 fun b61 =>
.bind 1 [.one .bool] (
.ite (b61) (
.call F.towpathlaw04_awake [] sB (u1 fun b62 =>
.lt (.bool) (b62) fun b63 =>
.done 1 [.bool b63])) (
.done 1 [.bool false])) (u1 fun b64 =>
.done 0 [.bool b64]))))))))
theorem towpathlaw04_DiskApart_eq (l : Sl) (on : Sl) (off : Sl) : decomp P 84 ⟨okFs, []⟩ { cnd := [(4610560118524215333, [(7, .one .ptr), (8, .one .ptr), (9, .one .bool)]), (2417261343418899658440760, [(9, .one .bool), (10, .one .ptr), (11, .one .ptr)])], blk := [(0, [(9, .one .bool)])], reg := [(12, [(9, .one .bool)]), (13, [(6, .one .bool)])], lps := [(0, [(7, .one .ptr), (8, .one .ptr), (9, .one .bool), (10, .one .ptr), (11, .one .ptr), (12, .one (.int .i64))])] } [.tmp 6] (bodyOf Go.Proofs.Try.f9) [.val (.slice l.a l.len l.cap), .val (.slice on.a on.len on.cap), .val (.slice off.a off.len off.cap)] = towpathlaw04_DiskApart l on off := by kernel_rfl
theorem towpathlaw04_DiskApart_calls (l : Sl) (on : Sl) (off : Sl) {w : World} {R : List Value → World → Prop} (h : (towpathlaw04_DiskApart l on off).wp P (fun _ => True) w fun e vs w' => e = 0 ∧ R vs w') :
    Calls P F.towpathlaw04_DiskApart #[.slice l.a l.len l.cap, .slice on.a on.len on.cap, .slice off.a off.len off.cap] w fun e w' => ∃ vs, e = .returned (pack vs) ∧ R vs w' :=
  decomp_sound (isFn_of Go.Proofs.Try.func9 (by kernel_rfl) (by kernel_rfl) (by kernel_rfl)) okFs_ok mix [.val (.slice l.a l.len l.cap), .val (.slice on.a on.len on.cap), .val (.slice off.a off.len off.cap)] (by rw [towpathlaw04_DiskApart_eq]; exact h)

def towpathlaw04_DiskNil (name : ByteArray) (n : Int) : Prog :=
.call F.towpathlaw04_short [.string name, .int .i64 60] sS (u1 fun s0 =>
.lt (.str) (s0) fun s1 =>
.call F.disk_Disk_Read [.pointer none, .string s1] (.tup [.one .slc, .one (.int .i64)]) (u2 fun l2 (n3 : Int) =>
.lt (.int .i64) (n3) fun (n4 : Int) =>
.call F.disk_Disk_Fuse [.pointer none, .int .i64 n] (.tup []) (u0 <|
.bind 1 [.one .bool] (
.ite (((l2.len : Nat) : Int) != 0 || n4 != 1) (
.done 1 [.bool true]) (
.act (Instr.buildSlice T.s_s_uint8 1 #[(0, l2.v)]) sL (u1 fun l5 =>
.call F.disk_Disk_Append [.pointer none, .string s1, l5.v] (sI .i64) (u1 fun (n6 : Int) =>
.ite (n6 != 1) (
.done 1 [.bool true]) (
.call F.disk_Disk_Sync [.pointer none, .slice none 0 0] (sI .i64) (u1 fun (n7 : Int) =>
.ite (n7 != 1) (
.done 1 [.bool true]) (
.call F.disk_Disk_Cut [.pointer none, .string s1, .int .i64 n] (sI .i64) (u1 fun (n8 : Int) =>
.ite (n8 != 1) (
.done 1 [.bool true]) (
.call F.disk_Disk_Rename [.pointer none, .string s1, .string s1] (sI .i64) (u1 fun (n9 : Int) =>
.ite (n9 != 1) (
.done 1 [.bool true]) (
.call F.disk_Disk_Remove [.pointer none, .string s1] (sI .i64) (u1 fun (n10 : Int) =>
.done 1 [.bool (n10 != 1)])))))))))))) (u1 fun b11 =>
.ite (b11) (
.done 0 [.bool false]) (
.bind 1 [.one .bool] (
.call F.disk_Disk_Size [.pointer none, .string s1] (sI .i64) (u1 fun (n12 : Int) =>
.ite (n12 == 0) (
.call F.disk_Disk_Kept [.pointer none, .string s1] (sI .i64) (u1 fun (n13 : Int) =>
.ite (n13 == 0) (
.call F.disk_Disk_Names [.pointer none, .string (ByteArray.mk #[])] sL (u1 fun l14 =>
.ite (((l14.len : Nat) : Int) == 0) (
.call F.disk_Disk_Used [.pointer none] (sI .i64) (u1 fun (n15 : Int) =>
.ite (n15 == 0) (
.call F.disk_Disk_Free [.pointer none] (sI .i64) (u1 fun (n16 : Int) =>
.ite (n16 == 0) (
.call F.disk_Disk_Room [.pointer none, .int .i64 n] (sI .i64) (u1 fun (n17 : Int) =>
.ite (n17 == 1) (
.call F.disk_Disk_Gone [.pointer none] sB (u1 fun b18 =>
.ite (b18) (
.act (Instr.buildSlice T.s_int 1 #[(0, .int .i64 n)]) sL (u1 fun l19 =>
.call F.disk_Disk_Crash [.pointer none, l19.v] sP (u1 fun p20 =>
.ite (Option.isNone p20) (
.call F.towpathlaw04_awake [] sB (u1 fun b21 =>
.lt (.bool) (b21) fun b22 =>
.done 1 [.bool b22])) (
.done 1 [.bool false])))) (
.done 1 [.bool false]))) (
.done 1 [.bool false]))) (
.done 1 [.bool false]))) (
.done 1 [.bool false]))) (
.done 1 [.bool false]))) (
.done 1 [.bool false]))) (
.done 1 [.bool false]))) (u1 fun b23 =>
.done 0 [.bool b23]))))))
theorem towpathlaw04_DiskNil_eq (name : ByteArray) (n : Int) : decomp P 105 ⟨okFs, []⟩ { cnd := [], blk := [], reg := [(5, [(58, .one .bool)]), (7, [(4, .one .bool)])], lps := [] } [.tmp 4] (bodyOf Go.Proofs.Try.f10) [.val (.string name), .val (.int .i64 n)] = towpathlaw04_DiskNil name n := by kernel_rfl
theorem towpathlaw04_DiskNil_calls (name : ByteArray) (n : Int) {w : World} {R : List Value → World → Prop} (h : (towpathlaw04_DiskNil name n).wp P (fun _ => True) w fun e vs w' => e = 0 ∧ R vs w') :
    Calls P F.towpathlaw04_DiskNil #[.string name, .int .i64 n] w fun e w' => ∃ vs, e = .returned (pack vs) ∧ R vs w' :=
  decomp_sound (isFn_of Go.Proofs.Try.func10 (by kernel_rfl) (by kernel_rfl) (by kernel_rfl)) okFs_ok mix [.val (.string name), .val (.int .i64 n)] (by rw [towpathlaw04_DiskNil_eq]; exact h)

def towpathlaw04_short (s : ByteArray) (most : Int) : Prog :=
.ite (decide (((ByteArray.size s : Nat) : Int) > most)) (
.must (0 ≤ most ∧ most ≤ ((ByteArray.size s : Nat) : Int)) <|
.lt (.str) (ByteArray.extract s 0 (Int.toNat most)) fun s0 =>
.done 0 [.string s0]) (
.lt (.str) (s) fun s1 =>
.done 0 [.string s1])
theorem towpathlaw04_short_eq (s : ByteArray) (most : Int) : decomp P 13 ⟨okFs, []⟩ { cnd := [], blk := [], reg := [], lps := [] } [.tmp 4] (bodyOf Go.Proofs.Try.f11) [.val (.string s), .val (.int .i64 most)] = towpathlaw04_short s most := by kernel_rfl
theorem towpathlaw04_short_calls (s : ByteArray) (most : Int) {w : World} {R : List Value → World → Prop} (h : (towpathlaw04_short s most).wp P (fun _ => True) w fun e vs w' => e = 0 ∧ R vs w') :
    Calls P F.towpathlaw04_short #[.string s, .int .i64 most] w fun e w' => ∃ vs, e = .returned (pack vs) ∧ R vs w' :=
  decomp_sound (isFn_of Go.Proofs.Try.func11 (by kernel_rfl) (by kernel_rfl) (by kernel_rfl)) okFs_ok mix [.val (.string s), .val (.int .i64 most)] (by rw [towpathlaw04_short_eq]; exact h)

def disk_New (room : Int) : Prog :=
.ite (decide (room < 0) || decide (room > 4194304)) (
.done 0 [.pointer none, .int .i64 2]) (
.act (Instr.makeMap T.m_string_p_disk_file none) sM (u1 fun m0 =>
.act (Instr.box T.disk_Disk (.agg #[.int .i64 (-1), .bool false, .int .i64 room, .int .i64 0, .map m0])) sA (u1 fun a1 =>
.done 0 [.pointer (some a1), .int .i64 0])))
theorem disk_New_eq (room : Int) : decomp P 15 ⟨okFs, []⟩ { cnd := [], blk := [], reg := [], lps := [] } [.tmp 2, .tmp 3] (bodyOf Go.Proofs.Try.f12) [.val (.int .i64 room)] = disk_New room := by kernel_rfl
theorem disk_New_calls (room : Int) {w : World} {R : List Value → World → Prop} (h : (disk_New room).wp P (fun _ => True) w fun e vs w' => e = 0 ∧ R vs w') :
    Calls P F.disk_New #[.int .i64 room] w fun e w' => ∃ vs, e = .returned (pack vs) ∧ R vs w' :=
  decomp_sound (isFn_of Go.Proofs.Try.func12 (by kernel_rfl) (by kernel_rfl) (by kernel_rfl)) okFs_ok mix [.val (.int .i64 room)] (by rw [disk_New_eq]; exact h)

def towpathlaw04_awake  : Prog :=
.call F.disk_New [.int .i64 10] (.tup [.one .ptr, .one (.int .i64)]) (u2 fun p0 (n1 : Int) =>
.lt (.int .i64) (n1) fun (n2 : Int) =>
.ite (n2 != 0 || Option.isNone p0) (
.done 0 [.bool false]) (
.act (Instr.buildSlice T.s_uint8 7 #[(0, .int .u8 49), (1, .int .u8 50), (2, .int .u8 51), (3, .int .u8 52), (4, .int .u8 53), (5, .int .u8 54), (6, .int .u8 55)]) sL (u1 fun l3 =>
.act (convert T.s_uint8 T.s_uint8 l3.v) sL (u1 fun l4 =>
.act (Instr.buildSlice T.s_s_uint8 1 #[(0, l4.v)]) sL (u1 fun l5 =>
.call F.disk_Disk_Append [.pointer p0, .string (ByteArray.mk #[97]), l5.v] (sI .i64) (u1 fun (n6 : Int) =>
.lt (.int .i64) (n6) fun (n7 : Int) =>
.act (Instr.buildSlice T.s_string 1 #[(0, .string (ByteArray.mk #[97]))]) sL (u1 fun l8 =>
.call F.disk_Disk_Sync [.pointer p0, l8.v] (sI .i64) (u1 fun (n9 : Int) =>
.lt (.int .i64) (n9) fun (n10 : Int) =>
.act (Instr.buildSlice T.s_uint8 1 #[(0, .int .u8 56)]) sL (u1 fun l11 =>
.act (convert T.s_uint8 T.s_uint8 l11.v) sL (u1 fun l12 =>
.act (Instr.buildSlice T.s_uint8 1 #[(0, .int .u8 57)]) sL (u1 fun l13 =>
.act (convert T.s_uint8 T.s_uint8 l13.v) sL (u1 fun l14 =>
.act (Instr.buildSlice T.s_s_uint8 2 #[(0, l12.v), (1, l14.v)]) sL (u1 fun l15 =>
.call F.disk_Disk_Append [.pointer p0, .string (ByteArray.mk #[97]), l15.v] (sI .i64) (u1 fun (n16 : Int) =>
.lt (.int .i64) (n16) fun (n17 : Int) =>
.act (Instr.buildSlice T.s_uint8 2 #[(0, .int .u8 49), (1, .int .u8 50)]) sL (u1 fun l18 =>
.act (convert T.s_uint8 T.s_uint8 l18.v) sL (u1 fun l19 =>
.act (Instr.buildSlice T.s_s_uint8 1 #[(0, l19.v)]) sL (u1 fun l20 =>
.call F.disk_Disk_Append [.pointer p0, .string (ByteArray.mk #[98]), l20.v] (sI .i64) (u1 fun (n21 : Int) =>
.lt (.int .i64) (n21) fun (n22 : Int) =>
.call F.disk_Disk_Crash [.pointer p0, .slice none 0 0] sP (u1 fun p23 =>
.call F.disk_Disk_Read [.pointer p23, .string (ByteArray.mk #[97])] (.tup [.one .slc, .one (.int .i64)]) (u2 fun l24 (n25 : Int) =>
.lt (.int .i64) (n25) fun (n26 : Int) =>
.act (Instr.buildSlice T.s_int 1 #[(0, .int .i64 1)]) sL (u1 fun l27 =>
.call F.disk_Disk_Crash [.pointer p0, l27.v] sP (u1 fun p28 =>
.call F.disk_Disk_Read [.pointer p28, .string (ByteArray.mk #[97])] (.tup [.one .slc, .one (.int .i64)]) (u2 fun l29 (n30 : Int) =>
.lt (.int .i64) (n30) fun (n31 : Int) =>
.call F.disk_Disk_Fuse [.pointer p0, .int .i64 1] (.tup []) (u0 <|
.call F.disk_Disk_Append [.pointer p0, .string (ByteArray.mk #[98]), .slice none 0 0] (sI .i64) (u1 fun (n32 : Int) =>
.lt (.int .i64) (n32) fun (n33 : Int) =>
.bind 1 [.one .bool] (
.read ((n7 == 0 && n10 == 0 && n17 == 0 && n22 == 5) = true) (convert T.s_uint8 T.string l24.v) sS (u1 fun s34 =>
.read ((n7 == 0 && n10 == 0 && n17 == 0 && n22 == 5 && ByteArray.toList s34 == ByteArray.toList (ByteArray.mk #[49, 50, 51, 52, 53, 54, 55])) = true) (convert T.s_uint8 T.string l29.v) sS (u1 fun s35 =>
.ite (n7 == 0 && n10 == 0 && n17 == 0 && n22 == 5 && ByteArray.toList s34 == ByteArray.toList (ByteArray.mk #[49, 50, 51, 52, 53, 54, 55]) && ByteArray.toList s35 == ByteArray.toList (ByteArray.mk #[49, 50, 51, 52, 53, 54, 55, 56]) && n33 == 0) (
.act (Instr.buildSlice T.s_string 1 #[(0, .string (ByteArray.mk #[97]))]) sL (u1 fun l36 =>
.call F.disk_Disk_Sync [.pointer p0, l36.v] (sI .i64) (u1 fun (n37 : Int) =>
.ite (n37 == 9) (
.call F.disk_Disk_Gone [.pointer p0] sB (u1 fun b38 =>
.lt (.bool) (b38) fun b39 =>
.done 1 [.bool b39])) (
.done 1 [.bool false])))) (
.done 1 [.bool false])))) (u1 fun b40 =>
.done 0 [.bool b40]))))))))))))))))))))))))))
theorem towpathlaw04_awake_eq  : decomp P 97 ⟨okFs, []⟩ { cnd := [], blk := [], reg := [(12, [(0, .one .bool)])], lps := [] } [.tmp 0] (bodyOf Go.Proofs.Try.f13) [] = towpathlaw04_awake  := by kernel_rfl
theorem towpathlaw04_awake_calls  {w : World} {R : List Value → World → Prop} (h : (towpathlaw04_awake ).wp P (fun _ => True) w fun e vs w' => e = 0 ∧ R vs w') :
    Calls P F.towpathlaw04_awake #[] w fun e w' => ∃ vs, e = .returned (pack vs) ∧ R vs w' :=
  decomp_sound (isFn_of Go.Proofs.Try.func13 (by kernel_rfl) (by kernel_rfl) (by kernel_rfl)) okFs_ok mix [] (by rw [towpathlaw04_awake_eq]; exact h)

def disk_Name (s : ByteArray) : Prog :=
.ite (decide (((ByteArray.size s : Nat) : Int) < 1) || decide (((ByteArray.size s : Nat) : Int) > 24)) (
.done 0 [.bool false]) (
.act (convert T.string T.s_uint8 (.string s)) sL (u1 fun l0 =>
.bind 1 [] (
.loop 2 [.one (.int .i64)] (0, ()) (u1 fun (n1 : Int) =>
.ite (decide (n1 < ((l0.len : Nat) : Int))) (
.ex [.adr] (c1 fun a2 => 0 ≤ n1 ∧ n1 < ((l0.len : Nat) : Int) ∧ l0.a = some a2) (u1 fun a3 =>
.read True (ld T.uint8 (Addr.add a3 (Int.toNat n1 * 1))) (sI .u8) (u1 fun (n4 : Int) =>
.lt (.int .u8) (n4) fun (n5 : Int) =>
.lt (.bool) (decide (n5 ≥ 97) && decide (n5 ≤ 122)) fun b6 =>
.lt (.bool) (decide (n5 ≥ 48) && decide (n5 ≤ 57)) fun b7 =>
.ite (not b6 && not b7 && n5 != 46 && n5 != 45) (
.done 0 [.bool false]) (
.done 2 [.int .i64 (IntKind.wrap .i64 (n1 + 1))])))) (
.done 1 []))) (u0 <|
.done 0 [.bool true])))
theorem disk_Name_eq (s : ByteArray) : decomp P 49 ⟨okFs, []⟩ { cnd := [], blk := [(0, [])], reg := [], lps := [(0, [(18, .one (.int .i64))])] } [.tmp 2] (bodyOf Go.Proofs.Try.f14) [.val (.string s)] = disk_Name s := by kernel_rfl
theorem disk_Name_calls (s : ByteArray) {w : World} {R : List Value → World → Prop} (h : (disk_Name s).wp P (fun _ => True) w fun e vs w' => e = 0 ∧ R vs w') :
    Calls P F.disk_Name #[.string s] w fun e w' => ∃ vs, e = .returned (pack vs) ∧ R vs w' :=
  decomp_sound (isFn_of Go.Proofs.Try.func14 (by kernel_rfl) (by kernel_rfl) (by kernel_rfl)) okFs_ok mix [.val (.string s)] (by rw [disk_Name_eq]; exact h)

def towpathref04_Name (s : ByteArray) : Prog :=
.bind 1 [] (
.loop 2 [.one (.int .i64)] (0, ()) (u1 fun (n0 : Int) =>
.ite (decide (n0 < ((ByteArray.size s : Nat) : Int))) (
.must (0 ≤ n0 ∧ n0 < ((ByteArray.size s : Nat) : Int)) <|
.lt (.int .u8) (bt s n0) fun (n1 : Int) =>
.ite (not (decide (n1 ≥ 97) && decide (n1 ≤ 122) || decide (n1 ≥ 48) && decide (n1 ≤ 57) || n1 == 46 || n1 == 45)) (
.done 0 [.bool false]) (
.lt (.int .i64) (IntKind.wrap .i64 (n0 + 1)) fun (n2 : Int) =>
.done 2 [.int .i64 n2])) (
.done 1 []))) (u0 <|
.lt (.bool) (decide (((ByteArray.size s : Nat) : Int) ≥ 1) && decide (((ByteArray.size s : Nat) : Int) ≤ 24)) fun b3 =>
.done 0 [.bool b3])
theorem towpathref04_Name_eq (s : ByteArray) : decomp P 45 ⟨okFs, []⟩ { cnd := [], blk := [(0, [])], reg := [], lps := [(0, [(3, .one (.int .i64))])] } [.tmp 2] (bodyOf Go.Proofs.Try.f15) [.val (.string s)] = towpathref04_Name s := by kernel_rfl
theorem towpathref04_Name_calls (s : ByteArray) {w : World} {R : List Value → World → Prop} (h : (towpathref04_Name s).wp P (fun _ => True) w fun e vs w' => e = 0 ∧ R vs w') :
    Calls P F.towpathref04_Name #[.string s] w fun e w' => ∃ vs, e = .returned (pack vs) ∧ R vs w' :=
  decomp_sound (isFn_of Go.Proofs.Try.func15 (by kernel_rfl) (by kernel_rfl) (by kernel_rfl)) okFs_ok mix [.val (.string s)] (by rw [towpathref04_Name_eq]; exact h)

def disk_Disk_Free (d : Option Addr) : Prog :=
.ite (Option.isNone d) (
.done 0 [.int .i64 0]) (
.tick <|
.ex [.adr] (c1 fun a0 => d = some a0) (u1 fun a1 =>
.read True (ld T.int (Addr.add a1 2)) (sI .i64) (u1 fun (n2 : Int) =>
.ex [.adr] (c1 fun a3 => d = some a3) (u1 fun a4 =>
.read True (ld T.int (Addr.add a4 3)) (sI .i64) (u1 fun (n5 : Int) =>
.lt (.int .i64) (if 0 > IntKind.wrap .i64 (n2 - n5) then 0 else IntKind.wrap .i64 (n2 - n5)) fun (n6 : Int) =>
.untick <|
.done 0 [.int .i64 n6])))))
theorem disk_Disk_Free_eq (d : Option Addr) : decomp P 15 ⟨okFs, []⟩ { cnd := [], blk := [], reg := [], lps := [] } [.tmp 2] (bodyOf Go.Proofs.Try.f16) [.val (.pointer d)] = disk_Disk_Free d := by kernel_rfl
theorem disk_Disk_Free_calls (d : Option Addr) {w : World} {R : List Value → World → Prop} (h : (disk_Disk_Free d).wp P (fun _ => True) w fun e vs w' => e = 0 ∧ R vs w') :
    Calls P F.disk_Disk_Free #[.pointer d] w fun e w' => ∃ vs, e = .returned (pack vs) ∧ R vs w' :=
  decomp_sound (isFn_of Go.Proofs.Try.func16 (by kernel_rfl) (by kernel_rfl) (by kernel_rfl)) okFs_ok mix [.val (.pointer d)] (by rw [disk_Disk_Free_eq]; exact h)

def disk_Disk_Append (d : Option Addr) (name : ByteArray) (parts : Sl) : Prog :=
.call F.disk_Disk_may [.pointer d] (sI .i64) (u1 fun (n0 : Int) =>
.lt (.int .i64) (n0) fun (n1 : Int) =>
.ite (n1 != 0) (
.lt (.int .i64) (n1) fun (n2 : Int) =>
.done 0 [.int .i64 n2]) (
.call F.disk_Name [.string name] sB (u1 fun b3 =>
.ite (not b3) (
.done 0 [.int .i64 2]) (
.bind 1 [.one (.int .i64)] (
.loop 2 [.one (.int .i64), .one (.int .i64)] (0, (0, ())) (u2 fun (n4 : Int) (n5 : Int) =>
.ite (decide (n5 < ((parts.len : Nat) : Int))) (
.ex [.adr] (c1 fun a6 => 0 ≤ n5 ∧ n5 < ((parts.len : Nat) : Int) ∧ parts.a = some a6) (u1 fun a7 =>
.read True (ld T.s_uint8 (Addr.add a7 (Int.toNat n5 * 1))) sL (u1 fun l8 =>
.call F.disk_Disk_Free [.pointer d] (sI .i64) (u1 fun (n9 : Int) =>
.ite (decide (((l8.len : Nat) : Int) > IntKind.wrap .i64 (n9 - n4))) (
.done 0 [.int .i64 5]) (
.lt (.int .i64) (IntKind.wrap .i64 (n4 + ((l8.len : Nat) : Int))) fun (n10 : Int) =>
.done 2 [.int .i64 n10, .int .i64 (IntKind.wrap .i64 (n5 + 1))]))))) (
.done 1 [.int .i64 n4]))) (u1 fun (n11 : Int) =>
.ex [.adr] (c1 fun a12 => d = some a12) (u1 fun a13 =>
.read True (ld T.m_string_p_disk_file (Addr.add a13 4)) sM (u1 fun m14 =>
.read True (Instr.lookup T.m_string_p_disk_file (.map m14) (.string name) true) (.tup [.one .ptr, .one .bool]) (u2 fun p15 b16 =>
.lt (.bool) (b16) fun b17 =>
.bind 1 [.one .ptr] (
.ite (not b17) (
.ex [.adr] (c1 fun a18 => d = some a18) (u1 fun a19 =>
.read True (ld T.m_string_p_disk_file (Addr.add a19 4)) sM (u1 fun m20 =>
.read True (Builtin.len_ #[T.m_string_p_disk_file] T.int #[.map m20]) (sI .i64) (u1 fun (n21 : Int) =>
.ite (decide (n21 ≥ 128)) (
.done 0 [.int .i64 5]) (
.act (Instr.box T.disk_file (.agg #[.slice none 0 0, .int .i64 0])) sA (u1 fun a22 =>
.ex [.adr] (c1 fun a23 => d = some a23) (u1 fun a24 =>
.read True (ld T.m_string_p_disk_file (Addr.add a24 4)) sM (u1 fun m25 =>
.actU (Instr.mapUpdate T.m_string_p_disk_file (.map m25) (.string name) (.pointer (some a22))) <|
.done 1 [.pointer (some a22)])))))))) (
.done 1 [.pointer p15])) (u1 fun p26 =>
.bind 1 [] (
.loop 2 [.one (.int .i64)] (0, ()) (u1 fun (n27 : Int) =>
.ite (decide (n27 < ((parts.len : Nat) : Int))) (
.ex [.adr] (c1 fun a28 => 0 ≤ n27 ∧ n27 < ((parts.len : Nat) : Int) ∧ parts.a = some a28) (u1 fun a29 =>
.read True (ld T.s_uint8 (Addr.add a29 (Int.toNat n27 * 1))) sL (u1 fun l30 =>
.ex [.adr] (c1 fun a31 => p26 = some a31) (u1 fun a32 =>
.read True (ld T.s_uint8 (Addr.add a32 0)) sL (u1 fun l33 =>
.act (app T.s_uint8 T.s_uint8 T.s_uint8 l33.v l30.v) sL (u1 fun l34 =>
.ex [.adr] (c1 fun a35 => p26 = some a35) (u1 fun a36 =>
.actU (st T.s_uint8 (Addr.add a36 0) l34.v) <|
.done 2 [.int .i64 (IntKind.wrap .i64 (n27 + 1))]))))))) (
.done 1 []))) (u0 <|
.ex [.adr] (c1 fun a37 => d = some a37) (u1 fun a38 =>
.read True (ld T.int (Addr.add a38 3)) (sI .i64) (u1 fun (n39 : Int) =>
.ex [.adr] (c1 fun a40 => d = some a40) (u1 fun a41 =>
.actU (st T.int (Addr.add a41 3) (.int .i64 (IntKind.wrap .i64 (n39 + n11)))) <|
.ex [.adr] (c1 fun a42 => d = some a42) (u1 fun a43 =>
.call F.disk_power_spend [.pointer (some (Addr.add a43 0))] (.tup []) (u0 <|
.done 0 [.int .i64 0])))))))))))))))
theorem disk_Disk_Append_eq (d : Option Addr) (name : ByteArray) (parts : Sl) : decomp P 96 ⟨okFs, []⟩ { cnd := [(604426016319167176900660, [(11, .one .ptr)])], blk := [(0, [(8, .one (.int .i64))]), (2, [])], reg := [], lps := [(0, [(8, .one (.int .i64)), (26, .one (.int .i64))]), (2, [(69, .one (.int .i64))])] } [.tmp 6] (bodyOf Go.Proofs.Try.f17) [.val (.pointer d), .val (.string name), .val (.slice parts.a parts.len parts.cap)] = disk_Disk_Append d name parts := by kernel_rfl
theorem disk_Disk_Append_calls (d : Option Addr) (name : ByteArray) (parts : Sl) {w : World} {R : List Value → World → Prop} (h : (disk_Disk_Append d name parts).wp P (fun _ => True) w fun e vs w' => e = 0 ∧ R vs w') :
    Calls P F.disk_Disk_Append #[.pointer d, .string name, .slice parts.a parts.len parts.cap] w fun e w' => ∃ vs, e = .returned (pack vs) ∧ R vs w' :=
  decomp_sound (isFn_of Go.Proofs.Try.func17 (by kernel_rfl) (by kernel_rfl) (by kernel_rfl)) okFs_ok mix [.val (.pointer d), .val (.string name), .val (.slice parts.a parts.len parts.cap)] (by rw [disk_Disk_Append_eq]; exact h)

def disk_Disk_Read (d : Option Addr) (name : ByteArray) : Prog :=
.ite (Option.isNone d) (
.done 0 [.slice none 0 0, .int .i64 1]) (
.ex [.adr] (c1 fun a0 => d = some a0) (u1 fun a1 =>
.read True (ld T.m_string_p_disk_file (Addr.add a1 4)) sM (u1 fun m2 =>
.read True (Instr.lookup T.m_string_p_disk_file (.map m2) (.string name) false) sP (u1 fun p3 =>
.ite (Option.isNone p3) (
.done 0 [.slice none 0 0, .int .i64 3]) (
.ex [.adr] (c1 fun a4 => p3 = some a4) (u1 fun a5 =>
.read True (ld T.s_uint8 (Addr.add a5 0)) sL (u1 fun l6 =>
.call F.bytes_Clone [l6.v] sL (u1 fun l7 =>
.done 0 [l7.v, .int .i64 0]))))))))
theorem disk_Disk_Read_eq (d : Option Addr) (name : ByteArray) : decomp P 22 ⟨okFs, []⟩ { cnd := [], blk := [], reg := [], lps := [] } [.tmp 4, .tmp 5] (bodyOf Go.Proofs.Try.f18) [.val (.pointer d), .val (.string name)] = disk_Disk_Read d name := by kernel_rfl
theorem disk_Disk_Read_calls (d : Option Addr) (name : ByteArray) {w : World} {R : List Value → World → Prop} (h : (disk_Disk_Read d name).wp P (fun _ => True) w fun e vs w' => e = 0 ∧ R vs w') :
    Calls P F.disk_Disk_Read #[.pointer d, .string name] w fun e w' => ∃ vs, e = .returned (pack vs) ∧ R vs w' :=
  decomp_sound (isFn_of Go.Proofs.Try.func18 (by kernel_rfl) (by kernel_rfl) (by kernel_rfl)) okFs_ok mix [.val (.pointer d), .val (.string name)] (by rw [disk_Disk_Read_eq]; exact h)

def disk_Disk_Names (d : Option Addr) (prefix_ : ByteArray) : Prog :=
.act (Instr.box T.string (.string prefix_)) sA (u1 fun a0 =>
.ite (Option.isNone d) (
.done 0 [.slice none 0 0]) (
.act (new T.s_string) sA (u1 fun a1 =>
.ex [.adr] (c1 fun a2 => d = some a2) (u1 fun a3 =>
.read True (ld T.m_string_p_disk_file (Addr.add a3 4)) sM (u1 fun m4 =>
.call F.maps_Keys_map_string_disk_file_string_disk_file [.map m4] sV (u1 fun v5 =>
.fail 41))))))
theorem disk_Disk_Names_eq (d : Option Addr) (prefix_ : ByteArray) : decomp P 25 ⟨okFs, []⟩ { cnd := [], blk := [], reg := [], lps := [] } [.tmp 4] (bodyOf Go.Proofs.Try.f19) [.val (.pointer d), .val (.string prefix_)] = disk_Disk_Names d prefix_ := by kernel_rfl
theorem disk_Disk_Names_calls (d : Option Addr) (prefix_ : ByteArray) {w : World} {R : List Value → World → Prop} (h : (disk_Disk_Names d prefix_).wp P (fun _ => True) w fun e vs w' => e = 0 ∧ R vs w') :
    Calls P F.disk_Disk_Names #[.pointer d, .string prefix_] w fun e w' => ∃ vs, e = .returned (pack vs) ∧ R vs w' :=
  decomp_sound (isFn_of Go.Proofs.Try.func19 (by kernel_rfl) (by kernel_rfl) (by kernel_rfl)) okFs_ok mix [.val (.pointer d), .val (.string prefix_)] (by rw [disk_Disk_Names_eq]; exact h)

def disk_Disk_Remove (d : Option Addr) (name : ByteArray) : Prog :=
.call F.disk_Disk_may [.pointer d] (sI .i64) (u1 fun (n0 : Int) =>
.lt (.int .i64) (n0) fun (n1 : Int) =>
.ite (n1 != 0) (
.lt (.int .i64) (n1) fun (n2 : Int) =>
.done 0 [.int .i64 n2]) (
.ex [.adr] (c1 fun a3 => d = some a3) (u1 fun a4 =>
.read True (ld T.m_string_p_disk_file (Addr.add a4 4)) sM (u1 fun m5 =>
.read True (Instr.lookup T.m_string_p_disk_file (.map m5) (.string name) false) sP (u1 fun p6 =>
.ite (Option.isNone p6) (
.done 0 [.int .i64 3]) (
.call F.disk_Disk_drop [.pointer d, .string name] (.tup []) (u0 <|
.ex [.adr] (c1 fun a7 => d = some a7) (u1 fun a8 =>
.call F.disk_power_spend [.pointer (some (Addr.add a8 0))] (.tup []) (u0 <|
.done 0 [.int .i64 0])))))))))
theorem disk_Disk_Remove_eq (d : Option Addr) (name : ByteArray) : decomp P 25 ⟨okFs, []⟩ { cnd := [], blk := [], reg := [], lps := [] } [.tmp 4] (bodyOf Go.Proofs.Try.f20) [.val (.pointer d), .val (.string name)] = disk_Disk_Remove d name := by kernel_rfl
theorem disk_Disk_Remove_calls (d : Option Addr) (name : ByteArray) {w : World} {R : List Value → World → Prop} (h : (disk_Disk_Remove d name).wp P (fun _ => True) w fun e vs w' => e = 0 ∧ R vs w') :
    Calls P F.disk_Disk_Remove #[.pointer d, .string name] w fun e w' => ∃ vs, e = .returned (pack vs) ∧ R vs w' :=
  decomp_sound (isFn_of Go.Proofs.Try.func20 (by kernel_rfl) (by kernel_rfl) (by kernel_rfl)) okFs_ok mix [.val (.pointer d), .val (.string name)] (by rw [disk_Disk_Remove_eq]; exact h)

def disk_Disk_Sync (d : Option Addr) (names : Sl) : Prog :=
.call F.disk_Disk_may [.pointer d] (sI .i64) (u1 fun (n0 : Int) =>
.lt (.int .i64) (n0) fun (n1 : Int) =>
.ite (n1 != 0) (
.lt (.int .i64) (n1) fun (n2 : Int) =>
.done 0 [.int .i64 n2]) (
.bind 1 [] (
.loop 2 [.one (.int .i64)] (0, ()) (u1 fun (n3 : Int) =>
.ite (decide (n3 < ((names.len : Nat) : Int))) (
.ex [.adr] (c1 fun a4 => 0 ≤ n3 ∧ n3 < ((names.len : Nat) : Int) ∧ names.a = some a4) (u1 fun a5 =>
.read True (ld T.string (Addr.add a5 (Int.toNat n3 * 1))) sS (u1 fun s6 =>
.lt (.str) (s6) fun s7 =>
.ex [.adr] (c1 fun a8 => d = some a8) (u1 fun a9 =>
.read True (ld T.m_string_p_disk_file (Addr.add a9 4)) sM (u1 fun m10 =>
.read True (Instr.lookup T.m_string_p_disk_file (.map m10) (.string s7) false) sP (u1 fun p11 =>
.ite (Option.isNone p11) (
.done 0 [.int .i64 3]) (
.done 2 [.int .i64 (IntKind.wrap .i64 (n3 + 1))]))))))) (
.done 1 []))) (u0 <|
.bind 1 [.one .slc] (
.ite (((names.len : Nat) : Int) == 0) (
.call F.disk_Disk_Names [.pointer d, .string (ByteArray.mk #[])] sL (u1 fun l12 =>
.done 1 [l12.v])) (
.done 1 [names.v])) (u1 fun l13 =>
.bind 1 [] (
.loop 2 [.one (.int .i64)] (0, ()) (u1 fun (n14 : Int) =>
.ite (decide (n14 < ((l13.len : Nat) : Int))) (
.ex [.adr] (c1 fun a15 => 0 ≤ n14 ∧ n14 < ((l13.len : Nat) : Int) ∧ l13.a = some a15) (u1 fun a16 =>
.read True (ld T.string (Addr.add a16 (Int.toNat n14 * 1))) sS (u1 fun s17 =>
.lt (.str) (s17) fun s18 =>
.ex [.adr] (c1 fun a19 => d = some a19) (u1 fun a20 =>
.read True (ld T.m_string_p_disk_file (Addr.add a20 4)) sM (u1 fun m21 =>
.read True (Instr.lookup T.m_string_p_disk_file (.map m21) (.string s18) false) sP (u1 fun p22 =>
.ex [.adr] (c1 fun a23 => p22 = some a23) (u1 fun a24 =>
.read True (ld T.s_uint8 (Addr.add a24 0)) sL (u1 fun l25 =>
.ex [.adr] (c1 fun a26 => p22 = some a26) (u1 fun a27 =>
.actU (st T.int (Addr.add a27 1) (.int .i64 (((l25.len : Nat) : Int)))) <|
.done 2 [.int .i64 (IntKind.wrap .i64 (n14 + 1))]))))))))) (
.done 1 []))) (u0 <|
.ex [.adr] (c1 fun a28 => d = some a28) (u1 fun a29 =>
.call F.disk_power_spend [.pointer (some (Addr.add a29 0))] (.tup []) (u0 <|
.done 0 [.int .i64 0])))))))
theorem disk_Disk_Sync_eq (d : Option Addr) (names : Sl) : decomp P 60 ⟨okFs, []⟩ { cnd := [(105553116274720, [(1, .one .slc)])], blk := [(0, []), (2, [])], reg := [], lps := [(0, [(18, .one (.int .i64))]), (2, [(37, .one (.int .i64))])] } [.tmp 4] (bodyOf Go.Proofs.Try.f21) [.val (.pointer d), .val (.slice names.a names.len names.cap)] = disk_Disk_Sync d names := by kernel_rfl
theorem disk_Disk_Sync_calls (d : Option Addr) (names : Sl) {w : World} {R : List Value → World → Prop} (h : (disk_Disk_Sync d names).wp P (fun _ => True) w fun e vs w' => e = 0 ∧ R vs w') :
    Calls P F.disk_Disk_Sync #[.pointer d, .slice names.a names.len names.cap] w fun e w' => ∃ vs, e = .returned (pack vs) ∧ R vs w' :=
  decomp_sound (isFn_of Go.Proofs.Try.func21 (by kernel_rfl) (by kernel_rfl) (by kernel_rfl)) okFs_ok mix [.val (.pointer d), .val (.slice names.a names.len names.cap)] (by rw [disk_Disk_Sync_eq]; exact h)

def disk_Disk_Fuse (d : Option Addr) (n : Int) : Prog :=
.ex [.adr] (c1 fun a0 => Option.isNone d = false → d = some a0) (u1 fun a1 =>
.read (Option.isNone d = false) (ld T.bool (Addr.add (Addr.add a1 0) 1)) sB (u1 fun b2 =>
.ite (Option.isNone d || b2) (
.done 0 []) (
.ex [.adr] (c1 fun a3 => d = some a3) (u1 fun a4 =>
.actU (st T.int (Addr.add (Addr.add a4 0) 0) (.int .i64 (if -1 > n then -1 else n))) <|
.ex [.adr] (c1 fun a5 => d = some a5) (u1 fun a6 =>
.actU (st T.bool (Addr.add (Addr.add a6 0) 1) (.bool (n == 0))) <|
.done 0 [])))))
theorem disk_Disk_Fuse_eq (d : Option Addr) (n : Int) : decomp P 25 ⟨okFs, []⟩ { cnd := [], blk := [], reg := [], lps := [] } [] (bodyOf Go.Proofs.Try.f22) [.val (.pointer d), .val (.int .i64 n)] = disk_Disk_Fuse d n := by kernel_rfl
theorem disk_Disk_Fuse_calls (d : Option Addr) (n : Int) {w : World} {R : List Value → World → Prop} (h : (disk_Disk_Fuse d n).wp P (fun _ => True) w fun e vs w' => e = 0 ∧ R vs w') :
    Calls P F.disk_Disk_Fuse #[.pointer d, .int .i64 n] w fun e w' => ∃ vs, e = .returned (pack vs) ∧ R vs w' :=
  decomp_sound (isFn_of Go.Proofs.Try.func22 (by kernel_rfl) (by kernel_rfl) (by kernel_rfl)) okFs_ok mix [.val (.pointer d), .val (.int .i64 n)] (by rw [disk_Disk_Fuse_eq]; exact h)

def disk_Disk_Rename (d : Option Addr) (from_ : ByteArray) (to_ : ByteArray) : Prog :=
.call F.disk_Disk_may [.pointer d] (sI .i64) (u1 fun (n0 : Int) =>
.lt (.int .i64) (n0) fun (n1 : Int) =>
.ite (n1 != 0) (
.lt (.int .i64) (n1) fun (n2 : Int) =>
.done 0 [.int .i64 n2]) (
.ex [.adr] (c1 fun a3 => d = some a3) (u1 fun a4 =>
.read True (ld T.m_string_p_disk_file (Addr.add a4 4)) sM (u1 fun m5 =>
.read True (Instr.lookup T.m_string_p_disk_file (.map m5) (.string from_) false) sP (u1 fun p6 =>
.lt (.bool) (Option.isNone p6) fun b7 =>
.ite (b7) (
.done 0 [.int .i64 3]) (
.call F.disk_Name [.string to_] sB (u1 fun b8 =>
.lt (.bool) (not b8) fun b9 =>
.ite (b9) (
.done 0 [.int .i64 2]) (
.bind 1 [] (
.ite (not (ByteArray.toList from_ == ByteArray.toList to_)) (
.call F.disk_Disk_drop [.pointer d, .string to_] (.tup []) (u0 <|
.ex [.adr] (c1 fun a10 => d = some a10) (u1 fun a11 =>
.read True (ld T.m_string_p_disk_file (Addr.add a11 4)) sM (u1 fun m12 =>
.act (Builtin.delete_ #[T.m_string_p_disk_file, T.string] T.unit #[.map m12, .string from_]) (.tup []) (u0 <|
.ex [.adr] (c1 fun a13 => d = some a13) (u1 fun a14 =>
.read True (ld T.m_string_p_disk_file (Addr.add a14 4)) sM (u1 fun m15 =>
.actU (Instr.mapUpdate T.m_string_p_disk_file (.map m15) (.string to_) (.pointer p6)) <|
.done 1 []))))))) (
.done 1 [])) (u0 <|
.ex [.adr] (c1 fun a16 => d = some a16) (u1 fun a17 =>
.call F.disk_power_spend [.pointer (some (Addr.add a17 0))] (.tup []) (u0 <|
.done 0 [.int .i64 0])))))))))))
theorem disk_Disk_Rename_eq (d : Option Addr) (from_ : ByteArray) (to_ : ByteArray) : decomp P 48 ⟨okFs, []⟩ { cnd := [(72053195991416861, [])], blk := [], reg := [], lps := [] } [.tmp 6] (bodyOf Go.Proofs.Try.f23) [.val (.pointer d), .val (.string from_), .val (.string to_)] = disk_Disk_Rename d from_ to_ := by kernel_rfl
theorem disk_Disk_Rename_calls (d : Option Addr) (from_ : ByteArray) (to_ : ByteArray) {w : World} {R : List Value → World → Prop} (h : (disk_Disk_Rename d from_ to_).wp P (fun _ => True) w fun e vs w' => e = 0 ∧ R vs w') :
    Calls P F.disk_Disk_Rename #[.pointer d, .string from_, .string to_] w fun e w' => ∃ vs, e = .returned (pack vs) ∧ R vs w' :=
  decomp_sound (isFn_of Go.Proofs.Try.func23 (by kernel_rfl) (by kernel_rfl) (by kernel_rfl)) okFs_ok mix [.val (.pointer d), .val (.string from_), .val (.string to_)] (by rw [disk_Disk_Rename_eq]; exact h)

def disk_Disk_Crash (d : Option Addr) (picks : Sl) : Prog :=
.ite (Option.isNone d) (
.done 0 [.pointer none]) (
.ex [.adr] (c1 fun a0 => d = some a0) (u1 fun a1 =>
.read True (ld T.int (Addr.add a1 2)) (sI .i64) (u1 fun (n2 : Int) =>
.call F.disk_New [.int .i64 n2] (.tup [.one .ptr, .one (.int .i64)]) (u2 fun p3 (n4 : Int) =>
.lt (.int .i64) (n4) fun (n5 : Int) =>
.call F.disk_Disk_Names [.pointer d, .string (ByteArray.mk #[])] sL (u1 fun l6 =>
.bind 1 [] (
.loop 2 [.one (.int .i64)] (0, ()) (u1 fun (n7 : Int) =>
.ite (decide (n7 < ((l6.len : Nat) : Int))) (
.ex [.adr] (c1 fun a8 => 0 ≤ n7 ∧ n7 < ((l6.len : Nat) : Int) ∧ l6.a = some a8) (u1 fun a9 =>
.read True (ld T.string (Addr.add a9 (Int.toNat n7 * 1))) sS (u1 fun s10 =>
.lt (.int .i64) (n7) fun (n11 : Int) =>
.lt (.str) (s10) fun s12 =>
.ex [.adr] (c1 fun a13 => d = some a13) (u1 fun a14 =>
.read True (ld T.m_string_p_disk_file (Addr.add a14 4)) sM (u1 fun m15 =>
.read True (Instr.lookup T.m_string_p_disk_file (.map m15) (.string s12) false) sP (u1 fun p16 =>
.call F.disk_file_copy [.pointer p16] sP (u1 fun p17 =>
.ex [.adr] (c1 fun a18 => p17 = some a18) (u1 fun a19 =>
.read True (ld T.int (Addr.add a19 1)) (sI .i64) (u1 fun (n20 : Int) =>
.lt (.int .i64) (n20) fun (n21 : Int) =>
.bind 3 [.one (.int .i64)] (
.ite (decide (((picks.len : Nat) : Int) > 0)) (
.tick <|
.must (((picks.len : Nat) : Int) ≠ 0) <|
.ex [.adr] (c1 fun a22 => 0 ≤ Int.tmod n11 (((picks.len : Nat) : Int)) ∧ Int.tmod n11 (((picks.len : Nat) : Int)) < ((picks.len : Nat) : Int) ∧ picks.a = some a22) (u1 fun a23 =>
.read True (ld T.int (Addr.add a23 (Int.toNat (Int.tmod n11 (((picks.len : Nat) : Int))) * 1))) (sI .i64) (u1 fun (n24 : Int) =>
.ex [.adr] (c1 fun a25 => p17 = some a25) (u1 fun a26 =>
.read True (ld T.s_uint8 (Addr.add a26 0)) sL (u1 fun l27 =>
.lt (.int .i64) (IntKind.wrap .i64 (n21 + if IntKind.wrap .i64 (((l27.len : Nat) : Int) - n21) < if 0 > n24 then 0 else n24 then IntKind.wrap .i64 (((l27.len : Nat) : Int) - n21) else if 0 > n24 then 0 else n24)) fun (n28 : Int) =>
.untick <|
.done 3 [.int .i64 n28]))))) (
.done 3 [.int .i64 n21])) (u1 fun (n29 : Int) =>
.ex [.adr] (c1 fun a30 => p17 = some a30) (u1 fun a31 =>
.read True (ld T.s_uint8 (Addr.add a31 0)) sL (u1 fun l32 =>
.must (0 ≤ n29 ∧ n29 ≤ n29 ∧ n29 ≤ ((l32.cap : Nat) : Int)) <|
.ex [.adr] (c1 fun a33 => p17 = some a33) (u1 fun a34 =>
.actU (st T.s_uint8 (Addr.add a34 0) (.slice l32.a (Int.toNat n29) (Int.toNat n29))) <|
.ex [.adr] (c1 fun a35 => p17 = some a35) (u1 fun a36 =>
.actU (st T.int (Addr.add a36 1) (.int .i64 n29)) <|
.ex [.adr] (c1 fun a37 => p3 = some a37) (u1 fun a38 =>
.read True (ld T.m_string_p_disk_file (Addr.add a38 4)) sM (u1 fun m39 =>
.actU (Instr.mapUpdate T.m_string_p_disk_file (.map m39) (.string s12) (.pointer p17)) <|
.ex [.adr] (c1 fun a40 => p3 = some a40) (u1 fun a41 =>
.read True (ld T.int (Addr.add a41 3)) (sI .i64) (u1 fun (n42 : Int) =>
.ex [.adr] (c1 fun a43 => p3 = some a43) (u1 fun a44 =>
.actU (st T.int (Addr.add a44 3) (.int .i64 (IntKind.wrap .i64 (n42 + n29)))) <|
.done 2 [.int .i64 (IntKind.wrap .i64 (n7 + 1))]))))))))))))))))))) (
.done 1 []))) (u0 <|
.done 0 [.pointer p3]))))))
theorem disk_Disk_Crash_eq (d : Option Addr) (picks : Sl) : decomp P 91 ⟨okFs, []⟩ { cnd := [(9444696936942275657770, [(10, .one (.int .i64))])], blk := [(0, [])], reg := [], lps := [(0, [(24, .one (.int .i64))])] } [.tmp 4] (bodyOf Go.Proofs.Try.f24) [.val (.pointer d), .val (.slice picks.a picks.len picks.cap)] = disk_Disk_Crash d picks := by kernel_rfl
theorem disk_Disk_Crash_calls (d : Option Addr) (picks : Sl) {w : World} {R : List Value → World → Prop} (h : (disk_Disk_Crash d picks).wp P (fun _ => True) w fun e vs w' => e = 0 ∧ R vs w') :
    Calls P F.disk_Disk_Crash #[.pointer d, .slice picks.a picks.len picks.cap] w fun e w' => ∃ vs, e = .returned (pack vs) ∧ R vs w' :=
  decomp_sound (isFn_of Go.Proofs.Try.func24 (by kernel_rfl) (by kernel_rfl) (by kernel_rfl)) okFs_ok mix [.val (.pointer d), .val (.slice picks.a picks.len picks.cap)] (by rw [disk_Disk_Crash_eq]; exact h)

def towpathlaw04_play (room : Int) (l : Sl) (most : Int) : Prog :=
.lt (.int .i64) (Int.tmod room 5000) fun (n0 : Int) =>
.bind 1 [.one (.int .i64)] (
.ite (decide (n0 < 0)) (
.lt (.int .i64) (IntKind.wrap .i64 (0 - n0)) fun (n1 : Int) =>
.done 1 [.int .i64 n1]) (
.done 1 [.int .i64 n0])) (u1 fun (n2 : Int) =>
.call F.disk_New [.int .i64 n2] (.tup [.one .ptr, .one (.int .i64)]) (u2 fun p3 (n4 : Int) =>
.lt (.int .i64) (n4) fun (n5 : Int) =>
.call F.towpathref04_New [.int .i64 n2] sP (u1 fun p6 =>
.bind 1 [.one .bool] (
.ite (n5 == 0) (
.call F.towpathlaw04_same [.pointer p3, .pointer p6] sB (u1 fun b7 =>
.lt (.bool) (b7) fun b8 =>
.done 1 [.bool b8])) (
.done 1 [.bool false])) (u1 fun b9 =>
.bind 1 [.one .ptr, .one .ptr, .one .bool] (
.loop 2 [.one .ptr, .one .ptr, .one .bool, .one (.int .i64)] (p3, (p6, (b9, (0, ())))) (u4 fun p10 p11 b12 (n13 : Int) =>
.ite (decide (n13 < ((l.len : Nat) : Int))) (
.ex [.adr] (c1 fun a14 => 0 ≤ n13 ∧ n13 < ((l.len : Nat) : Int) ∧ l.a = some a14) (u1 fun a15 =>
.read True (ld T.towpathlaw04_Op (Addr.add a15 (Int.toNat n13 * 6))) (sG [.int .i64, .str, .str, .str, .int .i64, .slc]) (u6 fun (n16 : Int) s17 s18 s19 (n20 : Int) l21 =>
.act (new T.towpathlaw04_Op) sA (u1 fun a22 =>
.lt (.int .i64) (n13) fun (n23 : Int) =>
.actU (st T.towpathlaw04_Op a22 (.agg #[.int .i64 n16, .string s17, .string s18, .string s19, .int .i64 n20, l21.v])) <|
.ite (decide (n23 ≥ most) || not b12) (
.done 1 [.pointer p10, .pointer p11, .bool b12]) (
.read True (ld T.towpathlaw04_Op a22) (sG [.int .i64, .str, .str, .str, .int .i64, .slc]) (u6 fun (n24 : Int) s25 s26 s27 (n28 : Int) l29 =>
.call F.towpathlaw04_small [.agg #[.int .i64 n24, .string s25, .string s26, .string s27, .int .i64 n28, l29.v]] (sG [.int .i64, .str, .str, .str, .int .i64, .slc]) (u6 fun (n30 : Int) s31 s32 s33 (n34 : Int) l35 =>
.call F.towpathlaw04_step [.pointer p10, .pointer p11, .agg #[.int .i64 n30, .string s31, .string s32, .string s33, .int .i64 n34, l35.v]] (.tup [.one .ptr, .one .ptr, .one .bool]) (u3 fun p36 p37 b38 =>
.lt (.bool) (b38) fun b39 =>
.bind 3 [.one .bool] (
.ite (b39) (
.call F.towpathlaw04_same [.pointer p36, .pointer p37] sB (u1 fun b40 =>
.lt (.bool) (b40) fun b41 =>
.done 3 [.bool b41])) (
.done 3 [.bool false])) (u1 fun b42 =>
.done 2 [.pointer p36, .pointer p37, .bool b42, .int .i64 (IntKind.wrap .i64 (n13 + 1))]))))))))) (
.done 1 [.pointer p10, .pointer p11, .bool b12]))) (u3 fun p43 p44 b45 =>
.lt (.bool) (b45) fun b46 =>
.done 0 [.pointer p43, .pointer p44, .bool b46])))))
theorem towpathlaw04_play_eq (room : Int) (l : Sl) (most : Int) : decomp P 68 ⟨okFs, []⟩ { cnd := [(6442455058, [(0, .one (.int .i64))])], blk := [(0, [(9, .one .ptr), (11, .one .ptr), (12, .one .bool)])], reg := [(6, [(12, .one .bool)]), (12, [(12, .one .bool)])], lps := [(0, [(9, .one .ptr), (11, .one .ptr), (12, .one .bool), (37, .one (.int .i64))])] } [.tmp 6, .tmp 7, .tmp 8] (bodyOf Go.Proofs.Try.f25) [.val (.int .i64 room), .val (.slice l.a l.len l.cap), .val (.int .i64 most)] = towpathlaw04_play room l most := by kernel_rfl
theorem towpathlaw04_play_calls (room : Int) (l : Sl) (most : Int) {w : World} {R : List Value → World → Prop} (h : (towpathlaw04_play room l most).wp P (fun _ => True) w fun e vs w' => e = 0 ∧ R vs w') :
    Calls P F.towpathlaw04_play #[.int .i64 room, .slice l.a l.len l.cap, .int .i64 most] w fun e w' => ∃ vs, e = .returned (pack vs) ∧ R vs w' :=
  decomp_sound (isFn_of Go.Proofs.Try.func25 (by kernel_rfl) (by kernel_rfl) (by kernel_rfl)) okFs_ok mix [.val (.int .i64 room), .val (.slice l.a l.len l.cap), .val (.int .i64 most)] (by rw [towpathlaw04_play_eq]; exact h)

def disk_Disk_Gone (d : Option Addr) : Prog :=
.ex [.adr] (c1 fun a0 => Option.isNone d = false → d = some a0) (u1 fun a1 =>
.read (Option.isNone d = false) (ld T.bool (Addr.add (Addr.add a1 0) 1)) sB (u1 fun b2 =>
.lt (.bool) (Option.isNone d || b2) fun b3 =>
.done 0 [.bool b3]))
theorem disk_Disk_Gone_eq (d : Option Addr) : decomp P 12 ⟨okFs, []⟩ { cnd := [], blk := [], reg := [], lps := [] } [.tmp 2] (bodyOf Go.Proofs.Try.f26) [.val (.pointer d)] = disk_Disk_Gone d := by kernel_rfl
theorem disk_Disk_Gone_calls (d : Option Addr) {w : World} {R : List Value → World → Prop} (h : (disk_Disk_Gone d).wp P (fun _ => True) w fun e vs w' => e = 0 ∧ R vs w') :
    Calls P F.disk_Disk_Gone #[.pointer d] w fun e w' => ∃ vs, e = .returned (pack vs) ∧ R vs w' :=
  decomp_sound (isFn_of Go.Proofs.Try.func26 (by kernel_rfl) (by kernel_rfl) (by kernel_rfl)) okFs_ok mix [.val (.pointer d)] (by rw [disk_Disk_Gone_eq]; exact h)

def disk_Disk_Kept (d : Option Addr) (name : ByteArray) : Prog :=
.call F.disk_Disk_at [.pointer d, .string name] (sG [.slc, .int .i64]) (u2 fun l0 (n1 : Int) =>
.lt (.int .i64) (n1) fun (n2 : Int) =>
.done 0 [.int .i64 n2])
theorem disk_Disk_Kept_eq (d : Option Addr) (name : ByteArray) : decomp P 9 ⟨okFs, []⟩ { cnd := [], blk := [], reg := [], lps := [] } [.tmp 4] (bodyOf Go.Proofs.Try.f27) [.val (.pointer d), .val (.string name)] = disk_Disk_Kept d name := by kernel_rfl
theorem disk_Disk_Kept_calls (d : Option Addr) (name : ByteArray) {w : World} {R : List Value → World → Prop} (h : (disk_Disk_Kept d name).wp P (fun _ => True) w fun e vs w' => e = 0 ∧ R vs w') :
    Calls P F.disk_Disk_Kept #[.pointer d, .string name] w fun e w' => ∃ vs, e = .returned (pack vs) ∧ R vs w' :=
  decomp_sound (isFn_of Go.Proofs.Try.func27 (by kernel_rfl) (by kernel_rfl) (by kernel_rfl)) okFs_ok mix [.val (.pointer d), .val (.string name)] (by rw [disk_Disk_Kept_eq]; exact h)

def towpathref04_New (room : Int) : Prog :=
.act (Instr.box T.towpathref04_Disk (.agg #[.int .i64 room, .slice none 0 0, .int .i64 (-1), .bool false])) sA (u1 fun a0 =>
.done 0 [.pointer (some a0)])
theorem towpathref04_New_eq (room : Int) : decomp P 6 ⟨okFs, []⟩ { cnd := [], blk := [], reg := [], lps := [] } [.tmp 2] (bodyOf Go.Proofs.Try.f28) [.val (.int .i64 room)] = towpathref04_New room := by kernel_rfl
theorem towpathref04_New_calls (room : Int) {w : World} {R : List Value → World → Prop} (h : (towpathref04_New room).wp P (fun _ => True) w fun e vs w' => e = 0 ∧ R vs w') :
    Calls P F.towpathref04_New #[.int .i64 room] w fun e w' => ∃ vs, e = .returned (pack vs) ∧ R vs w' :=
  decomp_sound (isFn_of Go.Proofs.Try.func28 (by kernel_rfl) (by kernel_rfl) (by kernel_rfl)) okFs_ok mix [.val (.int .i64 room)] (by rw [towpathref04_New_eq]; exact h)

def towpathref04_Disk_Copy (d : Option Addr) : Prog :=
.tick <|
.ex [.adr] (c1 fun a0 => d = some a0) (u1 fun a1 =>
.read True (ld T.int (Addr.add a1 0)) (sI .i64) (u1 fun (n2 : Int) =>
.ex [.adr] (c1 fun a3 => d = some a3) (u1 fun a4 =>
.read True (ld T.int (Addr.add a4 2)) (sI .i64) (u1 fun (n5 : Int) =>
.ex [.adr] (c1 fun a6 => d = some a6) (u1 fun a7 =>
.read True (ld T.bool (Addr.add a7 3)) sB (u1 fun b8 =>
.act (Instr.box T.towpathref04_Disk (.agg #[.int .i64 n2, .slice none 0 0, .int .i64 n5, .bool b8])) sA (u1 fun a9 =>
.untick <|
.bind 1 [] (
.tick <|
.read True (ld T.s_towpathref04_File (Addr.add a9 1)) sL (u1 fun l10 =>
.ex [.adr] (c1 fun a11 => d = some a11) (u1 fun a12 =>
.read True (ld T.s_towpathref04_File (Addr.add a12 1)) sL (u1 fun l13 =>
.act (app T.s_towpathref04_File T.s_towpathref04_File T.s_towpathref04_File l10.v l13.v) sL (u1 fun l14 =>
.actU (st T.s_towpathref04_File (Addr.add a9 1) l14.v) <|
.untick <|
.done 1 []))))) (u0 <|
.done 0 [.pointer (some a9)]))))))))
theorem towpathref04_Disk_Copy_eq (d : Option Addr) : decomp P 31 ⟨okFs, []⟩ { cnd := [], blk := [], reg := [(2, [])], lps := [] } [.tmp 2] (bodyOf Go.Proofs.Try.f29) [.val (.pointer d)] = towpathref04_Disk_Copy d := by kernel_rfl
theorem towpathref04_Disk_Copy_calls (d : Option Addr) {w : World} {R : List Value → World → Prop} (h : (towpathref04_Disk_Copy d).wp P (fun _ => True) w fun e vs w' => e = 0 ∧ R vs w') :
    Calls P F.towpathref04_Disk_Copy #[.pointer d] w fun e w' => ∃ vs, e = .returned (pack vs) ∧ R vs w' :=
  decomp_sound (isFn_of Go.Proofs.Try.func29 (by kernel_rfl) (by kernel_rfl) (by kernel_rfl)) okFs_ok mix [.val (.pointer d)] (by rw [towpathref04_Disk_Copy_eq]; exact h)

def towpathlaw04_step (d : Option Addr) (r : Option Addr) (o_0 : Int) (o_1 : ByteArray) (o_2 : ByteArray) (o_3 : ByteArray) (o_4 : Int) (o_5 : Sl) : Prog :=
.act (Instr.box T.towpathlaw04_Op (.agg #[.int .i64 o_0, .string o_1, .string o_2, .string o_3, .int .i64 o_4, o_5.v])) sA (u1 fun a0 =>
.read True (ld T.int (Addr.add a0 0)) (sI .i64) (u1 fun (n1 : Int) =>
.lt (.bool) (n1 == 0) fun b2 =>
.bind 1 [.one .bool] (
.ite (b2) (
.done 1 [.bool b2]) (
.lt (.bool) (n1 == 1) fun b3 =>
.done 1 [.bool b3])) (u1 fun b4 =>
.ite (b4) (
.read True (ld T.string (Addr.add a0 3)) sS (u1 fun s5 =>
.lt (.int .i64) (IntKind.wrap .i64 (Int.tdiv (((ByteArray.size s5 : Nat) : Int)) 2)) fun (n6 : Int) =>
.bind 1 [.one .ptr, .one .ptr, .one .bool] (
.tick <|
.hold True (ld T.string (Addr.add a0 1)) sS (u1 fun s7 =>
.hold True (ld T.string (Addr.add a0 3)) sS (u1 fun s8 =>
.must (0 ≤ n6 ∧ n6 ≤ ((ByteArray.size s8 : Nat) : Int)) <|
.hold True (ld T.string (Addr.add a0 3)) sS (u1 fun s9 =>
.must (0 ≤ n6 ∧ n6 ≤ ((ByteArray.size s9 : Nat) : Int)) <|
.hold True (ld T.string (Addr.add a0 1)) sS (u1 fun s10 =>
.hold True (ld T.string (Addr.add a0 3)) sS (u1 fun s11 =>
.both (
.act (convert T.string T.s_uint8 (.string (ByteArray.extract s8 0 (Int.toNat n6)))) sL (u1 fun l12 =>
.act (convert T.string T.s_uint8 (.string (ByteArray.extract s9 (Int.toNat n6) (ByteArray.size s9)))) sL (u1 fun l13 =>
.act (Instr.buildSlice T.s_s_uint8 2 #[(0, l12.v), (1, l13.v)]) sL (u1 fun l14 =>
.call F.disk_Disk_Append [.pointer d, .string s7, l14.v] (sI .i64) (u1 fun (n15 : Int) =>
.untick <|
.call F.towpathref04_Disk_Append [.pointer r, .string s10, .string s11] (sI .i64) (u1 fun (n16 : Int) =>
.lt (.bool) (n15 == n16) fun b17 =>
.untick <|
.done 1 [.pointer d, .pointer r, .bool b17])))))) (
.act (convert T.string T.s_uint8 (.string (ByteArray.extract s9 (Int.toNat n6) (ByteArray.size s9)))) sL (u1 fun l18 =>
.act (convert T.string T.s_uint8 (.string (ByteArray.extract s8 0 (Int.toNat n6)))) sL (u1 fun l19 =>
.act (Instr.buildSlice T.s_s_uint8 2 #[(0, l19.v), (1, l18.v)]) sL (u1 fun l20 =>
.call F.disk_Disk_Append [.pointer d, .string s7, l20.v] (sI .i64) (u1 fun (n21 : Int) =>
.untick <|
.call F.towpathref04_Disk_Append [.pointer r, .string s10, .string s11] (sI .i64) (u1 fun (n22 : Int) =>
.lt (.bool) (n21 == n22) fun b23 =>
.untick <|
.done 1 [.pointer d, .pointer r, .bool b23])))))))))))) (u3 fun p24 p25 b26 =>
.done 0 [.pointer p24, .pointer p25, .bool b26]))) (
.lt (.bool) (n1 == 2) fun b27 =>
.ite (b27) (
.bind 1 [.one .ptr, .one .ptr, .one .bool] (
.tick <|
.hold True (ld T.string (Addr.add a0 1)) sS (u1 fun s28 =>
.hold True (ld T.string (Addr.add a0 1)) sS (u1 fun s29 =>
.both (
.act (Instr.buildSlice T.s_string 1 #[(0, .string s28)]) sL (u1 fun l30 =>
.both (
.call F.disk_Disk_Sync [.pointer d, l30.v] (sI .i64) (u1 fun (n31 : Int) =>
.act (Instr.buildSlice T.s_string 1 #[(0, .string s29)]) sL (u1 fun l32 =>
.untick <|
.call F.towpathref04_Disk_Sync [.pointer r, l32.v] (sI .i64) (u1 fun (n33 : Int) =>
.lt (.bool) (n31 == n33) fun b34 =>
.untick <|
.done 1 [.pointer d, .pointer r, .bool b34])))) (
.act (Instr.buildSlice T.s_string 1 #[(0, .string s29)]) sL (u1 fun l35 =>
.call F.disk_Disk_Sync [.pointer d, l30.v] (sI .i64) (u1 fun (n36 : Int) =>
.untick <|
.call F.towpathref04_Disk_Sync [.pointer r, l35.v] (sI .i64) (u1 fun (n37 : Int) =>
.lt (.bool) (n36 == n37) fun b38 =>
.untick <|
.done 1 [.pointer d, .pointer r, .bool b38])))))) (
.act (Instr.buildSlice T.s_string 1 #[(0, .string s29)]) sL (u1 fun l39 =>
.act (Instr.buildSlice T.s_string 1 #[(0, .string s28)]) sL (u1 fun l40 =>
.call F.disk_Disk_Sync [.pointer d, l40.v] (sI .i64) (u1 fun (n41 : Int) =>
.untick <|
.call F.towpathref04_Disk_Sync [.pointer r, l39.v] (sI .i64) (u1 fun (n42 : Int) =>
.lt (.bool) (n41 == n42) fun b43 =>
.untick <|
.done 1 [.pointer d, .pointer r, .bool b43])))))))) (u3 fun p44 p45 b46 =>
.done 0 [.pointer p44, .pointer p45, .bool b46])) (
.lt (.bool) (n1 == 3) fun b47 =>
.ite (b47) (
.call F.disk_Disk_Sync [.pointer d, .slice none 0 0] (sI .i64) (u1 fun (n48 : Int) =>
.call F.towpathref04_Disk_Sync [.pointer r, .slice none 0 0] (sI .i64) (u1 fun (n49 : Int) =>
.lt (.bool) (n48 == n49) fun b50 =>
.done 0 [.pointer d, .pointer r, .bool b50]))) (
.lt (.bool) (n1 == 4) fun b51 =>
.ite (b51) (
.bind 1 [.one .ptr, .one .ptr, .one .bool] (
.tick <|
.read True (ld T.string (Addr.add a0 1)) sS (u1 fun s52 =>
.read True (ld T.int (Addr.add a0 4)) (sI .i64) (u1 fun (n53 : Int) =>
.hold True (ld T.string (Addr.add a0 1)) sS (u1 fun s54 =>
.hold True (ld T.int (Addr.add a0 4)) (sI .i64) (u1 fun (n55 : Int) =>
.call F.disk_Disk_Cut [.pointer d, .string s52, .int .i64 n53] (sI .i64) (u1 fun (n56 : Int) =>
.untick <|
.call F.towpathref04_Disk_Cut [.pointer r, .string s54, .int .i64 n55] (sI .i64) (u1 fun (n57 : Int) =>
.lt (.bool) (n56 == n57) fun b58 =>
.untick <|
.done 1 [.pointer d, .pointer r, .bool b58]))))))) (u3 fun p59 p60 b61 =>
.done 0 [.pointer p59, .pointer p60, .bool b61])) (
.lt (.bool) (n1 == 5) fun b62 =>
.ite (b62) (
.bind 1 [.one .ptr, .one .ptr, .one .bool] (
.tick <|
.read True (ld T.string (Addr.add a0 1)) sS (u1 fun s63 =>
.read True (ld T.string (Addr.add a0 2)) sS (u1 fun s64 =>
.hold True (ld T.string (Addr.add a0 1)) sS (u1 fun s65 =>
.hold True (ld T.string (Addr.add a0 2)) sS (u1 fun s66 =>
.call F.disk_Disk_Rename [.pointer d, .string s63, .string s64] (sI .i64) (u1 fun (n67 : Int) =>
.untick <|
.call F.towpathref04_Disk_Rename [.pointer r, .string s65, .string s66] (sI .i64) (u1 fun (n68 : Int) =>
.lt (.bool) (n67 == n68) fun b69 =>
.untick <|
.done 1 [.pointer d, .pointer r, .bool b69]))))))) (u3 fun p70 p71 b72 =>
.done 0 [.pointer p70, .pointer p71, .bool b72])) (
.lt (.bool) (n1 == 6) fun b73 =>
.ite (b73) (
.bind 1 [.one .ptr, .one .ptr, .one .bool] (
.tick <|
.read True (ld T.string (Addr.add a0 1)) sS (u1 fun s74 =>
.hold True (ld T.string (Addr.add a0 1)) sS (u1 fun s75 =>
.call F.disk_Disk_Remove [.pointer d, .string s74] (sI .i64) (u1 fun (n76 : Int) =>
.untick <|
.call F.towpathref04_Disk_Remove [.pointer r, .string s75] (sI .i64) (u1 fun (n77 : Int) =>
.lt (.bool) (n76 == n77) fun b78 =>
.untick <|
.done 1 [.pointer d, .pointer r, .bool b78]))))) (u3 fun p79 p80 b81 =>
.done 0 [.pointer p79, .pointer p80, .bool b81])) (
.lt (.bool) (n1 == 7) fun b82 =>
.ite (b82) (
.read True (ld T.int (Addr.add a0 4)) (sI .i64) (u1 fun (n83 : Int) =>
.read (decide (n83 < 0) = false) (ld T.int (Addr.add a0 4)) (sI .i64) (u1 fun (n84 : Int) =>
.bind 1 [.one (.int .i64)] (
.ite (decide (n83 < 0) || decide (n84 > 4194304)) (
.done 1 [.int .i64 2]) (
.read True (ld T.int (Addr.add a0 4)) (sI .i64) (u1 fun (n85 : Int) =>
.ex [.adr] (c1 fun a86 => r = some a86) (u1 fun a87 =>
.actU (st T.int (Addr.add a87 0) (.int .i64 n85)) <|
.done 1 [.int .i64 0])))) (u1 fun (n88 : Int) =>
.read True (ld T.int (Addr.add a0 4)) (sI .i64) (u1 fun (n89 : Int) =>
.call F.disk_Disk_Room [.pointer d, .int .i64 n89] (sI .i64) (u1 fun (n90 : Int) =>
.lt (.bool) (n90 == n88) fun b91 =>
.done 0 [.pointer d, .pointer r, .bool b91])))))) (
.lt (.bool) (n1 == 8) fun b92 =>
.bind 1 [] (
.ite (b92) (
.read True (ld T.int (Addr.add a0 4)) (sI .i64) (u1 fun (n93 : Int) =>
.call F.disk_Disk_Fuse [.pointer d, .int .i64 n93] (.tup []) (u0 <|
.read True (ld T.int (Addr.add a0 4)) (sI .i64) (u1 fun (n94 : Int) =>
.call F.towpathref04_Disk_Fuse [.pointer r, .int .i64 n94] (.tup []) (u0 <|
.done 1 []))))) (
.lt (.bool) (n1 == 9) fun b95 =>
.ite (b95) (
.bind 2 [.one .ptr, .one .ptr] (
.tick <|
.read True (ld T.s_int (Addr.add a0 5)) sL (u1 fun l96 =>
.hold True (ld T.s_int (Addr.add a0 5)) sL (u1 fun l97 =>
.call F.disk_Disk_Crash [.pointer d, l96.v] sP (u1 fun p98 =>
.untick <|
.call F.towpathref04_Disk_Crash [.pointer r, l97.v] sP (u1 fun p99 =>
.untick <|
.done 2 [.pointer p98, .pointer p99]))))) (u2 fun p100 p101 =>
.bind 2 [.one .ptr, .one .ptr, .one .bool] (
.call F.towpathlaw04_same [.pointer d, .pointer r] sB (u1 fun b102 =>
.ite (b102) (
.call F.towpathlaw04_same [.pointer p100, .pointer p101] sB (u1 fun b103 =>
.lt (.bool) (b103) fun b104 =>
.done 2 [.pointer p100, .pointer p101, .bool b104])) (
.done 2 [.pointer p100, .pointer p101, .bool false]))) (u3 fun p105 p106 b107 =>
.done 0 [.pointer p105, .pointer p106, .bool b107]))) (
.done 1 []))) (u0 <|
.done 0 [.pointer d, .pointer r, .bool true])))))))))))
theorem towpathlaw04_step_eq (d : Option Addr) (r : Option Addr) (o_0 : Int) (o_1 : ByteArray) (o_2 : ByteArray) (o_3 : ByteArray) (o_4 : Int) (o_5 : Sl) : decomp P 172 ⟨okFs, []⟩ { cnd := [(671088655, [(15, .one .bool)]), (21603846911076541168362727076628100213112958, [(10, .one (.int .i64))]), (6129982140627592350138030011668661223283034306637463692, [])], blk := [], reg := [(5, [(6, .one .ptr), (7, .one .ptr), (8, .one .bool)]), (7, [(6, .one .ptr), (7, .one .ptr), (8, .one .bool)]), (11, [(6, .one .ptr), (7, .one .ptr), (8, .one .bool)]), (13, [(6, .one .ptr), (7, .one .ptr), (8, .one .bool)]), (15, [(6, .one .ptr), (7, .one .ptr), (8, .one .bool)]), (26, [(11, .one .ptr), (12, .one .ptr)]), (27, [(6, .one .ptr), (7, .one .ptr), (8, .one .bool)])], lps := [] } [.tmp 6, .tmp 7, .tmp 8] (bodyOf Go.Proofs.Try.f30) [.val (.pointer d), .val (.pointer r), .val (.agg #[.int .i64 o_0, .string o_1, .string o_2, .string o_3, .int .i64 o_4, .slice o_5.a o_5.len o_5.cap])] = towpathlaw04_step d r o_0 o_1 o_2 o_3 o_4 o_5 := by kernel_rfl
theorem towpathlaw04_step_calls (d : Option Addr) (r : Option Addr) (o_0 : Int) (o_1 : ByteArray) (o_2 : ByteArray) (o_3 : ByteArray) (o_4 : Int) (o_5 : Sl) {w : World} {R : List Value → World → Prop} (h : (towpathlaw04_step d r o_0 o_1 o_2 o_3 o_4 o_5).wp P (fun _ => True) w fun e vs w' => e = 0 ∧ R vs w') :
    Calls P F.towpathlaw04_step #[.pointer d, .pointer r, .agg #[.int .i64 o_0, .string o_1, .string o_2, .string o_3, .int .i64 o_4, .slice o_5.a o_5.len o_5.cap]] w fun e w' => ∃ vs, e = .returned (pack vs) ∧ R vs w' :=
  decomp_sound (isFn_of Go.Proofs.Try.func30 (by kernel_rfl) (by kernel_rfl) (by kernel_rfl)) okFs_ok mix [.val (.pointer d), .val (.pointer r), .val (.agg #[.int .i64 o_0, .string o_1, .string o_2, .string o_3, .int .i64 o_4, .slice o_5.a o_5.len o_5.cap])] (by rw [towpathlaw04_step_eq]; exact h)

def towpathlaw04_small (o_0 : Int) (o_1 : ByteArray) (o_2 : ByteArray) (o_3 : ByteArray) (o_4 : Int) (o_5 : Sl) : Prog :=
.act (Instr.box T.towpathlaw04_Op (.agg #[.int .i64 o_0, .string o_1, .string o_2, .string o_3, .int .i64 o_4, o_5.v])) sA (u1 fun a0 =>
.act (new T.towpathlaw04_Op) sA (u1 fun a1 =>
.read True (ld T.string (Addr.add a0 3)) sS (u1 fun s2 =>
.call F.towpathlaw04_short [.string s2, .int .i64 300] sS (u1 fun s3 =>
.actU (st T.string (Addr.add a0 3) (.string s3)) <|
.bind 1 [] (
.tick <|
.read True (ld T.string (Addr.add a0 1)) sS (u1 fun s4 =>
.hold True (ld T.string (Addr.add a0 2)) sS (u1 fun s5 =>
.call F.towpathlaw04_short [.string s4, .int .i64 40] sS (u1 fun s6 =>
.untick <|
.call F.towpathlaw04_short [.string s5, .int .i64 40] sS (u1 fun s7 =>
.actU (st T.string (Addr.add a0 1) (.string s6)) <|
.actU (st T.string (Addr.add a0 2) (.string s7)) <|
.untick <|
.done 1 []))))) (u0 <|
.read True (ld T.s_int (Addr.add a0 5)) sL (u1 fun l8 =>
.bind 1 [] (
.ite (decide (((l8.len : Nat) : Int) > 10)) (
.read True (ld T.s_int (Addr.add a0 5)) sL (u1 fun l9 =>
.must ((0 : Int) ≤ 10 ∧ 10 ≤ ((l9.cap : Nat) : Int)) <|
.actU (st T.s_int (Addr.add a0 5) (.slice l9.a 10 l9.cap)) <|
.done 1 [])) (
.done 1 [])) (u0 <|
.read True (ld T.towpathlaw04_Op a0) (sG [.int .i64, .str, .str, .str, .int .i64, .slc]) (u6 fun (n10 : Int) s11 s12 s13 (n14 : Int) l15 =>
.actU (st T.towpathlaw04_Op a1 (.agg #[.int .i64 n10, .string s11, .string s12, .string s13, .int .i64 n14, l15.v])) <|
.read True (ld T.towpathlaw04_Op a1) (sG [.int .i64, .str, .str, .str, .int .i64, .slc]) (u6 fun (n16 : Int) s17 s18 s19 (n20 : Int) l21 =>
.done 0 [.agg #[.int .i64 n16, .string s17, .string s18, .string s19, .int .i64 n20, l21.v]])))))))))
theorem towpathlaw04_small_eq (o_0 : Int) (o_1 : ByteArray) (o_2 : ByteArray) (o_3 : ByteArray) (o_4 : Int) (o_5 : Sl) : decomp P 24 ⟨okFs, []⟩ { cnd := [(32212254738, [])], blk := [], reg := [(2, [])], lps := [] } [.cell 2 54] (bodyOf Go.Proofs.Try.f31) [.val (.agg #[.int .i64 o_0, .string o_1, .string o_2, .string o_3, .int .i64 o_4, .slice o_5.a o_5.len o_5.cap])] = towpathlaw04_small o_0 o_1 o_2 o_3 o_4 o_5 := by kernel_rfl
theorem towpathlaw04_small_calls (o_0 : Int) (o_1 : ByteArray) (o_2 : ByteArray) (o_3 : ByteArray) (o_4 : Int) (o_5 : Sl) {w : World} {R : List Value → World → Prop} (h : (towpathlaw04_small o_0 o_1 o_2 o_3 o_4 o_5).wp P (fun _ => True) w fun e vs w' => e = 0 ∧ R vs w') :
    Calls P F.towpathlaw04_small #[.agg #[.int .i64 o_0, .string o_1, .string o_2, .string o_3, .int .i64 o_4, .slice o_5.a o_5.len o_5.cap]] w fun e w' => ∃ vs, e = .returned (pack vs) ∧ R vs w' :=
  decomp_sound (isFn_of Go.Proofs.Try.func31 (by kernel_rfl) (by kernel_rfl) (by kernel_rfl)) okFs_ok mix [.val (.agg #[.int .i64 o_0, .string o_1, .string o_2, .string o_3, .int .i64 o_4, .slice o_5.a o_5.len o_5.cap])] (by rw [towpathlaw04_small_eq]; exact h)

def disk_Disk_Used (d : Option Addr) : Prog :=
.ite (Option.isNone d) (
.done 0 [.int .i64 0]) (
.ex [.adr] (c1 fun a0 => d = some a0) (u1 fun a1 =>
.read True (ld T.int (Addr.add a1 3)) (sI .i64) (u1 fun (n2 : Int) =>
.lt (.int .i64) (n2) fun (n3 : Int) =>
.done 0 [.int .i64 n3])))
theorem disk_Disk_Used_eq (d : Option Addr) : decomp P 9 ⟨okFs, []⟩ { cnd := [], blk := [], reg := [], lps := [] } [.tmp 2] (bodyOf Go.Proofs.Try.f32) [.val (.pointer d)] = disk_Disk_Used d := by kernel_rfl
theorem disk_Disk_Used_calls (d : Option Addr) {w : World} {R : List Value → World → Prop} (h : (disk_Disk_Used d).wp P (fun _ => True) w fun e vs w' => e = 0 ∧ R vs w') :
    Calls P F.disk_Disk_Used #[.pointer d] w fun e w' => ∃ vs, e = .returned (pack vs) ∧ R vs w' :=
  decomp_sound (isFn_of Go.Proofs.Try.func32 (by kernel_rfl) (by kernel_rfl) (by kernel_rfl)) okFs_ok mix [.val (.pointer d)] (by rw [disk_Disk_Used_eq]; exact h)

def towpathref04_Disk_Free (d : Option Addr) : Prog :=
.tick <|
.ex [.adr] (c1 fun a0 => d = some a0) (u1 fun a1 =>
.hold True (ld T.int (Addr.add a1 0)) (sI .i64) (u1 fun (n2 : Int) =>
.call F.towpathref04_Disk_Used [.pointer d] (sI .i64) (u1 fun (n3 : Int) =>
.lt (.int .i64) (IntKind.wrap .i64 (n2 - n3)) fun (n4 : Int) =>
.untick <|
.ite (decide (n4 < 0)) (
.done 0 [.int .i64 0]) (
.lt (.int .i64) (n4) fun (n5 : Int) =>
.done 0 [.int .i64 n5]))))
theorem towpathref04_Disk_Free_eq (d : Option Addr) : decomp P 14 ⟨okFs, []⟩ { cnd := [], blk := [], reg := [], lps := [] } [.tmp 2] (bodyOf Go.Proofs.Try.f33) [.val (.pointer d)] = towpathref04_Disk_Free d := by kernel_rfl
theorem towpathref04_Disk_Free_calls (d : Option Addr) {w : World} {R : List Value → World → Prop} (h : (towpathref04_Disk_Free d).wp P (fun _ => True) w fun e vs w' => e = 0 ∧ R vs w') :
    Calls P F.towpathref04_Disk_Free #[.pointer d] w fun e w' => ∃ vs, e = .returned (pack vs) ∧ R vs w' :=
  decomp_sound (isFn_of Go.Proofs.Try.func33 (by kernel_rfl) (by kernel_rfl) (by kernel_rfl)) okFs_ok mix [.val (.pointer d)] (by rw [towpathref04_Disk_Free_eq]; exact h)

def towpathlaw04_same (d : Option Addr) (r : Option Addr) : Prog :=
.bind 1 [.one .bool] (
.tick <|
.ite (Option.isNone d) (
.untick <|
.done 1 [.bool true]) (
.call F.disk_Disk_Used [.pointer d] (sI .i64) (u1 fun (n0 : Int) =>
.call F.towpathref04_Disk_Used [.pointer r] (sI .i64) (u1 fun (n1 : Int) =>
.ite (n0 != n1) (
.untick <|
.done 1 [.bool true]) (
.call F.disk_Disk_Free [.pointer d] (sI .i64) (u1 fun (n2 : Int) =>
.call F.towpathref04_Disk_Free [.pointer r] (sI .i64) (u1 fun (n3 : Int) =>
.ex [.adr] (c1 fun a4 => (n2 != n3) = false → r = some a4) (u1 fun a5 =>
.hold ((n2 != n3) = false) (ld T.bool (Addr.add a5 3)) sB (u1 fun b6 =>
.ite (n2 != n3) (
.untick <|
.done 1 [.bool true]) (
.call F.disk_Disk_Gone [.pointer d] sB (u1 fun b7 =>
.untick <|
.done 1 [.bool (not (b7 == b6))]))))))))))) (u1 fun b8 =>
.ite (b8) (
.done 0 [.bool false]) (
.call F.disk_Disk_Names [.pointer d, .string (ByteArray.mk #[])] sL (u1 fun l9 =>
.ex [.adr] (c1 fun a10 => r = some a10) (u1 fun a11 =>
.read True (ld T.s_towpathref04_File (Addr.add a11 1)) sL (u1 fun l12 =>
.ite (((l9.len : Nat) : Int) != ((l12.len : Nat) : Int)) (
.done 0 [.bool false]) (
.ex [.adr] (c1 fun a13 => r = some a13) (u1 fun a14 =>
.read True (ld T.s_towpathref04_File (Addr.add a14 1)) sL (u1 fun l15 =>
.bind 1 [] (
.loop 2 [.one (.int .i64)] (0, ()) (u1 fun (n16 : Int) =>
.ite (decide (n16 < ((l15.len : Nat) : Int))) (
.bind 3 [] (
.ex [.adr] (c1 fun a17 => 0 ≤ n16 ∧ n16 < ((l15.len : Nat) : Int) ∧ l15.a = some a17) (u1 fun a18 =>
.read True (ld T.towpathref04_File (Addr.add a18 (Int.toNat n16 * 3))) (sG [.str, .str, .int .i64]) (u3 fun s19 s20 (n21 : Int) =>
.act (new T.towpathref04_File) sA (u1 fun a22 =>
.lt (.int .i64) (n16) fun (n23 : Int) =>
.actU (st T.towpathref04_File a22 (.agg #[.string s19, .string s20, .int .i64 n21])) <|
.read True (ld T.string (Addr.add a22 0)) sS (u1 fun s24 =>
.call F.disk_Disk_Read [.pointer d, .string s24] (.tup [.one .slc, .one (.int .i64)]) (u2 fun l25 (n26 : Int) =>
.lt (.int .i64) (n26) fun (n27 : Int) =>
.bind 4 [.one .bool] (
.tick <|
.ex [.adr] (c1 fun a28 => 0 ≤ n23 ∧ n23 < ((l9.len : Nat) : Int) ∧ l9.a = some a28) (u1 fun a29 =>
.read True (ld T.string (Addr.add a29 (Int.toNat n23 * 1))) sS (u1 fun s30 =>
.read True (ld T.string (Addr.add a22 0)) sS (u1 fun s31 =>
.read ((not (ByteArray.toList s30 == ByteArray.toList s31) || n27 != 0) = false) (convert T.s_uint8 T.string l25.v) sS (u1 fun s32 =>
.read ((not (ByteArray.toList s30 == ByteArray.toList s31) || n27 != 0) = false) (ld T.string (Addr.add a22 1)) sS (u1 fun s33 =>
.read ((not (ByteArray.toList s30 == ByteArray.toList s31) || n27 != 0 || not (ByteArray.toList s32 == ByteArray.toList s33)) = false) (ld T.string (Addr.add a22 0)) sS (u1 fun s34 =>
.hold ((not (ByteArray.toList s30 == ByteArray.toList s31) || n27 != 0 || not (ByteArray.toList s32 == ByteArray.toList s33)) = false) (ld T.string (Addr.add a22 1)) sS (u1 fun s35 =>
.ite (not (ByteArray.toList s30 == ByteArray.toList s31) || n27 != 0 || not (ByteArray.toList s32 == ByteArray.toList s33)) (
.untick <|
.done 4 [.bool true]) (
.call F.disk_Disk_Size [.pointer d, .string s34] (sI .i64) (u1 fun (n36 : Int) =>
.read ((n36 != ((ByteArray.size s35 : Nat) : Int)) = false) (ld T.string (Addr.add a22 0)) sS (u1 fun s37 =>
.hold ((n36 != ((ByteArray.size s35 : Nat) : Int)) = false) (ld T.int (Addr.add a22 2)) (sI .i64) (u1 fun (n38 : Int) =>
.ite (n36 != ((ByteArray.size s35 : Nat) : Int)) (
.untick <|
.done 4 [.bool true]) (
.call F.disk_Disk_Kept [.pointer d, .string s37] (sI .i64) (u1 fun (n39 : Int) =>
.untick <|
.done 4 [.bool (n39 != n38)])))))))))))))) (u1 fun b40 =>
.ite (b40) (
.done 0 [.bool false]) (
.bind 4 [] (
.loop 5 [.one (.int .i64)] (0, ()) (u1 fun (n41 : Int) =>
.ite (decide (n41 < ((l25.len : Nat) : Int))) (
.lt (.int .i64) (n41) fun (n42 : Int) =>
.ex [.adr] (c1 fun a43 => 0 ≤ n42 ∧ n42 < ((l25.len : Nat) : Int) ∧ l25.a = some a43) (u1 fun a44 =>
.actU (st T.uint8 (Addr.add a44 (Int.toNat n42 * 1)) (.int .u8 7)) <|
.done 5 [.int .i64 (IntKind.wrap .i64 (n41 + 1))])) (
.done 4 []))) (u0 <|
.done 3 []))))))))) (u0 <|
.done 2 [.int .i64 (IntKind.wrap .i64 (n16 + 1))])) (
.done 1 []))) (u0 <|
.done 0 [.bool true])))))))))
theorem towpathlaw04_same_eq (d : Option Addr) (r : Option Addr) : decomp P 110 ⟨okFs, []⟩ { cnd := [], blk := [(0, []), (1, []), (2, [])], reg := [(1, [(35, .one .bool)]), (10, [(99, .one .bool)])], lps := [(0, [(51, .one (.int .i64))]), (2, [(102, .one (.int .i64))])] } [.tmp 4] (bodyOf Go.Proofs.Try.f34) [.val (.pointer d), .val (.pointer r)] = towpathlaw04_same d r := by kernel_rfl
theorem towpathlaw04_same_calls (d : Option Addr) (r : Option Addr) {w : World} {R : List Value → World → Prop} (h : (towpathlaw04_same d r).wp P (fun _ => True) w fun e vs w' => e = 0 ∧ R vs w') :
    Calls P F.towpathlaw04_same #[.pointer d, .pointer r] w fun e w' => ∃ vs, e = .returned (pack vs) ∧ R vs w' :=
  decomp_sound (isFn_of Go.Proofs.Try.func34 (by kernel_rfl) (by kernel_rfl) (by kernel_rfl)) okFs_ok mix [.val (.pointer d), .val (.pointer r)] (by rw [towpathlaw04_same_eq]; exact h)

def towpathref04_Disk_Crash (d : Option Addr) (picks : Sl) : Prog :=
.ex [.adr] (c1 fun a0 => d = some a0) (u1 fun a1 =>
.read True (ld T.int (Addr.add a1 0)) (sI .i64) (u1 fun (n2 : Int) =>
.call F.towpathref04_New [.int .i64 n2] sP (u1 fun p3 =>
.ex [.adr] (c1 fun a4 => d = some a4) (u1 fun a5 =>
.read True (ld T.s_towpathref04_File (Addr.add a5 1)) sL (u1 fun l6 =>
.bind 1 [] (
.loop 2 [.one (.int .i64)] (0, ()) (u1 fun (n7 : Int) =>
.ite (decide (n7 < ((l6.len : Nat) : Int))) (
.ex [.adr] (c1 fun a8 => 0 ≤ n7 ∧ n7 < ((l6.len : Nat) : Int) ∧ l6.a = some a8) (u1 fun a9 =>
.read True (ld T.towpathref04_File (Addr.add a9 (Int.toNat n7 * 3))) (sG [.str, .str, .int .i64]) (u3 fun s10 s11 (n12 : Int) =>
.act (new T.towpathref04_File) sA (u1 fun a13 =>
.lt (.int .i64) (n7) fun (n14 : Int) =>
.actU (st T.towpathref04_File a13 (.agg #[.string s10, .string s11, .int .i64 n12])) <|
.read True (ld T.int (Addr.add a13 2)) (sI .i64) (u1 fun (n15 : Int) =>
.lt (.int .i64) (n15) fun (n16 : Int) =>
.bind 3 [.one (.int .i64)] (
.ite (decide (((picks.len : Nat) : Int) > 0)) (
.must (((picks.len : Nat) : Int) ≠ 0) <|
.ex [.adr] (c1 fun a17 => 0 ≤ Int.tmod n14 (((picks.len : Nat) : Int)) ∧ Int.tmod n14 (((picks.len : Nat) : Int)) < ((picks.len : Nat) : Int) ∧ picks.a = some a17) (u1 fun a18 =>
.read True (ld T.int (Addr.add a18 (Int.toNat (Int.tmod n14 (((picks.len : Nat) : Int))) * 1))) (sI .i64) (u1 fun (n19 : Int) =>
.lt (.int .i64) (n19) fun (n20 : Int) =>
.done 3 [.int .i64 n20]))) (
.done 3 [.int .i64 0])) (u1 fun (n21 : Int) =>
.read True (ld T.string (Addr.add a13 1)) sS (u1 fun s22 =>
.bind 3 [.one (.int .i64)] (
.ite (decide (n21 > IntKind.wrap .i64 (((ByteArray.size s22 : Nat) : Int) - n16))) (
.read True (ld T.string (Addr.add a13 1)) sS (u1 fun s23 =>
.lt (.int .i64) (IntKind.wrap .i64 (((ByteArray.size s23 : Nat) : Int) - n16)) fun (n24 : Int) =>
.done 3 [.int .i64 n24])) (
.done 3 [.int .i64 n21])) (u1 fun (n25 : Int) =>
.bind 3 [.one (.int .i64)] (
.ite (decide (n25 > 0)) (
.lt (.int .i64) (IntKind.wrap .i64 (n16 + n25)) fun (n26 : Int) =>
.done 3 [.int .i64 n26]) (
.done 3 [.int .i64 n16])) (u1 fun (n27 : Int) =>
.bind 3 [] (
.tick <|
.ex [.adr] (c1 fun a28 => p3 = some a28) (u1 fun a29 =>
.hold True (ld T.s_towpathref04_File (Addr.add a29 1)) sL (u1 fun l30 =>
.read True (ld T.string (Addr.add a13 0)) sS (u1 fun s31 =>
.read True (ld T.string (Addr.add a13 1)) sS (u1 fun s32 =>
.must (0 ≤ n27 ∧ n27 ≤ ((ByteArray.size s32 : Nat) : Int)) <|
.act (Instr.buildSlice T.s_towpathref04_File 1 #[(0, .agg #[.string s31, .string (ByteArray.extract s32 0 (Int.toNat n27)), .int .i64 n27])]) sL (u1 fun l33 =>
.untick <|
.act (app T.s_towpathref04_File T.s_towpathref04_File T.s_towpathref04_File l30.v l33.v) sL (u1 fun l34 =>
.ex [.adr] (c1 fun a35 => p3 = some a35) (u1 fun a36 =>
.actU (st T.s_towpathref04_File (Addr.add a36 1) l34.v) <|
.untick <|
.done 3 [])))))))) (u0 <|
.done 2 [.int .i64 (IntKind.wrap .i64 (n7 + 1))])))))))))) (
.done 1 []))) (u0 <|
.done 0 [.pointer p3]))))))
theorem towpathref04_Disk_Crash_eq (d : Option Addr) (picks : Sl) : decomp P 73 ⟨okFs, []⟩ { cnd := [(558551909007389, [(9, .one (.int .i64))]), (2233785415177863211, [(9, .one (.int .i64))]), (64563604257984479282, [(8, .one (.int .i64))])], blk := [(0, [])], reg := [(13, [])], lps := [(0, [(20, .one (.int .i64))])] } [.tmp 4] (bodyOf Go.Proofs.Try.f35) [.val (.pointer d), .val (.slice picks.a picks.len picks.cap)] = towpathref04_Disk_Crash d picks := by kernel_rfl
theorem towpathref04_Disk_Crash_calls (d : Option Addr) (picks : Sl) {w : World} {R : List Value → World → Prop} (h : (towpathref04_Disk_Crash d picks).wp P (fun _ => True) w fun e vs w' => e = 0 ∧ R vs w') :
    Calls P F.towpathref04_Disk_Crash #[.pointer d, .slice picks.a picks.len picks.cap] w fun e w' => ∃ vs, e = .returned (pack vs) ∧ R vs w' :=
  decomp_sound (isFn_of Go.Proofs.Try.func35 (by kernel_rfl) (by kernel_rfl) (by kernel_rfl)) okFs_ok mix [.val (.pointer d), .val (.slice picks.a picks.len picks.cap)] (by rw [towpathref04_Disk_Crash_eq]; exact h)

def disk_Disk_Cut (d : Option Addr) (name : ByteArray) (n : Int) : Prog :=
.call F.disk_Disk_may [.pointer d] (sI .i64) (u1 fun (n0 : Int) =>
.lt (.int .i64) (n0) fun (n1 : Int) =>
.ite (n1 != 0) (
.lt (.int .i64) (n1) fun (n2 : Int) =>
.done 0 [.int .i64 n2]) (
.ex [.adr] (c1 fun a3 => d = some a3) (u1 fun a4 =>
.read True (ld T.m_string_p_disk_file (Addr.add a4 4)) sM (u1 fun m5 =>
.read True (Instr.lookup T.m_string_p_disk_file (.map m5) (.string name) false) sP (u1 fun p6 =>
.lt (.bool) (Option.isNone p6) fun b7 =>
.ite (b7) (
.done 0 [.int .i64 3]) (
.ex [.adr] (c1 fun a8 => decide (n < 0) = false → p6 = some a8) (u1 fun a9 =>
.read (decide (n < 0) = false) (ld T.s_uint8 (Addr.add a9 0)) sL (u1 fun l10 =>
.lt (.bool) (decide (n < 0) || decide (n > ((l10.len : Nat) : Int))) fun b11 =>
.ite (b11) (
.done 0 [.int .i64 2]) (
.tick <|
.ex [.adr] (c1 fun a12 => d = some a12) (u1 fun a13 =>
.read True (ld T.int (Addr.add a13 3)) (sI .i64) (u1 fun (n14 : Int) =>
.ex [.adr] (c1 fun a15 => p6 = some a15) (u1 fun a16 =>
.read True (ld T.s_uint8 (Addr.add a16 0)) sL (u1 fun l17 =>
.ex [.adr] (c1 fun a18 => d = some a18) (u1 fun a19 =>
.actU (st T.int (Addr.add a19 3) (.int .i64 (IntKind.wrap .i64 (n14 - IntKind.wrap .i64 (((l17.len : Nat) : Int) - n))))) <|
.untick <|
.ex [.adr] (c1 fun a20 => p6 = some a20) (u1 fun a21 =>
.read True (ld T.s_uint8 (Addr.add a21 0)) sL (u1 fun l22 =>
.must (0 ≤ n ∧ n ≤ n ∧ n ≤ ((l22.cap : Nat) : Int)) <|
.ex [.adr] (c1 fun a23 => p6 = some a23) (u1 fun a24 =>
.actU (st T.s_uint8 (Addr.add a24 0) (.slice l22.a (Int.toNat n) (Int.toNat n))) <|
.ex [.adr] (c1 fun a25 => p6 = some a25) (u1 fun a26 =>
.read True (ld T.int (Addr.add a26 1)) (sI .i64) (u1 fun (n27 : Int) =>
.ex [.adr] (c1 fun a28 => p6 = some a28) (u1 fun a29 =>
.actU (st T.int (Addr.add a29 1) (.int .i64 (if n < n27 then n else n27))) <|
.ex [.adr] (c1 fun a30 => d = some a30) (u1 fun a31 =>
.call F.disk_power_spend [.pointer (some (Addr.add a31 0))] (.tup []) (u0 <|
.done 0 [.int .i64 0]))))))))))))))))))))))
theorem disk_Disk_Cut_eq (d : Option Addr) (name : ByteArray) (n : Int) : decomp P 72 ⟨okFs, []⟩ { cnd := [], blk := [], reg := [], lps := [] } [.tmp 6] (bodyOf Go.Proofs.Try.f36) [.val (.pointer d), .val (.string name), .val (.int .i64 n)] = disk_Disk_Cut d name n := by kernel_rfl
theorem disk_Disk_Cut_calls (d : Option Addr) (name : ByteArray) (n : Int) {w : World} {R : List Value → World → Prop} (h : (disk_Disk_Cut d name n).wp P (fun _ => True) w fun e vs w' => e = 0 ∧ R vs w') :
    Calls P F.disk_Disk_Cut #[.pointer d, .string name, .int .i64 n] w fun e w' => ∃ vs, e = .returned (pack vs) ∧ R vs w' :=
  decomp_sound (isFn_of Go.Proofs.Try.func36 (by kernel_rfl) (by kernel_rfl) (by kernel_rfl)) okFs_ok mix [.val (.pointer d), .val (.string name), .val (.int .i64 n)] (by rw [disk_Disk_Cut_eq]; exact h)

def disk_Disk_Size (d : Option Addr) (name : ByteArray) : Prog :=
.call F.disk_Disk_at [.pointer d, .string name] (sG [.slc, .int .i64]) (u2 fun l0 (n1 : Int) =>
.lt (.int .i64) (((l0.len : Nat) : Int)) fun (n2 : Int) =>
.done 0 [.int .i64 n2])
theorem disk_Disk_Size_eq (d : Option Addr) (name : ByteArray) : decomp P 10 ⟨okFs, []⟩ { cnd := [], blk := [], reg := [], lps := [] } [.tmp 4] (bodyOf Go.Proofs.Try.f37) [.val (.pointer d), .val (.string name)] = disk_Disk_Size d name := by kernel_rfl
theorem disk_Disk_Size_calls (d : Option Addr) (name : ByteArray) {w : World} {R : List Value → World → Prop} (h : (disk_Disk_Size d name).wp P (fun _ => True) w fun e vs w' => e = 0 ∧ R vs w') :
    Calls P F.disk_Disk_Size #[.pointer d, .string name] w fun e w' => ∃ vs, e = .returned (pack vs) ∧ R vs w' :=
  decomp_sound (isFn_of Go.Proofs.Try.func37 (by kernel_rfl) (by kernel_rfl) (by kernel_rfl)) okFs_ok mix [.val (.pointer d), .val (.string name)] (by rw [disk_Disk_Size_eq]; exact h)

def disk_Disk_Room (d : Option Addr) (n : Int) : Prog :=
.lt (.bool) (Option.isNone d) fun b0 =>
.ite (b0) (
.done 0 [.int .i64 1]) (
.lt (.bool) (decide (n < 0) || decide (n > 4194304)) fun b1 =>
.ite (b1) (
.done 0 [.int .i64 2]) (
.ex [.adr] (c1 fun a2 => d = some a2) (u1 fun a3 =>
.actU (st T.int (Addr.add a3 2) (.int .i64 n)) <|
.done 0 [.int .i64 0])))
theorem disk_Disk_Room_eq (d : Option Addr) (n : Int) : decomp P 19 ⟨okFs, []⟩ { cnd := [], blk := [], reg := [], lps := [] } [.tmp 4] (bodyOf Go.Proofs.Try.f38) [.val (.pointer d), .val (.int .i64 n)] = disk_Disk_Room d n := by kernel_rfl
theorem disk_Disk_Room_calls (d : Option Addr) (n : Int) {w : World} {R : List Value → World → Prop} (h : (disk_Disk_Room d n).wp P (fun _ => True) w fun e vs w' => e = 0 ∧ R vs w') :
    Calls P F.disk_Disk_Room #[.pointer d, .int .i64 n] w fun e w' => ∃ vs, e = .returned (pack vs) ∧ R vs w' :=
  decomp_sound (isFn_of Go.Proofs.Try.func38 (by kernel_rfl) (by kernel_rfl) (by kernel_rfl)) okFs_ok mix [.val (.pointer d), .val (.int .i64 n)] (by rw [disk_Disk_Room_eq]; exact h)

def disk_Disk_may (d : Option Addr) : Prog :=
.lt (.bool) (Option.isNone d) fun b0 =>
.ite (b0) (
.done 0 [.int .i64 1]) (
.ex [.adr] (c1 fun a1 => d = some a1) (u1 fun a2 =>
.read True (ld T.bool (Addr.add (Addr.add a2 0) 1)) sB (u1 fun b3 =>
.lt (.bool) (b3) fun b4 =>
.ite (b4) (
.done 0 [.int .i64 9]) (
.done 0 [.int .i64 0]))))
theorem disk_Disk_may_eq (d : Option Addr) : decomp P 12 ⟨okFs, []⟩ { cnd := [], blk := [], reg := [], lps := [] } [.tmp 2] (bodyOf Go.Proofs.Try.f39) [.val (.pointer d)] = disk_Disk_may d := by kernel_rfl
theorem disk_Disk_may_calls (d : Option Addr) {w : World} {R : List Value → World → Prop} (h : (disk_Disk_may d).wp P (fun _ => True) w fun e vs w' => e = 0 ∧ R vs w') :
    Calls P F.disk_Disk_may #[.pointer d] w fun e w' => ∃ vs, e = .returned (pack vs) ∧ R vs w' :=
  decomp_sound (isFn_of Go.Proofs.Try.func39 (by kernel_rfl) (by kernel_rfl) (by kernel_rfl)) okFs_ok mix [.val (.pointer d)] (by rw [disk_Disk_may_eq]; exact h)

def disk_power_spend (p : Option Addr) : Prog :=
.ex [.adr] (c1 fun a0 => p = some a0) (u1 fun a1 =>
.read True (ld T.int (Addr.add a1 0)) (sI .i64) (u1 fun (n2 : Int) =>
.bind 1 [] (
.ite (decide (n2 > 0)) (
.ex [.adr] (c1 fun a3 => p = some a3) (u1 fun a4 =>
.read True (ld T.int (Addr.add a4 0)) (sI .i64) (u1 fun (n5 : Int) =>
.ex [.adr] (c1 fun a6 => p = some a6) (u1 fun a7 =>
.actU (st T.int (Addr.add a7 0) (.int .i64 (IntKind.wrap .i64 (n5 - 1)))) <|
.ex [.adr] (c1 fun a8 => p = some a8) (u1 fun a9 =>
.read True (ld T.int (Addr.add a9 0)) (sI .i64) (u1 fun (n10 : Int) =>
.ex [.adr] (c1 fun a11 => p = some a11) (u1 fun a12 =>
.actU (st T.bool (Addr.add a12 1) (.bool (n10 == 0))) <|
.done 1 []))))))) (
.done 1 [])) (u0 <|
.done 0 [])))
theorem disk_power_spend_eq (p : Option Addr) : decomp P 22 ⟨okFs, []⟩ { cnd := [(17179344902, [])], blk := [], reg := [], lps := [] } [] (bodyOf Go.Proofs.Try.f40) [.val (.pointer p)] = disk_power_spend p := by kernel_rfl
theorem disk_power_spend_calls (p : Option Addr) {w : World} {R : List Value → World → Prop} (h : (disk_power_spend p).wp P (fun _ => True) w fun e vs w' => e = 0 ∧ R vs w') :
    Calls P F.disk_power_spend #[.pointer p] w fun e w' => ∃ vs, e = .returned (pack vs) ∧ R vs w' :=
  decomp_sound (isFn_of Go.Proofs.Try.func40 (by kernel_rfl) (by kernel_rfl) (by kernel_rfl)) okFs_ok mix [.val (.pointer p)] (by rw [disk_power_spend_eq]; exact h)

def bytes_Clone (b : Sl) : Prog :=
.ite (Option.isNone b.a) (
.done 0 [.slice none 0 0]) (
.act (Instr.buildSlice T.s_uint8 0 #[]) sL (u1 fun l0 =>
.act (app T.s_uint8 T.s_uint8 T.s_uint8 l0.v b.v) sL (u1 fun l1 =>
.done 0 [l1.v])))
theorem bytes_Clone_eq (b : Sl) : decomp P 8 ⟨okFs, []⟩ { cnd := [], blk := [], reg := [], lps := [] } [.tmp 2] (bodyOf Go.Proofs.Try.f41) [.val (.slice b.a b.len b.cap)] = bytes_Clone b := by kernel_rfl
theorem bytes_Clone_calls (b : Sl) {w : World} {R : List Value → World → Prop} (h : (bytes_Clone b).wp P (fun _ => True) w fun e vs w' => e = 0 ∧ R vs w') :
    Calls P F.bytes_Clone #[.slice b.a b.len b.cap] w fun e w' => ∃ vs, e = .returned (pack vs) ∧ R vs w' :=
  decomp_sound (isFn_of Go.Proofs.Try.func41 (by kernel_rfl) (by kernel_rfl) (by kernel_rfl)) okFs_ok mix [.val (.slice b.a b.len b.cap)] (by rw [bytes_Clone_eq]; exact h)

def maps_Keys_map_string_disk_file_string_disk_file (m : Option Nat) : Prog :=
.act (Instr.box T.m_string_p_disk_file (.map m)) sA (u1 fun a0 =>
.done 0 [.func (Fn.func 55) #[] #[.pointer (some a0)]])
theorem maps_Keys_map_string_disk_file_string_disk_file_eq (m : Option Nat) : decomp P 4 ⟨okFs, []⟩ { cnd := [], blk := [], reg := [], lps := [] } [.tmp 2] (bodyOf Go.Proofs.Try.f42) [.val (.map m)] = maps_Keys_map_string_disk_file_string_disk_file m := by kernel_rfl
theorem maps_Keys_map_string_disk_file_string_disk_file_calls (m : Option Nat) {w : World} {R : List Value → World → Prop} (h : (maps_Keys_map_string_disk_file_string_disk_file m).wp P (fun _ => True) w fun e vs w' => e = 0 ∧ R vs w') :
    Calls P F.maps_Keys_map_string_disk_file_string_disk_file #[.map m] w fun e w' => ∃ vs, e = .returned (pack vs) ∧ R vs w' :=
  decomp_sound (isFn_of Go.Proofs.Try.func42 (by kernel_rfl) (by kernel_rfl) (by kernel_rfl)) okFs_ok mix [.val (.map m)] (by rw [maps_Keys_map_string_disk_file_string_disk_file_eq]; exact h)

def strings_HasPrefix (s : ByteArray) (prefix_ : ByteArray) : Prog :=
.call F.internal_stringslite_HasPrefix [.string s, .string prefix_] sB (u1 fun b0 =>
.lt (.bool) (b0) fun b1 =>
.done 0 [.bool b1])
theorem strings_HasPrefix_eq (s : ByteArray) (prefix_ : ByteArray) : decomp P 8 ⟨okFs, []⟩ { cnd := [], blk := [], reg := [], lps := [] } [.tmp 4] (bodyOf Go.Proofs.Try.f43) [.val (.string s), .val (.string prefix_)] = strings_HasPrefix s prefix_ := by kernel_rfl
theorem strings_HasPrefix_calls (s : ByteArray) (prefix_ : ByteArray) {w : World} {R : List Value → World → Prop} (h : (strings_HasPrefix s prefix_).wp P (fun _ => True) w fun e vs w' => e = 0 ∧ R vs w') :
    Calls P F.strings_HasPrefix #[.string s, .string prefix_] w fun e w' => ∃ vs, e = .returned (pack vs) ∧ R vs w' :=
  decomp_sound (isFn_of Go.Proofs.Try.func43 (by kernel_rfl) (by kernel_rfl) (by kernel_rfl)) okFs_ok mix [.val (.string s), .val (.string prefix_)] (by rw [strings_HasPrefix_eq]; exact h)

def slices_Sort_s_string_string (x : Sl) : Prog :=
.lt (.int .i64) (((x.len : Nat) : Int)) fun (n0 : Int) =>
.call F.math_bits_Len [.int .u64 (IntKind.wrap .u64 n0)] (sI .i64) (u1 fun (n1 : Int) =>
.call F.slices_pdqsortOrdered_string [x.v, .int .i64 0, .int .i64 n0, .int .i64 n1] (.tup []) (u0 <|
.done 0 []))
theorem slices_Sort_s_string_string_eq (x : Sl) : decomp P 11 ⟨okFs, []⟩ { cnd := [], blk := [], reg := [], lps := [] } [] (bodyOf Go.Proofs.Try.f44) [.val (.slice x.a x.len x.cap)] = slices_Sort_s_string_string x := by kernel_rfl
theorem slices_Sort_s_string_string_calls (x : Sl) {w : World} {R : List Value → World → Prop} (h : (slices_Sort_s_string_string x).wp P (fun _ => True) w fun e vs w' => e = 0 ∧ R vs w') :
    Calls P F.slices_Sort_s_string_string #[.slice x.a x.len x.cap] w fun e w' => ∃ vs, e = .returned (pack vs) ∧ R vs w' :=
  decomp_sound (isFn_of Go.Proofs.Try.func44 (by kernel_rfl) (by kernel_rfl) (by kernel_rfl)) okFs_ok mix [.val (.slice x.a x.len x.cap)] (by rw [slices_Sort_s_string_string_eq]; exact h)

def disk_Disk_drop (d : Option Addr) (name : ByteArray) : Prog :=
.ex [.adr] (c1 fun a0 => d = some a0) (u1 fun a1 =>
.read True (ld T.m_string_p_disk_file (Addr.add a1 4)) sM (u1 fun m2 =>
.read True (Instr.lookup T.m_string_p_disk_file (.map m2) (.string name) false) sP (u1 fun p3 =>
.bind 1 [] (
.ite (not (Option.isNone p3)) (
.tick <|
.ex [.adr] (c1 fun a4 => d = some a4) (u1 fun a5 =>
.read True (ld T.int (Addr.add a5 3)) (sI .i64) (u1 fun (n6 : Int) =>
.ex [.adr] (c1 fun a7 => p3 = some a7) (u1 fun a8 =>
.read True (ld T.s_uint8 (Addr.add a8 0)) sL (u1 fun l9 =>
.ex [.adr] (c1 fun a10 => d = some a10) (u1 fun a11 =>
.actU (st T.int (Addr.add a11 3) (.int .i64 (IntKind.wrap .i64 (n6 - ((l9.len : Nat) : Int))))) <|
.untick <|
.ex [.adr] (c1 fun a12 => d = some a12) (u1 fun a13 =>
.read True (ld T.m_string_p_disk_file (Addr.add a13 4)) sM (u1 fun m14 =>
.act (Builtin.delete_ #[T.m_string_p_disk_file, T.string] T.unit #[.map m14, .string name]) (.tup []) (u0 <|
.done 1 []))))))))) (
.done 1 [])) (u0 <|
.done 0 []))))
theorem disk_Disk_drop_eq (d : Option Addr) (name : ByteArray) : decomp P 30 ⟨okFs, []⟩ { cnd := [(4398012956684, [])], blk := [], reg := [], lps := [] } [] (bodyOf Go.Proofs.Try.f45) [.val (.pointer d), .val (.string name)] = disk_Disk_drop d name := by kernel_rfl
theorem disk_Disk_drop_calls (d : Option Addr) (name : ByteArray) {w : World} {R : List Value → World → Prop} (h : (disk_Disk_drop d name).wp P (fun _ => True) w fun e vs w' => e = 0 ∧ R vs w') :
    Calls P F.disk_Disk_drop #[.pointer d, .string name] w fun e w' => ∃ vs, e = .returned (pack vs) ∧ R vs w' :=
  decomp_sound (isFn_of Go.Proofs.Try.func45 (by kernel_rfl) (by kernel_rfl) (by kernel_rfl)) okFs_ok mix [.val (.pointer d), .val (.string name)] (by rw [disk_Disk_drop_eq]; exact h)

def disk_file_copy (f : Option Addr) : Prog :=
.bind 1 [.one .ptr] (
.tick <|
.ex [.adr] (c1 fun a0 => f = some a0) (u1 fun a1 =>
.read True (ld T.s_uint8 (Addr.add a1 0)) sL (u1 fun l2 =>
.ex [.adr] (c1 fun a3 => f = some a3) (u1 fun a4 =>
.hold True (ld T.int (Addr.add a4 1)) (sI .i64) (u1 fun (n5 : Int) =>
.call F.bytes_Clone [l2.v] sL (u1 fun l6 =>
.untick <|
.act (Instr.box T.disk_file (.agg #[l6.v, .int .i64 n5])) sA (u1 fun a7 =>
.untick <|
.done 1 [.pointer (some a7)]))))))) (u1 fun p8 =>
.done 0 [.pointer p8])
theorem disk_file_copy_eq (f : Option Addr) : decomp P 14 ⟨okFs, []⟩ { cnd := [], blk := [], reg := [(1, [(2, .one .ptr)])], lps := [] } [.tmp 2] (bodyOf Go.Proofs.Try.f46) [.val (.pointer f)] = disk_file_copy f := by kernel_rfl
theorem disk_file_copy_calls (f : Option Addr) {w : World} {R : List Value → World → Prop} (h : (disk_file_copy f).wp P (fun _ => True) w fun e vs w' => e = 0 ∧ R vs w') :
    Calls P F.disk_file_copy #[.pointer f] w fun e w' => ∃ vs, e = .returned (pack vs) ∧ R vs w' :=
  decomp_sound (isFn_of Go.Proofs.Try.func46 (by kernel_rfl) (by kernel_rfl) (by kernel_rfl)) okFs_ok mix [.val (.pointer f)] (by rw [disk_file_copy_eq]; exact h)

def disk_Disk_at (d : Option Addr) (name : ByteArray) : Prog :=
.act (new T.disk_file) sA (u1 fun a0 =>
.ex [.adr] (c1 fun a1 => Option.isNone d = false → d = some a1) (u1 fun a2 =>
.read (Option.isNone d = false) (ld T.m_string_p_disk_file (Addr.add a2 4)) sM (u1 fun m3 =>
.read (Option.isNone d = false) (Instr.lookup T.m_string_p_disk_file (.map m3) (.string name) false) sP (u1 fun p4 =>
.ite (Option.isNone d || Option.isNone p4) (
.actU (st T.disk_file a0 (.agg #[.slice none 0 0, .int .i64 0])) <|
.read True (ld T.disk_file a0) (sG [.slc, .int .i64]) (u2 fun l5 (n6 : Int) =>
.done 0 [.agg #[l5.v, .int .i64 n6]])) (
.ex [.adr] (c1 fun a7 => d = some a7) (u1 fun a8 =>
.read True (ld T.m_string_p_disk_file (Addr.add a8 4)) sM (u1 fun m9 =>
.read True (Instr.lookup T.m_string_p_disk_file (.map m9) (.string name) false) sP (u1 fun p10 =>
.ex [.adr] (c1 fun a11 => p10 = some a11) (u1 fun a12 =>
.read True (ld T.disk_file a12) (sG [.slc, .int .i64]) (u2 fun l13 (n14 : Int) =>
.actU (st T.disk_file a0 (.agg #[l13.v, .int .i64 n14])) <|
.read True (ld T.disk_file a0) (sG [.slc, .int .i64]) (u2 fun l15 (n16 : Int) =>
.done 0 [.agg #[l15.v, .int .i64 n16]])))))))))))
theorem disk_Disk_at_eq (d : Option Addr) (name : ByteArray) : decomp P 25 ⟨okFs, []⟩ { cnd := [], blk := [], reg := [], lps := [] } [.cell 4 74] (bodyOf Go.Proofs.Try.f47) [.val (.pointer d), .val (.string name)] = disk_Disk_at d name := by kernel_rfl
theorem disk_Disk_at_calls (d : Option Addr) (name : ByteArray) {w : World} {R : List Value → World → Prop} (h : (disk_Disk_at d name).wp P (fun _ => True) w fun e vs w' => e = 0 ∧ R vs w') :
    Calls P F.disk_Disk_at #[.pointer d, .string name] w fun e w' => ∃ vs, e = .returned (pack vs) ∧ R vs w' :=
  decomp_sound (isFn_of Go.Proofs.Try.func47 (by kernel_rfl) (by kernel_rfl) (by kernel_rfl)) okFs_ok mix [.val (.pointer d), .val (.string name)] (by rw [disk_Disk_at_eq]; exact h)

def towpathref04_Disk_Append (d : Option Addr) (name : ByteArray) (b : ByteArray) : Prog :=
.ex [.adr] (c1 fun a0 => d = some a0) (u1 fun a1 =>
.read True (ld T.bool (Addr.add a1 3)) sB (u1 fun b2 =>
.ite (b2) (
.done 0 [.int .i64 9]) (
.call F.towpathref04_Name [.string name] sB (u1 fun b3 =>
.ite (not b3) (
.done 0 [.int .i64 2]) (
.call F.towpathref04_Disk_At [.pointer d, .string name] (sI .i64) (u1 fun (n4 : Int) =>
.lt (.int .i64) (n4) fun (n5 : Int) =>
.call F.towpathref04_Disk_Free [.pointer d] (sI .i64) (u1 fun (n6 : Int) =>
.ex [.adr] (c1 fun a7 => decide (((ByteArray.size b : Nat) : Int) > n6) = false ∧ decide (n5 < 0) = true → d = some a7) (u1 fun a8 =>
.read (decide (((ByteArray.size b : Nat) : Int) > n6) = false ∧ decide (n5 < 0) = true) (ld T.s_towpathref04_File (Addr.add a8 1)) sL (u1 fun l9 =>
.ite (decide (((ByteArray.size b : Nat) : Int) > n6) || decide (n5 < 0) && decide (((l9.len : Nat) : Int) ≥ 128)) (
.done 0 [.int .i64 5]) (
.bind 1 [] (
.ite (decide (n5 < 0)) (
.call F.towpathref04_Disk_with [.pointer d, .agg #[.string name, .string b, .int .i64 0]] (.tup []) (u0 <|
.done 1 [])) (
.ex [.adr] (c1 fun a10 => d = some a10) (u1 fun a11 =>
.read True (ld T.s_towpathref04_File (Addr.add a11 1)) sL (u1 fun l12 =>
.ex [.adr] (c1 fun a13 => 0 ≤ n5 ∧ n5 < ((l12.len : Nat) : Int) ∧ l12.a = some a13) (u1 fun a14 =>
.read True (ld T.string (Addr.add (Addr.add a14 (Int.toNat n5 * 3)) 1)) sS (u1 fun s15 =>
.must (((ByteArray.size s15 + ByteArray.size b : Nat) : Int) ≤ 9223372036854775807) <|
.ex [.adr] (c1 fun a16 => 0 ≤ n5 ∧ n5 < ((l12.len : Nat) : Int) ∧ l12.a = some a16) (u1 fun a17 =>
.actU (st T.string (Addr.add (Addr.add a17 (Int.toNat n5 * 3)) 1) (.string (s15 ++ b))) <|
.done 1 []))))))) (u0 <|
.call F.towpathref04_Disk_done [.pointer d] (sI .i64) (u1 fun (n18 : Int) =>
.lt (.int .i64) (n18) fun (n19 : Int) =>
.done 0 [.int .i64 n19]))))))))))))
theorem towpathref04_Disk_Append_eq (d : Option Addr) (name : ByteArray) (b : ByteArray) : decomp P 56 ⟨okFs, []⟩ { cnd := [(73786413344884785188, [])], blk := [], reg := [], lps := [] } [.tmp 6] (bodyOf Go.Proofs.Try.f48) [.val (.pointer d), .val (.string name), .val (.string b)] = towpathref04_Disk_Append d name b := by kernel_rfl
theorem towpathref04_Disk_Append_calls (d : Option Addr) (name : ByteArray) (b : ByteArray) {w : World} {R : List Value → World → Prop} (h : (towpathref04_Disk_Append d name b).wp P (fun _ => True) w fun e vs w' => e = 0 ∧ R vs w') :
    Calls P F.towpathref04_Disk_Append #[.pointer d, .string name, .string b] w fun e w' => ∃ vs, e = .returned (pack vs) ∧ R vs w' :=
  decomp_sound (isFn_of Go.Proofs.Try.func48 (by kernel_rfl) (by kernel_rfl) (by kernel_rfl)) okFs_ok mix [.val (.pointer d), .val (.string name), .val (.string b)] (by rw [towpathref04_Disk_Append_eq]; exact h)

def towpathref04_Disk_Sync (d : Option Addr) (names : Sl) : Prog :=
.ex [.adr] (c1 fun a0 => d = some a0) (u1 fun a1 =>
.read True (ld T.bool (Addr.add a1 3)) sB (u1 fun b2 =>
.ite (b2) (
.done 0 [.int .i64 9]) (
.bind 1 [] (
.loop 2 [.one (.int .i64)] (0, ()) (u1 fun (n3 : Int) =>
.ite (decide (n3 < ((names.len : Nat) : Int))) (
.ex [.adr] (c1 fun a4 => 0 ≤ n3 ∧ n3 < ((names.len : Nat) : Int) ∧ names.a = some a4) (u1 fun a5 =>
.read True (ld T.string (Addr.add a5 (Int.toNat n3 * 1))) sS (u1 fun s6 =>
.lt (.str) (s6) fun s7 =>
.call F.towpathref04_Disk_At [.pointer d, .string s7] (sI .i64) (u1 fun (n8 : Int) =>
.ite (decide (n8 < 0)) (
.done 0 [.int .i64 3]) (
.done 2 [.int .i64 (IntKind.wrap .i64 (n3 + 1))]))))) (
.done 1 []))) (u0 <|
.ex [.adr] (c1 fun a9 => d = some a9) (u1 fun a10 =>
.read True (ld T.s_towpathref04_File (Addr.add a10 1)) sL (u1 fun l11 =>
.bind 1 [] (
.loop 2 [.one (.int .i64)] (0, ()) (u1 fun (n12 : Int) =>
.ite (decide (n12 < ((l11.len : Nat) : Int))) (
.bind 3 [] (
.lt (.int .i64) (n12) fun (n13 : Int) =>
.lt (.bool) (((names.len : Nat) : Int) == 0) fun b14 =>
.bind 4 [.one .bool] (
.loop 5 [.one .bool, .one (.int .i64)] (b14, (0, ())) (u2 fun b15 (n16 : Int) =>
.ite (decide (n16 < ((names.len : Nat) : Int))) (
.ex [.adr] (c1 fun a17 => 0 ≤ n16 ∧ n16 < ((names.len : Nat) : Int) ∧ names.a = some a17) (u1 fun a18 =>
.read True (ld T.string (Addr.add a18 (Int.toNat n16 * 1))) sS (u1 fun s19 =>
.lt (.str) (s19) fun s20 =>
.ex [.adr] (c1 fun a21 => b15 = false → d = some a21) (u1 fun a22 =>
.read (b15 = false) (ld T.s_towpathref04_File (Addr.add a22 1)) sL (u1 fun l23 =>
.ex [.adr] (c1 fun a24 => b15 = false → 0 ≤ n13 ∧ n13 < ((l23.len : Nat) : Int) ∧ l23.a = some a24) (u1 fun a25 =>
.read (b15 = false) (ld T.string (Addr.add (Addr.add a25 (Int.toNat n13 * 3)) 0)) sS (u1 fun s26 =>
.lt (.bool) (b15 || ByteArray.toList s20 == ByteArray.toList s26) fun b27 =>
.done 5 [.bool b27, .int .i64 (IntKind.wrap .i64 (n16 + 1))]))))))) (
.done 4 [.bool b15]))) (u1 fun b28 =>
.bind 4 [] (
.ite (b28) (
.tick <|
.ex [.adr] (c1 fun a29 => d = some a29) (u1 fun a30 =>
.read True (ld T.s_towpathref04_File (Addr.add a30 1)) sL (u1 fun l31 =>
.ex [.adr] (c1 fun a32 => d = some a32) (u1 fun a33 =>
.read True (ld T.s_towpathref04_File (Addr.add a33 1)) sL (u1 fun l34 =>
.ex [.adr] (c1 fun a35 => 0 ≤ n13 ∧ n13 < ((l34.len : Nat) : Int) ∧ l34.a = some a35) (u1 fun a36 =>
.read True (ld T.string (Addr.add (Addr.add a36 (Int.toNat n13 * 3)) 1)) sS (u1 fun s37 =>
.ex [.adr] (c1 fun a38 => 0 ≤ n13 ∧ n13 < ((l31.len : Nat) : Int) ∧ l31.a = some a38) (u1 fun a39 =>
.actU (st T.int (Addr.add (Addr.add a39 (Int.toNat n13 * 3)) 2) (.int .i64 (((ByteArray.size s37 : Nat) : Int)))) <|
.untick <|
.done 4 [])))))))) (
.done 4 [])) (u0 <|
.done 3 []))) (u0 <|
.done 2 [.int .i64 (IntKind.wrap .i64 (n12 + 1))])) (
.done 1 []))) (u0 <|
.call F.towpathref04_Disk_done [.pointer d] (sI .i64) (u1 fun (n40 : Int) =>
.lt (.int .i64) (n40) fun (n41 : Int) =>
.done 0 [.int .i64 n41]))))))))
theorem towpathref04_Disk_Sync_eq (d : Option Addr) (names : Sl) : decomp P 77 ⟨okFs, []⟩ { cnd := [(77370071863715549769891897, [])], blk := [(0, []), (2, []), (3, []), (4, [(8, .one .bool)])], reg := [], lps := [(0, [(17, .one (.int .i64))]), (2, [(31, .one (.int .i64))]), (4, [(8, .one .bool), (39, .one (.int .i64))])] } [.tmp 4] (bodyOf Go.Proofs.Try.f49) [.val (.pointer d), .val (.slice names.a names.len names.cap)] = towpathref04_Disk_Sync d names := by kernel_rfl
theorem towpathref04_Disk_Sync_calls (d : Option Addr) (names : Sl) {w : World} {R : List Value → World → Prop} (h : (towpathref04_Disk_Sync d names).wp P (fun _ => True) w fun e vs w' => e = 0 ∧ R vs w') :
    Calls P F.towpathref04_Disk_Sync #[.pointer d, .slice names.a names.len names.cap] w fun e w' => ∃ vs, e = .returned (pack vs) ∧ R vs w' :=
  decomp_sound (isFn_of Go.Proofs.Try.func49 (by kernel_rfl) (by kernel_rfl) (by kernel_rfl)) okFs_ok mix [.val (.pointer d), .val (.slice names.a names.len names.cap)] (by rw [towpathref04_Disk_Sync_eq]; exact h)

def towpathref04_Disk_Cut (d : Option Addr) (name : ByteArray) (n : Int) : Prog :=
.ex [.adr] (c1 fun a0 => d = some a0) (u1 fun a1 =>
.read True (ld T.bool (Addr.add a1 3)) sB (u1 fun b2 =>
.ite (b2) (
.done 0 [.int .i64 9]) (
.call F.towpathref04_Disk_At [.pointer d, .string name] (sI .i64) (u1 fun (n3 : Int) =>
.lt (.int .i64) (n3) fun (n4 : Int) =>
.ite (decide (n4 < 0)) (
.done 0 [.int .i64 3]) (
.ex [.adr] (c1 fun a5 => decide (n < 0) = false → d = some a5) (u1 fun a6 =>
.read (decide (n < 0) = false) (ld T.s_towpathref04_File (Addr.add a6 1)) sL (u1 fun l7 =>
.ex [.adr] (c1 fun a8 => decide (n < 0) = false → 0 ≤ n4 ∧ n4 < ((l7.len : Nat) : Int) ∧ l7.a = some a8) (u1 fun a9 =>
.read (decide (n < 0) = false) (ld T.string (Addr.add (Addr.add a9 (Int.toNat n4 * 3)) 1)) sS (u1 fun s10 =>
.ite (decide (n < 0) || decide (n > ((ByteArray.size s10 : Nat) : Int))) (
.done 0 [.int .i64 2]) (
.tick <|
.ex [.adr] (c1 fun a11 => d = some a11) (u1 fun a12 =>
.read True (ld T.s_towpathref04_File (Addr.add a12 1)) sL (u1 fun l13 =>
.ex [.adr] (c1 fun a14 => d = some a14) (u1 fun a15 =>
.read True (ld T.s_towpathref04_File (Addr.add a15 1)) sL (u1 fun l16 =>
.ex [.adr] (c1 fun a17 => 0 ≤ n4 ∧ n4 < ((l16.len : Nat) : Int) ∧ l16.a = some a17) (u1 fun a18 =>
.read True (ld T.string (Addr.add (Addr.add a18 (Int.toNat n4 * 3)) 1)) sS (u1 fun s19 =>
.must (0 ≤ n ∧ n ≤ ((ByteArray.size s19 : Nat) : Int)) <|
.ex [.adr] (c1 fun a20 => 0 ≤ n4 ∧ n4 < ((l13.len : Nat) : Int) ∧ l13.a = some a20) (u1 fun a21 =>
.actU (st T.string (Addr.add (Addr.add a21 (Int.toNat n4 * 3)) 1) (.string (ByteArray.extract s19 0 (Int.toNat n)))) <|
.untick <|
.ex [.adr] (c1 fun a22 => d = some a22) (u1 fun a23 =>
.read True (ld T.s_towpathref04_File (Addr.add a23 1)) sL (u1 fun l24 =>
.ex [.adr] (c1 fun a25 => 0 ≤ n4 ∧ n4 < ((l24.len : Nat) : Int) ∧ l24.a = some a25) (u1 fun a26 =>
.read True (ld T.int (Addr.add (Addr.add a26 (Int.toNat n4 * 3)) 2)) (sI .i64) (u1 fun (n27 : Int) =>
.bind 1 [] (
.ite (decide (n27 > n)) (
.ex [.adr] (c1 fun a28 => d = some a28) (u1 fun a29 =>
.read True (ld T.s_towpathref04_File (Addr.add a29 1)) sL (u1 fun l30 =>
.ex [.adr] (c1 fun a31 => 0 ≤ n4 ∧ n4 < ((l30.len : Nat) : Int) ∧ l30.a = some a31) (u1 fun a32 =>
.actU (st T.int (Addr.add (Addr.add a32 (Int.toNat n4 * 3)) 2) (.int .i64 n)) <|
.done 1 [])))) (
.done 1 [])) (u0 <|
.call F.towpathref04_Disk_done [.pointer d] (sI .i64) (u1 fun (n33 : Int) =>
.lt (.int .i64) (n33) fun (n34 : Int) =>
.done 0 [.int .i64 n34])))))))))))))))))))))))
theorem towpathref04_Disk_Cut_eq (d : Option Addr) (name : ByteArray) (n : Int) : decomp P 69 ⟨okFs, []⟩ { cnd := [(602101726565879764746298, [])], blk := [], reg := [], lps := [] } [.tmp 6] (bodyOf Go.Proofs.Try.f50) [.val (.pointer d), .val (.string name), .val (.int .i64 n)] = towpathref04_Disk_Cut d name n := by kernel_rfl
theorem towpathref04_Disk_Cut_calls (d : Option Addr) (name : ByteArray) (n : Int) {w : World} {R : List Value → World → Prop} (h : (towpathref04_Disk_Cut d name n).wp P (fun _ => True) w fun e vs w' => e = 0 ∧ R vs w') :
    Calls P F.towpathref04_Disk_Cut #[.pointer d, .string name, .int .i64 n] w fun e w' => ∃ vs, e = .returned (pack vs) ∧ R vs w' :=
  decomp_sound (isFn_of Go.Proofs.Try.func50 (by kernel_rfl) (by kernel_rfl) (by kernel_rfl)) okFs_ok mix [.val (.pointer d), .val (.string name), .val (.int .i64 n)] (by rw [towpathref04_Disk_Cut_eq]; exact h)

def towpathref04_Disk_Rename (d : Option Addr) (from_ : ByteArray) (to_ : ByteArray) : Prog :=
.ex [.adr] (c1 fun a0 => d = some a0) (u1 fun a1 =>
.read True (ld T.bool (Addr.add a1 3)) sB (u1 fun b2 =>
.ite (b2) (
.done 0 [.int .i64 9]) (
.call F.towpathref04_Disk_At [.pointer d, .string from_] (sI .i64) (u1 fun (n3 : Int) =>
.lt (.int .i64) (n3) fun (n4 : Int) =>
.ite (decide (n4 < 0)) (
.done 0 [.int .i64 3]) (
.call F.towpathref04_Name [.string to_] sB (u1 fun b5 =>
.ite (not b5) (
.done 0 [.int .i64 2]) (
.bind 1 [] (
.ite (not (ByteArray.toList from_ == ByteArray.toList to_)) (
.ex [.adr] (c1 fun a6 => d = some a6) (u1 fun a7 =>
.read True (ld T.s_towpathref04_File (Addr.add a7 1)) sL (u1 fun l8 =>
.ex [.adr] (c1 fun a9 => 0 ≤ n4 ∧ n4 < ((l8.len : Nat) : Int) ∧ l8.a = some a9) (u1 fun a10 =>
.read True (ld T.towpathref04_File (Addr.add a10 (Int.toNat n4 * 3))) (sG [.str, .str, .int .i64]) (u3 fun s11 s12 (n13 : Int) =>
.act (new T.towpathref04_File) sA (u1 fun a14 =>
.actU (st T.towpathref04_File a14 (.agg #[.string s11, .string s12, .int .i64 n13])) <|
.actU (st T.string (Addr.add a14 0) (.string to_)) <|
.call F.towpathref04_Disk_without [.pointer d, .string from_] (.tup []) (u0 <|
.call F.towpathref04_Disk_without [.pointer d, .string to_] (.tup []) (u0 <|
.read True (ld T.towpathref04_File a14) (sG [.str, .str, .int .i64]) (u3 fun s15 s16 (n17 : Int) =>
.call F.towpathref04_Disk_with [.pointer d, .agg #[.string s15, .string s16, .int .i64 n17]] (.tup []) (u0 <|
.done 1 [])))))))))) (
.done 1 [])) (u0 <|
.call F.towpathref04_Disk_done [.pointer d] (sI .i64) (u1 fun (n18 : Int) =>
.lt (.int .i64) (n18) fun (n19 : Int) =>
.done 0 [.int .i64 n19])))))))))
theorem towpathref04_Disk_Rename_eq (d : Option Addr) (from_ : ByteArray) (to_ : ByteArray) : decomp P 44 ⟨okFs, []⟩ { cnd := [(18014329791053847, [])], blk := [], reg := [], lps := [] } [.tmp 6] (bodyOf Go.Proofs.Try.f51) [.val (.pointer d), .val (.string from_), .val (.string to_)] = towpathref04_Disk_Rename d from_ to_ := by kernel_rfl
theorem towpathref04_Disk_Rename_calls (d : Option Addr) (from_ : ByteArray) (to_ : ByteArray) {w : World} {R : List Value → World → Prop} (h : (towpathref04_Disk_Rename d from_ to_).wp P (fun _ => True) w fun e vs w' => e = 0 ∧ R vs w') :
    Calls P F.towpathref04_Disk_Rename #[.pointer d, .string from_, .string to_] w fun e w' => ∃ vs, e = .returned (pack vs) ∧ R vs w' :=
  decomp_sound (isFn_of Go.Proofs.Try.func51 (by kernel_rfl) (by kernel_rfl) (by kernel_rfl)) okFs_ok mix [.val (.pointer d), .val (.string from_), .val (.string to_)] (by rw [towpathref04_Disk_Rename_eq]; exact h)

def towpathref04_Disk_Remove (d : Option Addr) (name : ByteArray) : Prog :=
.ex [.adr] (c1 fun a0 => d = some a0) (u1 fun a1 =>
.read True (ld T.bool (Addr.add a1 3)) sB (u1 fun b2 =>
.ite (b2) (
.done 0 [.int .i64 9]) (
.call F.towpathref04_Disk_At [.pointer d, .string name] (sI .i64) (u1 fun (n3 : Int) =>
.ite (decide (n3 < 0)) (
.done 0 [.int .i64 3]) (
.call F.towpathref04_Disk_without [.pointer d, .string name] (.tup []) (u0 <|
.call F.towpathref04_Disk_done [.pointer d] (sI .i64) (u1 fun (n4 : Int) =>
.lt (.int .i64) (n4) fun (n5 : Int) =>
.done 0 [.int .i64 n5])))))))
theorem towpathref04_Disk_Remove_eq (d : Option Addr) (name : ByteArray) : decomp P 18 ⟨okFs, []⟩ { cnd := [], blk := [], reg := [], lps := [] } [.tmp 4] (bodyOf Go.Proofs.Try.f52) [.val (.pointer d), .val (.string name)] = towpathref04_Disk_Remove d name := by kernel_rfl
theorem towpathref04_Disk_Remove_calls (d : Option Addr) (name : ByteArray) {w : World} {R : List Value → World → Prop} (h : (towpathref04_Disk_Remove d name).wp P (fun _ => True) w fun e vs w' => e = 0 ∧ R vs w') :
    Calls P F.towpathref04_Disk_Remove #[.pointer d, .string name] w fun e w' => ∃ vs, e = .returned (pack vs) ∧ R vs w' :=
  decomp_sound (isFn_of Go.Proofs.Try.func52 (by kernel_rfl) (by kernel_rfl) (by kernel_rfl)) okFs_ok mix [.val (.pointer d), .val (.string name)] (by rw [towpathref04_Disk_Remove_eq]; exact h)

def towpathref04_Disk_Fuse (d : Option Addr) (n : Int) : Prog :=
.ex [.adr] (c1 fun a0 => d = some a0) (u1 fun a1 =>
.read True (ld T.bool (Addr.add a1 3)) sB (u1 fun b2 =>
.ite (b2) (
.done 0 []) (
.ex [.adr] (c1 fun a3 => d = some a3) (u1 fun a4 =>
.actU (st T.int (Addr.add a4 2) (.int .i64 n)) <|
.bind 1 [] (
.ite (decide (n < 0)) (
.ex [.adr] (c1 fun a5 => d = some a5) (u1 fun a6 =>
.actU (st T.int (Addr.add a6 2) (.int .i64 (-1))) <|
.done 1 [])) (
.done 1 [])) (u0 <|
.bind 1 [] (
.ite (n == 0) (
.ex [.adr] (c1 fun a7 => d = some a7) (u1 fun a8 =>
.actU (st T.bool (Addr.add a8 3) (.bool true)) <|
.done 1 [])) (
.done 1 [])) (u0 <|
.done 0 []))))))
theorem towpathref04_Disk_Fuse_eq (d : Option Addr) (n : Int) : decomp P 22 ⟨okFs, []⟩ { cnd := [(469762061, []), (15032385554, [])], blk := [], reg := [], lps := [] } [] (bodyOf Go.Proofs.Try.f53) [.val (.pointer d), .val (.int .i64 n)] = towpathref04_Disk_Fuse d n := by kernel_rfl
theorem towpathref04_Disk_Fuse_calls (d : Option Addr) (n : Int) {w : World} {R : List Value → World → Prop} (h : (towpathref04_Disk_Fuse d n).wp P (fun _ => True) w fun e vs w' => e = 0 ∧ R vs w') :
    Calls P F.towpathref04_Disk_Fuse #[.pointer d, .int .i64 n] w fun e w' => ∃ vs, e = .returned (pack vs) ∧ R vs w' :=
  decomp_sound (isFn_of Go.Proofs.Try.func53 (by kernel_rfl) (by kernel_rfl) (by kernel_rfl)) okFs_ok mix [.val (.pointer d), .val (.int .i64 n)] (by rw [towpathref04_Disk_Fuse_eq]; exact h)

def towpathref04_Disk_Used (d : Option Addr) : Prog :=
.ex [.adr] (c1 fun a0 => d = some a0) (u1 fun a1 =>
.read True (ld T.s_towpathref04_File (Addr.add a1 1)) sL (u1 fun l2 =>
.bind 1 [.one (.int .i64)] (
.loop 2 [.one (.int .i64), .one (.int .i64)] (0, (0, ())) (u2 fun (n3 : Int) (n4 : Int) =>
.ite (decide (n4 < ((l2.len : Nat) : Int))) (
.ex [.adr] (c1 fun a5 => 0 ≤ n4 ∧ n4 < ((l2.len : Nat) : Int) ∧ l2.a = some a5) (u1 fun a6 =>
.read True (ld T.towpathref04_File (Addr.add a6 (Int.toNat n4 * 3))) (sG [.str, .str, .int .i64]) (u3 fun s7 s8 (n9 : Int) =>
.act (new T.towpathref04_File) sA (u1 fun a10 =>
.actU (st T.towpathref04_File a10 (.agg #[.string s7, .string s8, .int .i64 n9])) <|
.read True (ld T.string (Addr.add a10 1)) sS (u1 fun s11 =>
.lt (.int .i64) (IntKind.wrap .i64 (n3 + ((ByteArray.size s11 : Nat) : Int))) fun (n12 : Int) =>
.done 2 [.int .i64 n12, .int .i64 (IntKind.wrap .i64 (n4 + 1))]))))) (
.done 1 [.int .i64 n3]))) (u1 fun (n13 : Int) =>
.lt (.int .i64) (n13) fun (n14 : Int) =>
.done 0 [.int .i64 n14])))
theorem towpathref04_Disk_Used_eq (d : Option Addr) : decomp P 22 ⟨okFs, []⟩ { cnd := [], blk := [(0, [(3, .one (.int .i64))])], reg := [], lps := [(0, [(3, .one (.int .i64)), (11, .one (.int .i64))])] } [.tmp 2] (bodyOf Go.Proofs.Try.f54) [.val (.pointer d)] = towpathref04_Disk_Used d := by kernel_rfl
theorem towpathref04_Disk_Used_calls (d : Option Addr) {w : World} {R : List Value → World → Prop} (h : (towpathref04_Disk_Used d).wp P (fun _ => True) w fun e vs w' => e = 0 ∧ R vs w') :
    Calls P F.towpathref04_Disk_Used #[.pointer d] w fun e w' => ∃ vs, e = .returned (pack vs) ∧ R vs w' :=
  decomp_sound (isFn_of Go.Proofs.Try.func54 (by kernel_rfl) (by kernel_rfl) (by kernel_rfl)) okFs_ok mix [.val (.pointer d)] (by rw [towpathref04_Disk_Used_eq]; exact h)

def maps_Keys_map_string_disk_file_string_disk_file_1 (yield : Value) : Prog :=
.fail 7
theorem maps_Keys_map_string_disk_file_string_disk_file_1_eq (yield : Value) : decomp P 14 ⟨okFs, [(6, [.one .str, .one .ptr])]⟩ { cnd := [], blk := [(0, [])], reg := [], lps := [(0, [])] } [] (bodyOf Go.Proofs.Try.f55) [.any yield] = maps_Keys_map_string_disk_file_string_disk_file_1 yield := by kernel_rfl
theorem maps_Keys_map_string_disk_file_string_disk_file_1_calls (yield : Value) {w : World} {R : List Value → World → Prop} (h : (maps_Keys_map_string_disk_file_string_disk_file_1 yield).wp P (fun _ => True) w fun e vs w' => e = 0 ∧ R vs w') :
    Calls P F.maps_Keys_map_string_disk_file_string_disk_file_1 #[yield] w fun e w' => ∃ vs, e = .returned (pack vs) ∧ R vs w' :=
  decomp_sound (isFn_of Go.Proofs.Try.func55 (by kernel_rfl) (by kernel_rfl) (by kernel_rfl)) okFs_ok mix [.any yield] (by rw [maps_Keys_map_string_disk_file_string_disk_file_1_eq]; exact h)

def slices_pdqsortOrdered_string (data : Sl) (a : Int) (b : Int) (limit : Int) : Prog :=
.loop 1 [.one (.int .i64), .one (.int .i64), .one (.int .i64), .one .bool, .one .bool] (a, (b, (limit, (true, (true, ()))))) (u5 fun (n0 : Int) (n1 : Int) (n2 : Int) b3 b4 =>
.bind 2 [.one (.int .i64), .one (.int .i64), .one (.int .i64), .one .bool, .one .bool] (
.lt (.int .i64) (IntKind.wrap .i64 (n1 - n0)) fun (n5 : Int) =>
.ite (decide (n5 ≤ 12)) (
.call F.slices_insertionSortOrdered_string [data.v, .int .i64 n0, .int .i64 n1] (.tup []) (u0 <|
.done 0 [])) (
.ite (n2 == 0) (
.call F.slices_heapSortOrdered_string [data.v, .int .i64 n0, .int .i64 n1] (.tup []) (u0 <|
.done 0 [])) (
.bind 3 [.one (.int .i64)] (
.ite (not b3) (
.call F.slices_breakPatternsOrdered_string [data.v, .int .i64 n0, .int .i64 n1] (.tup []) (u0 <|
.lt (.int .i64) (IntKind.wrap .i64 (n2 - 1)) fun (n6 : Int) =>
.done 3 [.int .i64 n6])) (
.done 3 [.int .i64 n2])) (u1 fun (n7 : Int) =>
.call F.slices_choosePivotOrdered_string [data.v, .int .i64 n0, .int .i64 n1] (.tup [.one (.int .i64), .one (.int .i64)]) (u2 fun (n8 : Int) (n9 : Int) =>
.lt (.int .i64) (n8) fun (n10 : Int) =>
.lt (.int .i64) (n9) fun (n11 : Int) =>
.bind 3 [.one (.int .i64), .one (.int .i64)] (
.ite (n11 == 2) (
.call F.slices_reverseRangeOrdered_string [data.v, .int .i64 n0, .int .i64 n1] (.tup []) (u0 <|
.lt (.int .i64) (IntKind.wrap .i64 (IntKind.wrap .i64 (n1 - 1) - IntKind.wrap .i64 (n10 - n0))) fun (n12 : Int) =>
.done 3 [.int .i64 n12, .int .i64 1])) (
.done 3 [.int .i64 n10, .int .i64 n11])) (u2 fun (n13 : Int) (n14 : Int) =>
.bind 3 [] (
.ite (b3 && b4 && n14 == 1) (
.call F.slices_partialInsertionSortOrdered_string [data.v, .int .i64 n0, .int .i64 n1] sB (u1 fun b15 =>
.ite (b15) (
.done 0 []) (
.done 3 []))) (
.done 3 [])) (u0 <|
.bind 3 [.one .bool] (
.tick <|
.ex [.adr] (c1 fun a16 => decide (n0 > 0) = true → 0 ≤ IntKind.wrap .i64 (n0 - 1) ∧ IntKind.wrap .i64 (n0 - 1) < ((data.len : Nat) : Int) ∧ data.a = some a16) (u1 fun a17 =>
.read (decide (n0 > 0) = true) (ld T.string (Addr.add a17 (Int.toNat (IntKind.wrap .i64 (n0 - 1)) * 1))) sS (u1 fun s18 =>
.ex [.adr] (c1 fun a19 => decide (n0 > 0) = true → 0 ≤ n13 ∧ n13 < ((data.len : Nat) : Int) ∧ data.a = some a19) (u1 fun a20 =>
.read (decide (n0 > 0) = true) (ld T.string (Addr.add a20 (Int.toNat n13 * 1))) sS (u1 fun s21 =>
.ite (decide (n0 > 0)) (
.call F.cmp_Less_string [.string s18, .string s21] sB (u1 fun b22 =>
.untick <|
.done 3 [.bool (not b22)])) (
.untick <|
.done 3 [.bool false])))))) (u1 fun b23 =>
.ite (b23) (
.call F.slices_partitionEqualOrdered_string [data.v, .int .i64 n0, .int .i64 n1, .int .i64 n13] (sI .i64) (u1 fun (n24 : Int) =>
.lt (.int .i64) (n24) fun (n25 : Int) =>
.lt (.int .i64) (n25) fun (n26 : Int) =>
.done 2 [.int .i64 n26, .int .i64 n1, .int .i64 n7, .bool b3, .bool b4])) (
.call F.slices_partitionOrdered_string [data.v, .int .i64 n0, .int .i64 n1, .int .i64 n13] (.tup [.one (.int .i64), .one .bool]) (u2 fun (n27 : Int) b28 =>
.lt (.int .i64) (n27) fun (n29 : Int) =>
.lt (.bool) (b28) fun b30 =>
.lt (.bool) (b30) fun b31 =>
.lt (.int .i64) (IntKind.wrap .i64 (n29 - n0)) fun (n32 : Int) =>
.lt (.int .i64) (IntKind.wrap .i64 (n1 - n29)) fun (n33 : Int) =>
.lt (.int .i64) (IntKind.wrap .i64 (Int.tdiv n5 8)) fun (n34 : Int) =>
.bind 3 [.one (.int .i64), .one (.int .i64), .one .bool] (
.ite (decide (n32 < n33)) (
.lt (.bool) (decide (n32 ≥ n34)) fun b35 =>
.call F.slices_pdqsortOrdered_string [data.v, .int .i64 n0, .int .i64 n29, .int .i64 n7] (.tup []) (u0 <|
.lt (.int .i64) (IntKind.wrap .i64 (n29 + 1)) fun (n36 : Int) =>
.done 3 [.int .i64 n36, .int .i64 n1, .bool b35])) (
.lt (.bool) (decide (n33 ≥ n34)) fun b37 =>
.call F.slices_pdqsortOrdered_string [data.v, .int .i64 (IntKind.wrap .i64 (n29 + 1)), .int .i64 n1, .int .i64 n7] (.tup []) (u0 <|
.lt (.int .i64) (n29) fun (n38 : Int) =>
.done 3 [.int .i64 n0, .int .i64 n38, .bool b37]))) (u3 fun (n39 : Int) (n40 : Int) b41 =>
.done 2 [.int .i64 n39, .int .i64 n40, .int .i64 n7, .bool b41, .bool b31]))))))))))) (u5 fun (n42 : Int) (n43 : Int) (n44 : Int) b45 b46 =>
.done 1 [.int .i64 n42, .int .i64 n43, .int .i64 n44, .bool b45, .bool b46]))
theorem slices_pdqsortOrdered_string_eq (data : Sl) (a : Int) (b : Int) (limit : Int) : decomp P 134 ⟨okFs, []⟩ { cnd := [(17732923532804131, [(3, .one (.int .i64))]), (9435509593702460817458, [(11, .one (.int .i64)), (12, .one (.int .i64))]), (36267774588438875241185348, []), (89202895723530762331527007246941588082942065, [(1, .one (.int .i64)), (2, .one (.int .i64)), (8, .one .bool)])], blk := [(1, [(1, .one (.int .i64)), (2, .one (.int .i64)), (3, .one (.int .i64)), (8, .one .bool), (9, .one .bool)])], reg := [(17, [(87, .one .bool)])], lps := [(0, [(1, .one (.int .i64)), (2, .one (.int .i64)), (3, .one (.int .i64)), (8, .one .bool), (9, .one .bool)])] } [] (bodyOf Go.Proofs.Try.f57) [.val (.slice data.a data.len data.cap), .val (.int .i64 a), .val (.int .i64 b), .val (.int .i64 limit)] = slices_pdqsortOrdered_string data a b limit := by kernel_rfl
theorem slices_pdqsortOrdered_string_calls (data : Sl) (a : Int) (b : Int) (limit : Int) {w : World} {R : List Value → World → Prop} (h : (slices_pdqsortOrdered_string data a b limit).wp P (fun _ => True) w fun e vs w' => e = 0 ∧ R vs w') :
    Calls P F.slices_pdqsortOrdered_string #[.slice data.a data.len data.cap, .int .i64 a, .int .i64 b, .int .i64 limit] w fun e w' => ∃ vs, e = .returned (pack vs) ∧ R vs w' :=
  decomp_sound (isFn_of Go.Proofs.Try.func57 (by kernel_rfl) (by kernel_rfl) (by kernel_rfl)) okFs_ok mix [.val (.slice data.a data.len data.cap), .val (.int .i64 a), .val (.int .i64 b), .val (.int .i64 limit)] (by rw [slices_pdqsortOrdered_string_eq]; exact h)

def math_bits_Len (x : Int) : Prog :=
.call F.math_bits_Len64 [.int .u64 x] (sI .i64) (u1 fun (n0 : Int) =>
.lt (.int .i64) (n0) fun (n1 : Int) =>
.done 0 [.int .i64 n1])
theorem math_bits_Len_eq (x : Int) : decomp P 8 ⟨okFs, []⟩ { cnd := [], blk := [], reg := [], lps := [] } [.tmp 2] (bodyOf Go.Proofs.Try.f58) [.val (.int .u64 x)] = math_bits_Len x := by kernel_rfl
theorem math_bits_Len_calls (x : Int) {w : World} {R : List Value → World → Prop} (h : (math_bits_Len x).wp P (fun _ => True) w fun e vs w' => e = 0 ∧ R vs w') :
    Calls P F.math_bits_Len #[.int .u64 x] w fun e w' => ∃ vs, e = .returned (pack vs) ∧ R vs w' :=
  decomp_sound (isFn_of Go.Proofs.Try.func58 (by kernel_rfl) (by kernel_rfl) (by kernel_rfl)) okFs_ok mix [.val (.int .u64 x)] (by rw [math_bits_Len_eq]; exact h)

def towpathref04_Disk_At (d : Option Addr) (name : ByteArray) : Prog :=
.ex [.adr] (c1 fun a0 => d = some a0) (u1 fun a1 =>
.read True (ld T.s_towpathref04_File (Addr.add a1 1)) sL (u1 fun l2 =>
.bind 1 [] (
.loop 2 [.one (.int .i64)] (0, ()) (u1 fun (n3 : Int) =>
.ite (decide (n3 < ((l2.len : Nat) : Int))) (
.lt (.int .i64) (n3) fun (n4 : Int) =>
.ex [.adr] (c1 fun a5 => d = some a5) (u1 fun a6 =>
.read True (ld T.s_towpathref04_File (Addr.add a6 1)) sL (u1 fun l7 =>
.ex [.adr] (c1 fun a8 => 0 ≤ n4 ∧ n4 < ((l7.len : Nat) : Int) ∧ l7.a = some a8) (u1 fun a9 =>
.read True (ld T.string (Addr.add (Addr.add a9 (Int.toNat n4 * 3)) 0)) sS (u1 fun s10 =>
.ite (ByteArray.toList s10 == ByteArray.toList name) (
.lt (.int .i64) (n4) fun (n11 : Int) =>
.done 0 [.int .i64 n11]) (
.done 2 [.int .i64 (IntKind.wrap .i64 (n3 + 1))])))))) (
.done 1 []))) (u0 <|
.done 0 [.int .i64 (-1)])))
theorem towpathref04_Disk_At_eq (d : Option Addr) (name : ByteArray) : decomp P 26 ⟨okFs, []⟩ { cnd := [], blk := [(0, [])], reg := [], lps := [(0, [(11, .one (.int .i64))])] } [.tmp 4] (bodyOf Go.Proofs.Try.f59) [.val (.pointer d), .val (.string name)] = towpathref04_Disk_At d name := by kernel_rfl
theorem towpathref04_Disk_At_calls (d : Option Addr) (name : ByteArray) {w : World} {R : List Value → World → Prop} (h : (towpathref04_Disk_At d name).wp P (fun _ => True) w fun e vs w' => e = 0 ∧ R vs w') :
    Calls P F.towpathref04_Disk_At #[.pointer d, .string name] w fun e w' => ∃ vs, e = .returned (pack vs) ∧ R vs w' :=
  decomp_sound (isFn_of Go.Proofs.Try.func59 (by kernel_rfl) (by kernel_rfl) (by kernel_rfl)) okFs_ok mix [.val (.pointer d), .val (.string name)] (by rw [towpathref04_Disk_At_eq]; exact h)

def towpathref04_Disk_with (d : Option Addr) (x_0 : ByteArray) (x_1 : ByteArray) (x_2 : Int) : Prog :=
.act (Instr.box T.towpathref04_File (.agg #[.string x_0, .string x_1, .int .i64 x_2])) sA (u1 fun a0 =>
.ex [.adr] (c1 fun a1 => d = some a1) (u1 fun a2 =>
.read True (ld T.s_towpathref04_File (Addr.add a2 1)) sL (u1 fun l3 =>
.bind 1 [.one .slc, .one .bool] (
.loop 2 [.one .slc, .one .bool, .one (.int .i64)] (⟨none, 0, 0⟩, (false, (0, ()))) (u3 fun l4 b5 (n6 : Int) =>
.ite (decide (n6 < ((l3.len : Nat) : Int))) (
.ex [.adr] (c1 fun a7 => 0 ≤ n6 ∧ n6 < ((l3.len : Nat) : Int) ∧ l3.a = some a7) (u1 fun a8 =>
.read True (ld T.towpathref04_File (Addr.add a8 (Int.toNat n6 * 3))) (sG [.str, .str, .int .i64]) (u3 fun s9 s10 (n11 : Int) =>
.act (new T.towpathref04_File) sA (u1 fun a12 =>
.actU (st T.towpathref04_File a12 (.agg #[.string s9, .string s10, .int .i64 n11])) <|
.read (not b5 = true) (ld T.string (Addr.add a12 0)) sS (u1 fun s13 =>
.read (not b5 = true) (ld T.string (Addr.add a0 0)) sS (u1 fun s14 =>
.bind 3 [.one .slc, .one .bool] (
.ite (not b5 && not (Op.bytesLess (ByteArray.toList s13) (ByteArray.toList s14) || ByteArray.toList s13 == ByteArray.toList s14)) (
.read True (ld T.towpathref04_File a0) (sG [.str, .str, .int .i64]) (u3 fun s15 s16 (n17 : Int) =>
.act (Instr.buildSlice T.s_towpathref04_File 1 #[(0, .agg #[.string s15, .string s16, .int .i64 n17])]) sL (u1 fun l18 =>
.act (app T.s_towpathref04_File T.s_towpathref04_File T.s_towpathref04_File l4.v l18.v) sL (u1 fun l19 =>
.done 3 [l19.v, .bool true])))) (
.done 3 [l4.v, .bool b5])) (u2 fun l20 b21 =>
.read True (ld T.towpathref04_File a12) (sG [.str, .str, .int .i64]) (u3 fun s22 s23 (n24 : Int) =>
.act (Instr.buildSlice T.s_towpathref04_File 1 #[(0, .agg #[.string s22, .string s23, .int .i64 n24])]) sL (u1 fun l25 =>
.act (app T.s_towpathref04_File T.s_towpathref04_File T.s_towpathref04_File l20.v l25.v) sL (u1 fun l26 =>
.done 2 [l26.v, .bool b21, .int .i64 (IntKind.wrap .i64 (n6 + 1))])))))))))) (
.done 1 [l4.v, .bool b5]))) (u2 fun l27 b28 =>
.bind 1 [.one .slc] (
.ite (not b28) (
.read True (ld T.towpathref04_File a0) (sG [.str, .str, .int .i64]) (u3 fun s29 s30 (n31 : Int) =>
.act (Instr.buildSlice T.s_towpathref04_File 1 #[(0, .agg #[.string s29, .string s30, .int .i64 n31])]) sL (u1 fun l32 =>
.act (app T.s_towpathref04_File T.s_towpathref04_File T.s_towpathref04_File l27.v l32.v) sL (u1 fun l33 =>
.done 1 [l33.v])))) (
.done 1 [l27.v])) (u1 fun l34 =>
.ex [.adr] (c1 fun a35 => d = some a35) (u1 fun a36 =>
.actU (st T.s_towpathref04_File (Addr.add a36 1) l34.v) <|
.done 0 []))))))
theorem towpathref04_Disk_with_eq (d : Option Addr) (x_0 : ByteArray) (x_1 : ByteArray) (x_2 : Int) : decomp P 45 ⟨okFs, []⟩ { cnd := [(4123168800793, [(4, .one .slc), (5, .one .bool)]), (8444249301385252, [(4, .one .slc)])], blk := [(0, [(4, .one .slc), (5, .one .bool)])], reg := [], lps := [(0, [(4, .one .slc), (5, .one .bool), (13, .one (.int .i64))])] } [] (bodyOf Go.Proofs.Try.f60) [.val (.pointer d), .val (.agg #[.string x_0, .string x_1, .int .i64 x_2])] = towpathref04_Disk_with d x_0 x_1 x_2 := by kernel_rfl
theorem towpathref04_Disk_with_calls (d : Option Addr) (x_0 : ByteArray) (x_1 : ByteArray) (x_2 : Int) {w : World} {R : List Value → World → Prop} (h : (towpathref04_Disk_with d x_0 x_1 x_2).wp P (fun _ => True) w fun e vs w' => e = 0 ∧ R vs w') :
    Calls P F.towpathref04_Disk_with #[.pointer d, .agg #[.string x_0, .string x_1, .int .i64 x_2]] w fun e w' => ∃ vs, e = .returned (pack vs) ∧ R vs w' :=
  decomp_sound (isFn_of Go.Proofs.Try.func60 (by kernel_rfl) (by kernel_rfl) (by kernel_rfl)) okFs_ok mix [.val (.pointer d), .val (.agg #[.string x_0, .string x_1, .int .i64 x_2])] (by rw [towpathref04_Disk_with_eq]; exact h)

def towpathref04_Disk_done (d : Option Addr) : Prog :=
.ex [.adr] (c1 fun a0 => d = some a0) (u1 fun a1 =>
.read True (ld T.int (Addr.add a1 2)) (sI .i64) (u1 fun (n2 : Int) =>
.bind 1 [] (
.ite (decide (n2 > 0)) (
.ex [.adr] (c1 fun a3 => d = some a3) (u1 fun a4 =>
.read True (ld T.int (Addr.add a4 2)) (sI .i64) (u1 fun (n5 : Int) =>
.ex [.adr] (c1 fun a6 => d = some a6) (u1 fun a7 =>
.actU (st T.int (Addr.add a7 2) (.int .i64 (IntKind.wrap .i64 (n5 - 1)))) <|
.ex [.adr] (c1 fun a8 => d = some a8) (u1 fun a9 =>
.read True (ld T.int (Addr.add a9 2)) (sI .i64) (u1 fun (n10 : Int) =>
.bind 2 [] (
.ite (n10 == 0) (
.ex [.adr] (c1 fun a11 => d = some a11) (u1 fun a12 =>
.actU (st T.bool (Addr.add a12 3) (.bool true)) <|
.done 2 [])) (
.done 2 [])) (u0 <|
.done 1 []))))))) (
.done 1 [])) (u0 <|
.done 0 [.int .i64 0])))
theorem towpathref04_Disk_done_eq (d : Option Addr) : decomp P 23 ⟨okFs, []⟩ { cnd := [(30064771091, []), (34358689799, [])], blk := [], reg := [], lps := [] } [.tmp 2] (bodyOf Go.Proofs.Try.f61) [.val (.pointer d)] = towpathref04_Disk_done d := by kernel_rfl
theorem towpathref04_Disk_done_calls (d : Option Addr) {w : World} {R : List Value → World → Prop} (h : (towpathref04_Disk_done d).wp P (fun _ => True) w fun e vs w' => e = 0 ∧ R vs w') :
    Calls P F.towpathref04_Disk_done #[.pointer d] w fun e w' => ∃ vs, e = .returned (pack vs) ∧ R vs w' :=
  decomp_sound (isFn_of Go.Proofs.Try.func61 (by kernel_rfl) (by kernel_rfl) (by kernel_rfl)) okFs_ok mix [.val (.pointer d)] (by rw [towpathref04_Disk_done_eq]; exact h)

def towpathref04_Disk_without (d : Option Addr) (name : ByteArray) : Prog :=
.ex [.adr] (c1 fun a0 => d = some a0) (u1 fun a1 =>
.read True (ld T.s_towpathref04_File (Addr.add a1 1)) sL (u1 fun l2 =>
.bind 1 [.one .slc] (
.loop 2 [.one .slc, .one (.int .i64)] (⟨none, 0, 0⟩, (0, ())) (u2 fun l3 (n4 : Int) =>
.ite (decide (n4 < ((l2.len : Nat) : Int))) (
.ex [.adr] (c1 fun a5 => 0 ≤ n4 ∧ n4 < ((l2.len : Nat) : Int) ∧ l2.a = some a5) (u1 fun a6 =>
.read True (ld T.towpathref04_File (Addr.add a6 (Int.toNat n4 * 3))) (sG [.str, .str, .int .i64]) (u3 fun s7 s8 (n9 : Int) =>
.act (new T.towpathref04_File) sA (u1 fun a10 =>
.actU (st T.towpathref04_File a10 (.agg #[.string s7, .string s8, .int .i64 n9])) <|
.read True (ld T.string (Addr.add a10 0)) sS (u1 fun s11 =>
.bind 3 [.one .slc] (
.ite (not (ByteArray.toList s11 == ByteArray.toList name)) (
.read True (ld T.towpathref04_File a10) (sG [.str, .str, .int .i64]) (u3 fun s12 s13 (n14 : Int) =>
.act (Instr.buildSlice T.s_towpathref04_File 1 #[(0, .agg #[.string s12, .string s13, .int .i64 n14])]) sL (u1 fun l15 =>
.act (app T.s_towpathref04_File T.s_towpathref04_File T.s_towpathref04_File l3.v l15.v) sL (u1 fun l16 =>
.done 3 [l16.v])))) (
.done 3 [l3.v])) (u1 fun l17 =>
.done 2 [l17.v, .int .i64 (IntKind.wrap .i64 (n4 + 1))])))))) (
.done 1 [l3.v]))) (u1 fun l18 =>
.ex [.adr] (c1 fun a19 => d = some a19) (u1 fun a20 =>
.actU (st T.s_towpathref04_File (Addr.add a20 1) l18.v) <|
.done 0 []))))
theorem towpathref04_Disk_without_eq (d : Option Addr) (name : ByteArray) : decomp P 29 ⟨okFs, []⟩ { cnd := [(64424574995, [(4, .one .slc)])], blk := [(0, [(4, .one .slc)])], reg := [], lps := [(0, [(4, .one .slc), (12, .one (.int .i64))])] } [] (bodyOf Go.Proofs.Try.f62) [.val (.pointer d), .val (.string name)] = towpathref04_Disk_without d name := by kernel_rfl
theorem towpathref04_Disk_without_calls (d : Option Addr) (name : ByteArray) {w : World} {R : List Value → World → Prop} (h : (towpathref04_Disk_without d name).wp P (fun _ => True) w fun e vs w' => e = 0 ∧ R vs w') :
    Calls P F.towpathref04_Disk_without #[.pointer d, .string name] w fun e w' => ∃ vs, e = .returned (pack vs) ∧ R vs w' :=
  decomp_sound (isFn_of Go.Proofs.Try.func62 (by kernel_rfl) (by kernel_rfl) (by kernel_rfl)) okFs_ok mix [.val (.pointer d), .val (.string name)] (by rw [towpathref04_Disk_without_eq]; exact h)

def slices_insertionSortOrdered_string (data : Sl) (a : Int) (b : Int) : Prog :=
.lt (.int .i64) (IntKind.wrap .i64 (a + 1)) fun (n0 : Int) =>
.bind 1 [] (
.loop 2 [.one (.int .i64)] (n0, ()) (u1 fun (n1 : Int) =>
.ite (decide (n1 < b)) (
.bind 3 [] (
.lt (.int .i64) (n1) fun (n2 : Int) =>
.bind 4 [] (
.loop 5 [.one (.int .i64)] (n2, ()) (u1 fun (n3 : Int) =>
.bind 6 [.one .bool] (
.tick <|
.ex [.adr] (c1 fun a4 => decide (n3 > a) = true → 0 ≤ n3 ∧ n3 < ((data.len : Nat) : Int) ∧ data.a = some a4) (u1 fun a5 =>
.read (decide (n3 > a) = true) (ld T.string (Addr.add a5 (Int.toNat n3 * 1))) sS (u1 fun s6 =>
.ex [.adr] (c1 fun a7 => decide (n3 > a) = true → 0 ≤ IntKind.wrap .i64 (n3 - 1) ∧ IntKind.wrap .i64 (n3 - 1) < ((data.len : Nat) : Int) ∧ data.a = some a7) (u1 fun a8 =>
.read (decide (n3 > a) = true) (ld T.string (Addr.add a8 (Int.toNat (IntKind.wrap .i64 (n3 - 1)) * 1))) sS (u1 fun s9 =>
.ite (decide (n3 > a)) (
.call F.cmp_Less_string [.string s6, .string s9] sB (u1 fun b10 =>
.untick <|
.done 6 [.bool b10])) (
.untick <|
.done 6 [.bool false])))))) (u1 fun b11 =>
.ite (b11) (
.bind 6 [] (
.tick <|
.ex [.adr] (c1 fun a12 => 0 ≤ IntKind.wrap .i64 (n3 - 1) ∧ IntKind.wrap .i64 (n3 - 1) < ((data.len : Nat) : Int) ∧ data.a = some a12) (u1 fun a13 =>
.read True (ld T.string (Addr.add a13 (Int.toNat (IntKind.wrap .i64 (n3 - 1)) * 1))) sS (u1 fun s14 =>
.ex [.adr] (c1 fun a15 => 0 ≤ n3 ∧ n3 < ((data.len : Nat) : Int) ∧ data.a = some a15) (u1 fun a16 =>
.read True (ld T.string (Addr.add a16 (Int.toNat n3 * 1))) sS (u1 fun s17 =>
.ex [.adr] (c1 fun a18 => 0 ≤ n3 ∧ n3 < ((data.len : Nat) : Int) ∧ data.a = some a18) (u1 fun a19 =>
.actU (st T.string (Addr.add a19 (Int.toNat n3 * 1)) (.string s14)) <|
.ex [.adr] (c1 fun a20 => 0 ≤ IntKind.wrap .i64 (n3 - 1) ∧ IntKind.wrap .i64 (n3 - 1) < ((data.len : Nat) : Int) ∧ data.a = some a20) (u1 fun a21 =>
.actU (st T.string (Addr.add a21 (Int.toNat (IntKind.wrap .i64 (n3 - 1)) * 1)) (.string s17)) <|
.untick <|
.done 6 []))))))) (u0 <|
.lt (.int .i64) (IntKind.wrap .i64 (n3 - 1)) fun (n22 : Int) =>
.done 5 [.int .i64 n22])) (
.done 4 [])))) (u0 <|
.done 3 [])) (u0 <|
.lt (.int .i64) (IntKind.wrap .i64 (n1 + 1)) fun (n23 : Int) =>
.done 2 [.int .i64 n23])) (
.done 1 []))) (u0 <|
.done 0 [])
theorem slices_insertionSortOrdered_string_eq (data : Sl) (a : Int) (b : Int) : decomp P 49 ⟨okFs, []⟩ { cnd := [], blk := [(0, []), (1, []), (2, [])], reg := [(4, [(30, .one .bool)]), (6, [])], lps := [(0, [(6, .one (.int .i64))]), (2, [(7, .one (.int .i64))])] } [] (bodyOf Go.Proofs.Try.f63) [.val (.slice data.a data.len data.cap), .val (.int .i64 a), .val (.int .i64 b)] = slices_insertionSortOrdered_string data a b := by kernel_rfl
theorem slices_insertionSortOrdered_string_calls (data : Sl) (a : Int) (b : Int) {w : World} {R : List Value → World → Prop} (h : (slices_insertionSortOrdered_string data a b).wp P (fun _ => True) w fun e vs w' => e = 0 ∧ R vs w') :
    Calls P F.slices_insertionSortOrdered_string #[.slice data.a data.len data.cap, .int .i64 a, .int .i64 b] w fun e w' => ∃ vs, e = .returned (pack vs) ∧ R vs w' :=
  decomp_sound (isFn_of Go.Proofs.Try.func63 (by kernel_rfl) (by kernel_rfl) (by kernel_rfl)) okFs_ok mix [.val (.slice data.a data.len data.cap), .val (.int .i64 a), .val (.int .i64 b)] (by rw [slices_insertionSortOrdered_string_eq]; exact h)

def slices_heapSortOrdered_string (data : Sl) (a : Int) (b : Int) : Prog :=
.lt (.int .i64) (a) fun (n0 : Int) =>
.lt (.int .i64) (IntKind.wrap .i64 (b - a)) fun (n1 : Int) =>
.lt (.int .i64) (IntKind.wrap .i64 (Int.tdiv (IntKind.wrap .i64 (n1 - 1)) 2)) fun (n2 : Int) =>
.bind 1 [] (
.loop 2 [.one (.int .i64)] (n2, ()) (u1 fun (n3 : Int) =>
.ite (decide (n3 ≥ 0)) (
.call F.slices_siftDownOrdered_string [data.v, .int .i64 n3, .int .i64 n1, .int .i64 n0] (.tup []) (u0 <|
.lt (.int .i64) (IntKind.wrap .i64 (n3 - 1)) fun (n4 : Int) =>
.done 2 [.int .i64 n4])) (
.done 1 []))) (u0 <|
.lt (.int .i64) (IntKind.wrap .i64 (n1 - 1)) fun (n5 : Int) =>
.bind 1 [] (
.loop 2 [.one (.int .i64)] (n5, ()) (u1 fun (n6 : Int) =>
.ite (decide (n6 ≥ 0)) (
.bind 3 [] (
.tick <|
.ex [.adr] (c1 fun a7 => 0 ≤ IntKind.wrap .i64 (n0 + n6) ∧ IntKind.wrap .i64 (n0 + n6) < ((data.len : Nat) : Int) ∧ data.a = some a7) (u1 fun a8 =>
.read True (ld T.string (Addr.add a8 (Int.toNat (IntKind.wrap .i64 (n0 + n6)) * 1))) sS (u1 fun s9 =>
.ex [.adr] (c1 fun a10 => 0 ≤ n0 ∧ n0 < ((data.len : Nat) : Int) ∧ data.a = some a10) (u1 fun a11 =>
.read True (ld T.string (Addr.add a11 (Int.toNat n0 * 1))) sS (u1 fun s12 =>
.ex [.adr] (c1 fun a13 => 0 ≤ n0 ∧ n0 < ((data.len : Nat) : Int) ∧ data.a = some a13) (u1 fun a14 =>
.actU (st T.string (Addr.add a14 (Int.toNat n0 * 1)) (.string s9)) <|
.ex [.adr] (c1 fun a15 => 0 ≤ IntKind.wrap .i64 (n0 + n6) ∧ IntKind.wrap .i64 (n0 + n6) < ((data.len : Nat) : Int) ∧ data.a = some a15) (u1 fun a16 =>
.actU (st T.string (Addr.add a16 (Int.toNat (IntKind.wrap .i64 (n0 + n6)) * 1)) (.string s12)) <|
.untick <|
.done 3 []))))))) (u0 <|
.call F.slices_siftDownOrdered_string [data.v, .int .i64 0, .int .i64 n6, .int .i64 n0] (.tup []) (u0 <|
.lt (.int .i64) (IntKind.wrap .i64 (n6 - 1)) fun (n17 : Int) =>
.done 2 [.int .i64 n17]))) (
.done 1 []))) (u0 <|
.done 0 []))
theorem slices_heapSortOrdered_string_eq (data : Sl) (a : Int) (b : Int) : decomp P 56 ⟨okFs, []⟩ { cnd := [], blk := [(0, []), (2, [])], reg := [(10, [])], lps := [(0, [(9, .one (.int .i64))]), (2, [(10, .one (.int .i64))])] } [] (bodyOf Go.Proofs.Try.f64) [.val (.slice data.a data.len data.cap), .val (.int .i64 a), .val (.int .i64 b)] = slices_heapSortOrdered_string data a b := by kernel_rfl
theorem slices_heapSortOrdered_string_calls (data : Sl) (a : Int) (b : Int) {w : World} {R : List Value → World → Prop} (h : (slices_heapSortOrdered_string data a b).wp P (fun _ => True) w fun e vs w' => e = 0 ∧ R vs w') :
    Calls P F.slices_heapSortOrdered_string #[.slice data.a data.len data.cap, .int .i64 a, .int .i64 b] w fun e w' => ∃ vs, e = .returned (pack vs) ∧ R vs w' :=
  decomp_sound (isFn_of Go.Proofs.Try.func64 (by kernel_rfl) (by kernel_rfl) (by kernel_rfl)) okFs_ok mix [.val (.slice data.a data.len data.cap), .val (.int .i64 a), .val (.int .i64 b)] (by rw [slices_heapSortOrdered_string_eq]; exact h)

def slices_breakPatternsOrdered_string (data : Sl) (a : Int) (b : Int) : Prog :=
.lt (.int .i64) (IntKind.wrap .i64 (b - a)) fun (n0 : Int) =>
.bind 1 [] (
.ite (decide (n0 ≥ 8)) (
.act (new T.slices_xorshift) sA (u1 fun a1 =>
.actU (st T.slices_xorshift a1 (.int .u64 (IntKind.wrap .u64 n0))) <|
.call F.slices_nextPowerOfTwo [.int .i64 n0] (sI .u64) (u1 fun (n2 : Int) =>
.lt (.int .u64) (n2) fun (n3 : Int) =>
.lt (.int .i64) (IntKind.wrap .i64 (IntKind.wrap .i64 (a + IntKind.wrap .i64 (IntKind.wrap .i64 (Int.tdiv n0 4) * 2)) - 1)) fun (n4 : Int) =>
.bind 2 [] (
.loop 3 [.one (.int .i64)] (n4, ()) (u1 fun (n5 : Int) =>
.ite (decide (n5 ≤ IntKind.wrap .i64 (IntKind.wrap .i64 (a + IntKind.wrap .i64 (IntKind.wrap .i64 (Int.tdiv n0 4) * 2)) + 1))) (
.call F.slices_xorshift_Next [.pointer (some a1)] (sI .u64) (u1 fun (n6 : Int) =>
.lt (.int .i64) (IntKind.wrap .i64 (IntKind.wrap .u64 (((BitVec.toNat (BitVec.ofInt 64 n6 &&& BitVec.ofInt 64 (IntKind.wrap .u64 (n3 - 1))) : Nat) : Int)))) fun (n7 : Int) =>
.bind 4 [.one (.int .i64)] (
.ite (decide (n7 ≥ n0)) (
.lt (.int .i64) (IntKind.wrap .i64 (n7 - n0)) fun (n8 : Int) =>
.done 4 [.int .i64 n8]) (
.done 4 [.int .i64 n7])) (u1 fun (n9 : Int) =>
.bind 4 [] (
.tick <|
.ex [.adr] (c1 fun a10 => 0 ≤ IntKind.wrap .i64 (a + n9) ∧ IntKind.wrap .i64 (a + n9) < ((data.len : Nat) : Int) ∧ data.a = some a10) (u1 fun a11 =>
.read True (ld T.string (Addr.add a11 (Int.toNat (IntKind.wrap .i64 (a + n9)) * 1))) sS (u1 fun s12 =>
.ex [.adr] (c1 fun a13 => 0 ≤ n5 ∧ n5 < ((data.len : Nat) : Int) ∧ data.a = some a13) (u1 fun a14 =>
.read True (ld T.string (Addr.add a14 (Int.toNat n5 * 1))) sS (u1 fun s15 =>
.ex [.adr] (c1 fun a16 => 0 ≤ n5 ∧ n5 < ((data.len : Nat) : Int) ∧ data.a = some a16) (u1 fun a17 =>
.actU (st T.string (Addr.add a17 (Int.toNat n5 * 1)) (.string s12)) <|
.ex [.adr] (c1 fun a18 => 0 ≤ IntKind.wrap .i64 (a + n9) ∧ IntKind.wrap .i64 (a + n9) < ((data.len : Nat) : Int) ∧ data.a = some a18) (u1 fun a19 =>
.actU (st T.string (Addr.add a19 (Int.toNat (IntKind.wrap .i64 (a + n9)) * 1)) (.string s15)) <|
.untick <|
.done 4 []))))))) (u0 <|
.lt (.int .i64) (IntKind.wrap .i64 (n5 + 1)) fun (n20 : Int) =>
.done 3 [.int .i64 n20])))) (
.done 2 []))) (u0 <|
.done 1 [])))) (
.done 1 [])) (u0 <|
.done 0 [])
theorem slices_breakPatternsOrdered_string_eq (data : Sl) (a : Int) (b : Int) : decomp P 65 ⟨okFs, []⟩ { cnd := [(504403158269689899, [(10, .one (.int .i64))]), (151115727451828386267151, [])], blk := [(0, [])], reg := [(10, [])], lps := [(0, [(9, .one (.int .i64))])] } [] (bodyOf Go.Proofs.Try.f65) [.val (.slice data.a data.len data.cap), .val (.int .i64 a), .val (.int .i64 b)] = slices_breakPatternsOrdered_string data a b := by kernel_rfl
theorem slices_breakPatternsOrdered_string_calls (data : Sl) (a : Int) (b : Int) {w : World} {R : List Value → World → Prop} (h : (slices_breakPatternsOrdered_string data a b).wp P (fun _ => True) w fun e vs w' => e = 0 ∧ R vs w') :
    Calls P F.slices_breakPatternsOrdered_string #[.slice data.a data.len data.cap, .int .i64 a, .int .i64 b] w fun e w' => ∃ vs, e = .returned (pack vs) ∧ R vs w' :=
  decomp_sound (isFn_of Go.Proofs.Try.func65 (by kernel_rfl) (by kernel_rfl) (by kernel_rfl)) okFs_ok mix [.val (.slice data.a data.len data.cap), .val (.int .i64 a), .val (.int .i64 b)] (by rw [slices_breakPatternsOrdered_string_eq]; exact h)

def slices_choosePivotOrdered_string (data : Sl) (a : Int) (b : Int) : Prog :=
.lt (.int .i64) (IntKind.wrap .i64 (b - a)) fun (n0 : Int) =>
.act (new T.int) sA (u1 fun a1 =>
.lt (.int .i64) (IntKind.wrap .i64 (a + IntKind.wrap .i64 (IntKind.wrap .i64 (Int.tdiv n0 4) * 1))) fun (n2 : Int) =>
.lt (.int .i64) (IntKind.wrap .i64 (a + IntKind.wrap .i64 (IntKind.wrap .i64 (Int.tdiv n0 4) * 2))) fun (n3 : Int) =>
.lt (.int .i64) (IntKind.wrap .i64 (a + IntKind.wrap .i64 (IntKind.wrap .i64 (Int.tdiv n0 4) * 3))) fun (n4 : Int) =>
.bind 1 [.one (.int .i64)] (
.ite (decide (n0 ≥ 8)) (
.bind 2 [.one (.int .i64), .one (.int .i64), .one (.int .i64)] (
.ite (decide (n0 ≥ 50)) (
.call F.slices_medianAdjacentOrdered_string [data.v, .int .i64 n2, .pointer (some a1)] (sI .i64) (u1 fun (n5 : Int) =>
.lt (.int .i64) (n5) fun (n6 : Int) =>
.call F.slices_medianAdjacentOrdered_string [data.v, .int .i64 n3, .pointer (some a1)] (sI .i64) (u1 fun (n7 : Int) =>
.lt (.int .i64) (n7) fun (n8 : Int) =>
.call F.slices_medianAdjacentOrdered_string [data.v, .int .i64 n4, .pointer (some a1)] (sI .i64) (u1 fun (n9 : Int) =>
.lt (.int .i64) (n9) fun (n10 : Int) =>
.done 2 [.int .i64 n6, .int .i64 n8, .int .i64 n10])))) (
.done 2 [.int .i64 n2, .int .i64 n3, .int .i64 n4])) (u3 fun (n11 : Int) (n12 : Int) (n13 : Int) =>
.call F.slices_medianOrdered_string [data.v, .int .i64 n11, .int .i64 n12, .int .i64 n13, .pointer (some a1)] (sI .i64) (u1 fun (n14 : Int) =>
.lt (.int .i64) (n14) fun (n15 : Int) =>
.done 1 [.int .i64 n15]))) (
.done 1 [.int .i64 n3])) (u1 fun (n16 : Int) =>
.read True (ld T.int a1) (sI .i64) (u1 fun (n17 : Int) =>
.lt (.bool) (n17 == 0) fun b18 =>
.ite (b18) (
.lt (.int .i64) (n16) fun (n19 : Int) =>
.done 0 [.int .i64 n19, .int .i64 1]) (
.lt (.bool) (n17 == 12) fun b20 =>
.ite (b20) (
.lt (.int .i64) (n16) fun (n21 : Int) =>
.done 0 [.int .i64 n21, .int .i64 2]) (
.lt (.int .i64) (n16) fun (n22 : Int) =>
.done 0 [.int .i64 n22, .int .i64 0])))))
theorem slices_choosePivotOrdered_string_eq (data : Sl) (a : Int) (b : Int) : decomp P 57 ⟨okFs, []⟩ { cnd := [(71916856578932770, [(10, .one (.int .i64)), (11, .one (.int .i64)), (12, .one (.int .i64))]), (2305807824870965280, [(11, .one (.int .i64))])], blk := [], reg := [], lps := [] } [.tmp 6, .tmp 7] (bodyOf Go.Proofs.Try.f66) [.val (.slice data.a data.len data.cap), .val (.int .i64 a), .val (.int .i64 b)] = slices_choosePivotOrdered_string data a b := by kernel_rfl
theorem slices_choosePivotOrdered_string_calls (data : Sl) (a : Int) (b : Int) {w : World} {R : List Value → World → Prop} (h : (slices_choosePivotOrdered_string data a b).wp P (fun _ => True) w fun e vs w' => e = 0 ∧ R vs w') :
    Calls P F.slices_choosePivotOrdered_string #[.slice data.a data.len data.cap, .int .i64 a, .int .i64 b] w fun e w' => ∃ vs, e = .returned (pack vs) ∧ R vs w' :=
  decomp_sound (isFn_of Go.Proofs.Try.func66 (by kernel_rfl) (by kernel_rfl) (by kernel_rfl)) okFs_ok mix [.val (.slice data.a data.len data.cap), .val (.int .i64 a), .val (.int .i64 b)] (by rw [slices_choosePivotOrdered_string_eq]; exact h)

def slices_reverseRangeOrdered_string (data : Sl) (a : Int) (b : Int) : Prog :=
.lt (.int .i64) (a) fun (n0 : Int) =>
.lt (.int .i64) (IntKind.wrap .i64 (b - 1)) fun (n1 : Int) =>
.bind 1 [] (
.loop 2 [.one (.int .i64), .one (.int .i64)] (n0, (n1, ())) (u2 fun (n2 : Int) (n3 : Int) =>
.ite (decide (n2 < n3)) (
.bind 3 [] (
.tick <|
.ex [.adr] (c1 fun a4 => 0 ≤ n3 ∧ n3 < ((data.len : Nat) : Int) ∧ data.a = some a4) (u1 fun a5 =>
.read True (ld T.string (Addr.add a5 (Int.toNat n3 * 1))) sS (u1 fun s6 =>
.ex [.adr] (c1 fun a7 => 0 ≤ n2 ∧ n2 < ((data.len : Nat) : Int) ∧ data.a = some a7) (u1 fun a8 =>
.read True (ld T.string (Addr.add a8 (Int.toNat n2 * 1))) sS (u1 fun s9 =>
.ex [.adr] (c1 fun a10 => 0 ≤ n2 ∧ n2 < ((data.len : Nat) : Int) ∧ data.a = some a10) (u1 fun a11 =>
.actU (st T.string (Addr.add a11 (Int.toNat n2 * 1)) (.string s6)) <|
.ex [.adr] (c1 fun a12 => 0 ≤ n3 ∧ n3 < ((data.len : Nat) : Int) ∧ data.a = some a12) (u1 fun a13 =>
.actU (st T.string (Addr.add a13 (Int.toNat n3 * 1)) (.string s9)) <|
.untick <|
.done 3 []))))))) (u0 <|
.lt (.int .i64) (IntKind.wrap .i64 (n2 + 1)) fun (n14 : Int) =>
.lt (.int .i64) (IntKind.wrap .i64 (n3 - 1)) fun (n15 : Int) =>
.done 2 [.int .i64 n14, .int .i64 n15])) (
.done 1 []))) (u0 <|
.done 0 [])
theorem slices_reverseRangeOrdered_string_eq (data : Sl) (a : Int) (b : Int) : decomp P 32 ⟨okFs, []⟩ { cnd := [], blk := [(0, [])], reg := [(3, [])], lps := [(0, [(6, .one (.int .i64)), (7, .one (.int .i64))])] } [] (bodyOf Go.Proofs.Try.f67) [.val (.slice data.a data.len data.cap), .val (.int .i64 a), .val (.int .i64 b)] = slices_reverseRangeOrdered_string data a b := by kernel_rfl
theorem slices_reverseRangeOrdered_string_calls (data : Sl) (a : Int) (b : Int) {w : World} {R : List Value → World → Prop} (h : (slices_reverseRangeOrdered_string data a b).wp P (fun _ => True) w fun e vs w' => e = 0 ∧ R vs w') :
    Calls P F.slices_reverseRangeOrdered_string #[.slice data.a data.len data.cap, .int .i64 a, .int .i64 b] w fun e w' => ∃ vs, e = .returned (pack vs) ∧ R vs w' :=
  decomp_sound (isFn_of Go.Proofs.Try.func67 (by kernel_rfl) (by kernel_rfl) (by kernel_rfl)) okFs_ok mix [.val (.slice data.a data.len data.cap), .val (.int .i64 a), .val (.int .i64 b)] (by rw [slices_reverseRangeOrdered_string_eq]; exact h)

def slices_partialInsertionSortOrdered_string (data : Sl) (a : Int) (b : Int) : Prog :=
.lt (.int .i64) (IntKind.wrap .i64 (a + 1)) fun (n0 : Int) =>
.bind 1 [] (
.loop 2 [.one (.int .i64), .one (.int .i64)] (n0, (0, ())) (u2 fun (n1 : Int) (n2 : Int) =>
.ite (decide (n2 < 5)) (
.bind 3 [.one (.int .i64)] (
.bind 4 [.one (.int .i64)] (
.loop 5 [.one (.int .i64)] (n1, ()) (u1 fun (n3 : Int) =>
.bind 6 [.one .bool] (
.tick <|
.ex [.adr] (c1 fun a4 => decide (n3 < b) = true → 0 ≤ n3 ∧ n3 < ((data.len : Nat) : Int) ∧ data.a = some a4) (u1 fun a5 =>
.read (decide (n3 < b) = true) (ld T.string (Addr.add a5 (Int.toNat n3 * 1))) sS (u1 fun s6 =>
.ex [.adr] (c1 fun a7 => decide (n3 < b) = true → 0 ≤ IntKind.wrap .i64 (n3 - 1) ∧ IntKind.wrap .i64 (n3 - 1) < ((data.len : Nat) : Int) ∧ data.a = some a7) (u1 fun a8 =>
.read (decide (n3 < b) = true) (ld T.string (Addr.add a8 (Int.toNat (IntKind.wrap .i64 (n3 - 1)) * 1))) sS (u1 fun s9 =>
.ite (decide (n3 < b)) (
.call F.cmp_Less_string [.string s6, .string s9] sB (u1 fun b10 =>
.untick <|
.done 6 [.bool (not b10)])) (
.untick <|
.done 6 [.bool false])))))) (u1 fun b11 =>
.ite (b11) (
.lt (.int .i64) (IntKind.wrap .i64 (n3 + 1)) fun (n12 : Int) =>
.done 5 [.int .i64 n12]) (
.done 4 [.int .i64 n3])))) (u1 fun (n13 : Int) =>
.ite (n13 == b) (
.done 0 [.bool true]) (
.ite (decide (IntKind.wrap .i64 (b - a) < 50)) (
.done 0 [.bool false]) (
.bind 4 [] (
.tick <|
.ex [.adr] (c1 fun a14 => 0 ≤ IntKind.wrap .i64 (n13 - 1) ∧ IntKind.wrap .i64 (n13 - 1) < ((data.len : Nat) : Int) ∧ data.a = some a14) (u1 fun a15 =>
.read True (ld T.string (Addr.add a15 (Int.toNat (IntKind.wrap .i64 (n13 - 1)) * 1))) sS (u1 fun s16 =>
.ex [.adr] (c1 fun a17 => 0 ≤ n13 ∧ n13 < ((data.len : Nat) : Int) ∧ data.a = some a17) (u1 fun a18 =>
.read True (ld T.string (Addr.add a18 (Int.toNat n13 * 1))) sS (u1 fun s19 =>
.ex [.adr] (c1 fun a20 => 0 ≤ n13 ∧ n13 < ((data.len : Nat) : Int) ∧ data.a = some a20) (u1 fun a21 =>
.actU (st T.string (Addr.add a21 (Int.toNat n13 * 1)) (.string s16)) <|
.ex [.adr] (c1 fun a22 => 0 ≤ IntKind.wrap .i64 (n13 - 1) ∧ IntKind.wrap .i64 (n13 - 1) < ((data.len : Nat) : Int) ∧ data.a = some a22) (u1 fun a23 =>
.actU (st T.string (Addr.add a23 (Int.toNat (IntKind.wrap .i64 (n13 - 1)) * 1)) (.string s19)) <|
.untick <|
.done 4 []))))))) (u0 <|
.bind 4 [] (
.ite (decide (IntKind.wrap .i64 (n13 - a) ≥ 2)) (
.lt (.int .i64) (IntKind.wrap .i64 (n13 - 1)) fun (n24 : Int) =>
.bind 5 [] (
.loop 6 [.one (.int .i64)] (n24, ()) (u1 fun (n25 : Int) =>
.ite (decide (n25 ≥ 1)) (
.tick <|
.ex [.adr] (c1 fun a26 => 0 ≤ n25 ∧ n25 < ((data.len : Nat) : Int) ∧ data.a = some a26) (u1 fun a27 =>
.read True (ld T.string (Addr.add a27 (Int.toNat n25 * 1))) sS (u1 fun s28 =>
.ex [.adr] (c1 fun a29 => 0 ≤ IntKind.wrap .i64 (n25 - 1) ∧ IntKind.wrap .i64 (n25 - 1) < ((data.len : Nat) : Int) ∧ data.a = some a29) (u1 fun a30 =>
.read True (ld T.string (Addr.add a30 (Int.toNat (IntKind.wrap .i64 (n25 - 1)) * 1))) sS (u1 fun s31 =>
.call F.cmp_Less_string [.string s28, .string s31] sB (u1 fun b32 =>
.untick <|
.ite (not b32) (
.done 5 []) (
.bind 7 [] (
.tick <|
.ex [.adr] (c1 fun a33 => 0 ≤ IntKind.wrap .i64 (n25 - 1) ∧ IntKind.wrap .i64 (n25 - 1) < ((data.len : Nat) : Int) ∧ data.a = some a33) (u1 fun a34 =>
.read True (ld T.string (Addr.add a34 (Int.toNat (IntKind.wrap .i64 (n25 - 1)) * 1))) sS (u1 fun s35 =>
.ex [.adr] (c1 fun a36 => 0 ≤ n25 ∧ n25 < ((data.len : Nat) : Int) ∧ data.a = some a36) (u1 fun a37 =>
.read True (ld T.string (Addr.add a37 (Int.toNat n25 * 1))) sS (u1 fun s38 =>
.ex [.adr] (c1 fun a39 => 0 ≤ n25 ∧ n25 < ((data.len : Nat) : Int) ∧ data.a = some a39) (u1 fun a40 =>
.actU (st T.string (Addr.add a40 (Int.toNat n25 * 1)) (.string s35)) <|
.ex [.adr] (c1 fun a41 => 0 ≤ IntKind.wrap .i64 (n25 - 1) ∧ IntKind.wrap .i64 (n25 - 1) < ((data.len : Nat) : Int) ∧ data.a = some a41) (u1 fun a42 =>
.actU (st T.string (Addr.add a42 (Int.toNat (IntKind.wrap .i64 (n25 - 1)) * 1)) (.string s38)) <|
.untick <|
.done 7 []))))))) (u0 <|
.lt (.int .i64) (IntKind.wrap .i64 (n25 - 1)) fun (n43 : Int) =>
.done 6 [.int .i64 n43])))))))) (
.done 5 []))) (u0 <|
.done 4 [])) (
.done 4 [])) (u0 <|
.bind 4 [] (
.ite (decide (IntKind.wrap .i64 (b - n13) ≥ 2)) (
.lt (.int .i64) (IntKind.wrap .i64 (n13 + 1)) fun (n44 : Int) =>
.bind 5 [] (
.loop 6 [.one (.int .i64)] (n44, ()) (u1 fun (n45 : Int) =>
.ite (decide (n45 < b)) (
.tick <|
.ex [.adr] (c1 fun a46 => 0 ≤ n45 ∧ n45 < ((data.len : Nat) : Int) ∧ data.a = some a46) (u1 fun a47 =>
.read True (ld T.string (Addr.add a47 (Int.toNat n45 * 1))) sS (u1 fun s48 =>
.ex [.adr] (c1 fun a49 => 0 ≤ IntKind.wrap .i64 (n45 - 1) ∧ IntKind.wrap .i64 (n45 - 1) < ((data.len : Nat) : Int) ∧ data.a = some a49) (u1 fun a50 =>
.read True (ld T.string (Addr.add a50 (Int.toNat (IntKind.wrap .i64 (n45 - 1)) * 1))) sS (u1 fun s51 =>
.call F.cmp_Less_string [.string s48, .string s51] sB (u1 fun b52 =>
.untick <|
.ite (not b52) (
.done 5 []) (
.bind 7 [] (
.tick <|
.ex [.adr] (c1 fun a53 => 0 ≤ IntKind.wrap .i64 (n45 - 1) ∧ IntKind.wrap .i64 (n45 - 1) < ((data.len : Nat) : Int) ∧ data.a = some a53) (u1 fun a54 =>
.read True (ld T.string (Addr.add a54 (Int.toNat (IntKind.wrap .i64 (n45 - 1)) * 1))) sS (u1 fun s55 =>
.ex [.adr] (c1 fun a56 => 0 ≤ n45 ∧ n45 < ((data.len : Nat) : Int) ∧ data.a = some a56) (u1 fun a57 =>
.read True (ld T.string (Addr.add a57 (Int.toNat n45 * 1))) sS (u1 fun s58 =>
.ex [.adr] (c1 fun a59 => 0 ≤ n45 ∧ n45 < ((data.len : Nat) : Int) ∧ data.a = some a59) (u1 fun a60 =>
.actU (st T.string (Addr.add a60 (Int.toNat n45 * 1)) (.string s55)) <|
.ex [.adr] (c1 fun a61 => 0 ≤ IntKind.wrap .i64 (n45 - 1) ∧ IntKind.wrap .i64 (n45 - 1) < ((data.len : Nat) : Int) ∧ data.a = some a61) (u1 fun a62 =>
.actU (st T.string (Addr.add a62 (Int.toNat (IntKind.wrap .i64 (n45 - 1)) * 1)) (.string s58)) <|
.untick <|
.done 7 []))))))) (u0 <|
.lt (.int .i64) (IntKind.wrap .i64 (n45 + 1)) fun (n63 : Int) =>
.done 6 [.int .i64 n63])))))))) (
.done 5 []))) (u0 <|
.done 4 [])) (
.done 4 [])) (u0 <|
.done 3 [.int .i64 n13]))))))) (u1 fun (n64 : Int) =>
.lt (.int .i64) (IntKind.wrap .i64 (n2 + 1)) fun (n65 : Int) =>
.done 2 [.int .i64 n64, .int .i64 n65])) (
.done 1 []))) (u0 <|
.done 0 [.bool false])
theorem slices_partialInsertionSortOrdered_string_eq (data : Sl) (a : Int) (b : Int) : decomp P 133 ⟨okFs, []⟩ { cnd := [(162259276810323897460099431530557, []), (44601490394465097853804022731031474851545186, [])], blk := [(0, []), (1, [(7, .one (.int .i64))]), (2, [(7, .one (.int .i64))]), (4, []), (6, [])], reg := [(5, [(32, .one .bool)]), (11, []), (17, []), (23, [])], lps := [(0, [(7, .one (.int .i64)), (8, .one (.int .i64))]), (2, [(7, .one (.int .i64))]), (4, [(9, .one (.int .i64))]), (6, [(10, .one (.int .i64))])] } [.tmp 6] (bodyOf Go.Proofs.Try.f68) [.val (.slice data.a data.len data.cap), .val (.int .i64 a), .val (.int .i64 b)] = slices_partialInsertionSortOrdered_string data a b := by kernel_rfl
theorem slices_partialInsertionSortOrdered_string_calls (data : Sl) (a : Int) (b : Int) {w : World} {R : List Value → World → Prop} (h : (slices_partialInsertionSortOrdered_string data a b).wp P (fun _ => True) w fun e vs w' => e = 0 ∧ R vs w') :
    Calls P F.slices_partialInsertionSortOrdered_string #[.slice data.a data.len data.cap, .int .i64 a, .int .i64 b] w fun e w' => ∃ vs, e = .returned (pack vs) ∧ R vs w' :=
  decomp_sound (isFn_of Go.Proofs.Try.func68 (by kernel_rfl) (by kernel_rfl) (by kernel_rfl)) okFs_ok mix [.val (.slice data.a data.len data.cap), .val (.int .i64 a), .val (.int .i64 b)] (by rw [slices_partialInsertionSortOrdered_string_eq]; exact h)

def cmp_Less_string (x : ByteArray) (y : ByteArray) : Prog :=
.bind 1 [.one .bool] (
.call F.cmp_isNaN_string [.string x] sB (u1 fun b0 =>
.ite (b0) (
.call F.cmp_isNaN_string [.string y] sB (u1 fun b1 =>
.lt (.bool) (not b1 || Op.bytesLess (ByteArray.toList x) (ByteArray.toList y)) fun b2 =>
.done 1 [.bool b2])) (
.lt (.bool) (Op.bytesLess (ByteArray.toList x) (ByteArray.toList y)) fun b3 =>
.done 1 [.bool b3]))) (u1 fun b4 =>
.done 0 [.bool b4])
theorem cmp_Less_string_eq (x : ByteArray) (y : ByteArray) : decomp P 17 ⟨okFs, []⟩ { cnd := [], blk := [], reg := [(1, [(4, .one .bool)])], lps := [] } [.tmp 4] (bodyOf Go.Proofs.Try.f69) [.val (.string x), .val (.string y)] = cmp_Less_string x y := by kernel_rfl
theorem cmp_Less_string_calls (x : ByteArray) (y : ByteArray) {w : World} {R : List Value → World → Prop} (h : (cmp_Less_string x y).wp P (fun _ => True) w fun e vs w' => e = 0 ∧ R vs w') :
    Calls P F.cmp_Less_string #[.string x, .string y] w fun e w' => ∃ vs, e = .returned (pack vs) ∧ R vs w' :=
  decomp_sound (isFn_of Go.Proofs.Try.func69 (by kernel_rfl) (by kernel_rfl) (by kernel_rfl)) okFs_ok mix [.val (.string x), .val (.string y)] (by rw [cmp_Less_string_eq]; exact h)

def slices_partitionEqualOrdered_string (data : Sl) (a : Int) (b : Int) (pivot : Int) : Prog :=
.bind 1 [] (
.tick <|
.ex [.adr] (c1 fun a0 => 0 ≤ pivot ∧ pivot < ((data.len : Nat) : Int) ∧ data.a = some a0) (u1 fun a1 =>
.read True (ld T.string (Addr.add a1 (Int.toNat pivot * 1))) sS (u1 fun s2 =>
.ex [.adr] (c1 fun a3 => 0 ≤ a ∧ a < ((data.len : Nat) : Int) ∧ data.a = some a3) (u1 fun a4 =>
.read True (ld T.string (Addr.add a4 (Int.toNat a * 1))) sS (u1 fun s5 =>
.ex [.adr] (c1 fun a6 => 0 ≤ a ∧ a < ((data.len : Nat) : Int) ∧ data.a = some a6) (u1 fun a7 =>
.actU (st T.string (Addr.add a7 (Int.toNat a * 1)) (.string s2)) <|
.ex [.adr] (c1 fun a8 => 0 ≤ pivot ∧ pivot < ((data.len : Nat) : Int) ∧ data.a = some a8) (u1 fun a9 =>
.actU (st T.string (Addr.add a9 (Int.toNat pivot * 1)) (.string s5)) <|
.untick <|
.done 1 []))))))) (u0 <|
.lt (.int .i64) (IntKind.wrap .i64 (a + 1)) fun (n10 : Int) =>
.lt (.int .i64) (IntKind.wrap .i64 (b - 1)) fun (n11 : Int) =>
.bind 1 [.one (.int .i64)] (
.loop 2 [.one (.int .i64), .one (.int .i64)] (n10, (n11, ())) (u2 fun (n12 : Int) (n13 : Int) =>
.bind 3 [.one (.int .i64), .one (.int .i64)] (
.bind 4 [.one (.int .i64)] (
.loop 5 [.one (.int .i64)] (n12, ()) (u1 fun (n14 : Int) =>
.bind 6 [.one .bool] (
.tick <|
.ex [.adr] (c1 fun a15 => decide (n14 ≤ n13) = true → 0 ≤ a ∧ a < ((data.len : Nat) : Int) ∧ data.a = some a15) (u1 fun a16 =>
.read (decide (n14 ≤ n13) = true) (ld T.string (Addr.add a16 (Int.toNat a * 1))) sS (u1 fun s17 =>
.ex [.adr] (c1 fun a18 => decide (n14 ≤ n13) = true → 0 ≤ n14 ∧ n14 < ((data.len : Nat) : Int) ∧ data.a = some a18) (u1 fun a19 =>
.read (decide (n14 ≤ n13) = true) (ld T.string (Addr.add a19 (Int.toNat n14 * 1))) sS (u1 fun s20 =>
.ite (decide (n14 ≤ n13)) (
.call F.cmp_Less_string [.string s17, .string s20] sB (u1 fun b21 =>
.untick <|
.done 6 [.bool (not b21)])) (
.untick <|
.done 6 [.bool false])))))) (u1 fun b22 =>
.ite (b22) (
.lt (.int .i64) (IntKind.wrap .i64 (n14 + 1)) fun (n23 : Int) =>
.done 5 [.int .i64 n23]) (
.done 4 [.int .i64 n14])))) (u1 fun (n24 : Int) =>
.bind 4 [.one (.int .i64)] (
.loop 5 [.one (.int .i64)] (n13, ()) (u1 fun (n25 : Int) =>
.bind 6 [.one .bool] (
.tick <|
.ex [.adr] (c1 fun a26 => decide (n24 ≤ n25) = true → 0 ≤ a ∧ a < ((data.len : Nat) : Int) ∧ data.a = some a26) (u1 fun a27 =>
.read (decide (n24 ≤ n25) = true) (ld T.string (Addr.add a27 (Int.toNat a * 1))) sS (u1 fun s28 =>
.ex [.adr] (c1 fun a29 => decide (n24 ≤ n25) = true → 0 ≤ n25 ∧ n25 < ((data.len : Nat) : Int) ∧ data.a = some a29) (u1 fun a30 =>
.read (decide (n24 ≤ n25) = true) (ld T.string (Addr.add a30 (Int.toNat n25 * 1))) sS (u1 fun s31 =>
.ite (decide (n24 ≤ n25)) (
.call F.cmp_Less_string [.string s28, .string s31] sB (u1 fun b32 =>
.untick <|
.done 6 [.bool b32])) (
.untick <|
.done 6 [.bool false])))))) (u1 fun b33 =>
.ite (b33) (
.lt (.int .i64) (IntKind.wrap .i64 (n25 - 1)) fun (n34 : Int) =>
.done 5 [.int .i64 n34]) (
.done 4 [.int .i64 n25])))) (u1 fun (n35 : Int) =>
.ite (decide (n24 > n35)) (
.done 1 [.int .i64 n24]) (
.bind 4 [] (
.tick <|
.ex [.adr] (c1 fun a36 => 0 ≤ n35 ∧ n35 < ((data.len : Nat) : Int) ∧ data.a = some a36) (u1 fun a37 =>
.read True (ld T.string (Addr.add a37 (Int.toNat n35 * 1))) sS (u1 fun s38 =>
.ex [.adr] (c1 fun a39 => 0 ≤ n24 ∧ n24 < ((data.len : Nat) : Int) ∧ data.a = some a39) (u1 fun a40 =>
.read True (ld T.string (Addr.add a40 (Int.toNat n24 * 1))) sS (u1 fun s41 =>
.ex [.adr] (c1 fun a42 => 0 ≤ n24 ∧ n24 < ((data.len : Nat) : Int) ∧ data.a = some a42) (u1 fun a43 =>
.actU (st T.string (Addr.add a43 (Int.toNat n24 * 1)) (.string s38)) <|
.ex [.adr] (c1 fun a44 => 0 ≤ n35 ∧ n35 < ((data.len : Nat) : Int) ∧ data.a = some a44) (u1 fun a45 =>
.actU (st T.string (Addr.add a45 (Int.toNat n35 * 1)) (.string s41)) <|
.untick <|
.done 4 []))))))) (u0 <|
.lt (.int .i64) (IntKind.wrap .i64 (n24 + 1)) fun (n46 : Int) =>
.lt (.int .i64) (IntKind.wrap .i64 (n35 - 1)) fun (n47 : Int) =>
.done 3 [.int .i64 n46, .int .i64 n47]))))) (u2 fun (n48 : Int) (n49 : Int) =>
.done 2 [.int .i64 n48, .int .i64 n49]))) (u1 fun (n50 : Int) =>
.lt (.int .i64) (n50) fun (n51 : Int) =>
.done 0 [.int .i64 n51]))
theorem slices_partitionEqualOrdered_string_eq (data : Sl) (a : Int) (b : Int) (pivot : Int) : decomp P 84 ⟨okFs, []⟩ { cnd := [], blk := [(0, [(9, .one (.int .i64))]), (1, [(9, .one (.int .i64)), (10, .one (.int .i64))]), (2, [(9, .one (.int .i64))]), (4, [(10, .one (.int .i64))])], reg := [(1, []), (3, [(43, .one .bool)]), (5, [(59, .one .bool)]), (8, [])], lps := [(0, [(9, .one (.int .i64)), (10, .one (.int .i64))]), (2, [(9, .one (.int .i64))]), (4, [(10, .one (.int .i64))])] } [.tmp 8] (bodyOf Go.Proofs.Try.f70) [.val (.slice data.a data.len data.cap), .val (.int .i64 a), .val (.int .i64 b), .val (.int .i64 pivot)] = slices_partitionEqualOrdered_string data a b pivot := by kernel_rfl
theorem slices_partitionEqualOrdered_string_calls (data : Sl) (a : Int) (b : Int) (pivot : Int) {w : World} {R : List Value → World → Prop} (h : (slices_partitionEqualOrdered_string data a b pivot).wp P (fun _ => True) w fun e vs w' => e = 0 ∧ R vs w') :
    Calls P F.slices_partitionEqualOrdered_string #[.slice data.a data.len data.cap, .int .i64 a, .int .i64 b, .int .i64 pivot] w fun e w' => ∃ vs, e = .returned (pack vs) ∧ R vs w' :=
  decomp_sound (isFn_of Go.Proofs.Try.func70 (by kernel_rfl) (by kernel_rfl) (by kernel_rfl)) okFs_ok mix [.val (.slice data.a data.len data.cap), .val (.int .i64 a), .val (.int .i64 b), .val (.int .i64 pivot)] (by rw [slices_partitionEqualOrdered_string_eq]; exact h)

def slices_partitionOrdered_string (data : Sl) (a : Int) (b : Int) (pivot : Int) : Prog :=
.bind 1 [] (
.tick <|
.ex [.adr] (c1 fun a0 => 0 ≤ pivot ∧ pivot < ((data.len : Nat) : Int) ∧ data.a = some a0) (u1 fun a1 =>
.read True (ld T.string (Addr.add a1 (Int.toNat pivot * 1))) sS (u1 fun s2 =>
.ex [.adr] (c1 fun a3 => 0 ≤ a ∧ a < ((data.len : Nat) : Int) ∧ data.a = some a3) (u1 fun a4 =>
.read True (ld T.string (Addr.add a4 (Int.toNat a * 1))) sS (u1 fun s5 =>
.ex [.adr] (c1 fun a6 => 0 ≤ a ∧ a < ((data.len : Nat) : Int) ∧ data.a = some a6) (u1 fun a7 =>
.actU (st T.string (Addr.add a7 (Int.toNat a * 1)) (.string s2)) <|
.ex [.adr] (c1 fun a8 => 0 ≤ pivot ∧ pivot < ((data.len : Nat) : Int) ∧ data.a = some a8) (u1 fun a9 =>
.actU (st T.string (Addr.add a9 (Int.toNat pivot * 1)) (.string s5)) <|
.untick <|
.done 1 []))))))) (u0 <|
.lt (.int .i64) (IntKind.wrap .i64 (a + 1)) fun (n10 : Int) =>
.lt (.int .i64) (IntKind.wrap .i64 (b - 1)) fun (n11 : Int) =>
.bind 1 [.one (.int .i64)] (
.loop 2 [.one (.int .i64)] (n10, ()) (u1 fun (n12 : Int) =>
.bind 3 [.one .bool] (
.tick <|
.ex [.adr] (c1 fun a13 => decide (n12 ≤ n11) = true → 0 ≤ n12 ∧ n12 < ((data.len : Nat) : Int) ∧ data.a = some a13) (u1 fun a14 =>
.read (decide (n12 ≤ n11) = true) (ld T.string (Addr.add a14 (Int.toNat n12 * 1))) sS (u1 fun s15 =>
.ex [.adr] (c1 fun a16 => decide (n12 ≤ n11) = true → 0 ≤ a ∧ a < ((data.len : Nat) : Int) ∧ data.a = some a16) (u1 fun a17 =>
.read (decide (n12 ≤ n11) = true) (ld T.string (Addr.add a17 (Int.toNat a * 1))) sS (u1 fun s18 =>
.ite (decide (n12 ≤ n11)) (
.call F.cmp_Less_string [.string s15, .string s18] sB (u1 fun b19 =>
.untick <|
.done 3 [.bool b19])) (
.untick <|
.done 3 [.bool false])))))) (u1 fun b20 =>
.ite (b20) (
.lt (.int .i64) (IntKind.wrap .i64 (n12 + 1)) fun (n21 : Int) =>
.done 2 [.int .i64 n21]) (
.done 1 [.int .i64 n12])))) (u1 fun (n22 : Int) =>
.bind 1 [.one (.int .i64)] (
.loop 2 [.one (.int .i64)] (n11, ()) (u1 fun (n23 : Int) =>
.bind 3 [.one .bool] (
.tick <|
.ex [.adr] (c1 fun a24 => decide (n22 ≤ n23) = true → 0 ≤ n23 ∧ n23 < ((data.len : Nat) : Int) ∧ data.a = some a24) (u1 fun a25 =>
.read (decide (n22 ≤ n23) = true) (ld T.string (Addr.add a25 (Int.toNat n23 * 1))) sS (u1 fun s26 =>
.ex [.adr] (c1 fun a27 => decide (n22 ≤ n23) = true → 0 ≤ a ∧ a < ((data.len : Nat) : Int) ∧ data.a = some a27) (u1 fun a28 =>
.read (decide (n22 ≤ n23) = true) (ld T.string (Addr.add a28 (Int.toNat a * 1))) sS (u1 fun s29 =>
.ite (decide (n22 ≤ n23)) (
.call F.cmp_Less_string [.string s26, .string s29] sB (u1 fun b30 =>
.untick <|
.done 3 [.bool (not b30)])) (
.untick <|
.done 3 [.bool false])))))) (u1 fun b31 =>
.ite (b31) (
.lt (.int .i64) (IntKind.wrap .i64 (n23 - 1)) fun (n32 : Int) =>
.done 2 [.int .i64 n32]) (
.done 1 [.int .i64 n23])))) (u1 fun (n33 : Int) =>
.ite (decide (n22 > n33)) (
.bind 1 [] (
.tick <|
.ex [.adr] (c1 fun a34 => 0 ≤ a ∧ a < ((data.len : Nat) : Int) ∧ data.a = some a34) (u1 fun a35 =>
.read True (ld T.string (Addr.add a35 (Int.toNat a * 1))) sS (u1 fun s36 =>
.ex [.adr] (c1 fun a37 => 0 ≤ n33 ∧ n33 < ((data.len : Nat) : Int) ∧ data.a = some a37) (u1 fun a38 =>
.read True (ld T.string (Addr.add a38 (Int.toNat n33 * 1))) sS (u1 fun s39 =>
.ex [.adr] (c1 fun a40 => 0 ≤ n33 ∧ n33 < ((data.len : Nat) : Int) ∧ data.a = some a40) (u1 fun a41 =>
.actU (st T.string (Addr.add a41 (Int.toNat n33 * 1)) (.string s36)) <|
.ex [.adr] (c1 fun a42 => 0 ≤ a ∧ a < ((data.len : Nat) : Int) ∧ data.a = some a42) (u1 fun a43 =>
.actU (st T.string (Addr.add a43 (Int.toNat a * 1)) (.string s39)) <|
.untick <|
.done 1 []))))))) (u0 <|
.lt (.int .i64) (n33) fun (n44 : Int) =>
.done 0 [.int .i64 n44, .bool true])) (
.bind 1 [] (
.tick <|
.ex [.adr] (c1 fun a45 => 0 ≤ n33 ∧ n33 < ((data.len : Nat) : Int) ∧ data.a = some a45) (u1 fun a46 =>
.read True (ld T.string (Addr.add a46 (Int.toNat n33 * 1))) sS (u1 fun s47 =>
.ex [.adr] (c1 fun a48 => 0 ≤ n22 ∧ n22 < ((data.len : Nat) : Int) ∧ data.a = some a48) (u1 fun a49 =>
.read True (ld T.string (Addr.add a49 (Int.toNat n22 * 1))) sS (u1 fun s50 =>
.ex [.adr] (c1 fun a51 => 0 ≤ n22 ∧ n22 < ((data.len : Nat) : Int) ∧ data.a = some a51) (u1 fun a52 =>
.actU (st T.string (Addr.add a52 (Int.toNat n22 * 1)) (.string s47)) <|
.ex [.adr] (c1 fun a53 => 0 ≤ n33 ∧ n33 < ((data.len : Nat) : Int) ∧ data.a = some a53) (u1 fun a54 =>
.actU (st T.string (Addr.add a54 (Int.toNat n33 * 1)) (.string s50)) <|
.untick <|
.done 1 []))))))) (u0 <|
.lt (.int .i64) (IntKind.wrap .i64 (n22 + 1)) fun (n55 : Int) =>
.lt (.int .i64) (IntKind.wrap .i64 (n33 - 1)) fun (n56 : Int) =>
.bind 1 [.one (.int .i64)] (
.loop 2 [.one (.int .i64), .one (.int .i64)] (n55, (n56, ())) (u2 fun (n57 : Int) (n58 : Int) =>
.bind 3 [.one (.int .i64), .one (.int .i64)] (
.bind 4 [.one (.int .i64)] (
.loop 5 [.one (.int .i64)] (n57, ()) (u1 fun (n59 : Int) =>
.bind 6 [.one .bool] (
.tick <|
.ex [.adr] (c1 fun a60 => decide (n59 ≤ n58) = true → 0 ≤ n59 ∧ n59 < ((data.len : Nat) : Int) ∧ data.a = some a60) (u1 fun a61 =>
.read (decide (n59 ≤ n58) = true) (ld T.string (Addr.add a61 (Int.toNat n59 * 1))) sS (u1 fun s62 =>
.ex [.adr] (c1 fun a63 => decide (n59 ≤ n58) = true → 0 ≤ a ∧ a < ((data.len : Nat) : Int) ∧ data.a = some a63) (u1 fun a64 =>
.read (decide (n59 ≤ n58) = true) (ld T.string (Addr.add a64 (Int.toNat a * 1))) sS (u1 fun s65 =>
.ite (decide (n59 ≤ n58)) (
.call F.cmp_Less_string [.string s62, .string s65] sB (u1 fun b66 =>
.untick <|
.done 6 [.bool b66])) (
.untick <|
.done 6 [.bool false])))))) (u1 fun b67 =>
.ite (b67) (
.lt (.int .i64) (IntKind.wrap .i64 (n59 + 1)) fun (n68 : Int) =>
.done 5 [.int .i64 n68]) (
.done 4 [.int .i64 n59])))) (u1 fun (n69 : Int) =>
.bind 4 [.one (.int .i64)] (
.loop 5 [.one (.int .i64)] (n58, ()) (u1 fun (n70 : Int) =>
.bind 6 [.one .bool] (
.tick <|
.ex [.adr] (c1 fun a71 => decide (n69 ≤ n70) = true → 0 ≤ n70 ∧ n70 < ((data.len : Nat) : Int) ∧ data.a = some a71) (u1 fun a72 =>
.read (decide (n69 ≤ n70) = true) (ld T.string (Addr.add a72 (Int.toNat n70 * 1))) sS (u1 fun s73 =>
.ex [.adr] (c1 fun a74 => decide (n69 ≤ n70) = true → 0 ≤ a ∧ a < ((data.len : Nat) : Int) ∧ data.a = some a74) (u1 fun a75 =>
.read (decide (n69 ≤ n70) = true) (ld T.string (Addr.add a75 (Int.toNat a * 1))) sS (u1 fun s76 =>
.ite (decide (n69 ≤ n70)) (
.call F.cmp_Less_string [.string s73, .string s76] sB (u1 fun b77 =>
.untick <|
.done 6 [.bool (not b77)])) (
.untick <|
.done 6 [.bool false])))))) (u1 fun b78 =>
.ite (b78) (
.lt (.int .i64) (IntKind.wrap .i64 (n70 - 1)) fun (n79 : Int) =>
.done 5 [.int .i64 n79]) (
.done 4 [.int .i64 n70])))) (u1 fun (n80 : Int) =>
.ite (decide (n69 > n80)) (
.done 1 [.int .i64 n80]) (
.bind 4 [] (
.tick <|
.ex [.adr] (c1 fun a81 => 0 ≤ n80 ∧ n80 < ((data.len : Nat) : Int) ∧ data.a = some a81) (u1 fun a82 =>
.read True (ld T.string (Addr.add a82 (Int.toNat n80 * 1))) sS (u1 fun s83 =>
.ex [.adr] (c1 fun a84 => 0 ≤ n69 ∧ n69 < ((data.len : Nat) : Int) ∧ data.a = some a84) (u1 fun a85 =>
.read True (ld T.string (Addr.add a85 (Int.toNat n69 * 1))) sS (u1 fun s86 =>
.ex [.adr] (c1 fun a87 => 0 ≤ n69 ∧ n69 < ((data.len : Nat) : Int) ∧ data.a = some a87) (u1 fun a88 =>
.actU (st T.string (Addr.add a88 (Int.toNat n69 * 1)) (.string s83)) <|
.ex [.adr] (c1 fun a89 => 0 ≤ n80 ∧ n80 < ((data.len : Nat) : Int) ∧ data.a = some a89) (u1 fun a90 =>
.actU (st T.string (Addr.add a90 (Int.toNat n80 * 1)) (.string s86)) <|
.untick <|
.done 4 []))))))) (u0 <|
.lt (.int .i64) (IntKind.wrap .i64 (n69 + 1)) fun (n91 : Int) =>
.lt (.int .i64) (IntKind.wrap .i64 (n80 - 1)) fun (n92 : Int) =>
.done 3 [.int .i64 n91, .int .i64 n92]))))) (u2 fun (n93 : Int) (n94 : Int) =>
.done 2 [.int .i64 n93, .int .i64 n94]))) (u1 fun (n95 : Int) =>
.bind 1 [] (
.tick <|
.ex [.adr] (c1 fun a96 => 0 ≤ a ∧ a < ((data.len : Nat) : Int) ∧ data.a = some a96) (u1 fun a97 =>
.read True (ld T.string (Addr.add a97 (Int.toNat a * 1))) sS (u1 fun s98 =>
.ex [.adr] (c1 fun a99 => 0 ≤ n95 ∧ n95 < ((data.len : Nat) : Int) ∧ data.a = some a99) (u1 fun a100 =>
.read True (ld T.string (Addr.add a100 (Int.toNat n95 * 1))) sS (u1 fun s101 =>
.ex [.adr] (c1 fun a102 => 0 ≤ n95 ∧ n95 < ((data.len : Nat) : Int) ∧ data.a = some a102) (u1 fun a103 =>
.actU (st T.string (Addr.add a103 (Int.toNat n95 * 1)) (.string s98)) <|
.ex [.adr] (c1 fun a104 => 0 ≤ a ∧ a < ((data.len : Nat) : Int) ∧ data.a = some a104) (u1 fun a105 =>
.actU (st T.string (Addr.add a105 (Int.toNat a * 1)) (.string s101)) <|
.untick <|
.done 1 []))))))) (u0 <|
.lt (.int .i64) (n95) fun (n106 : Int) =>
.done 0 [.int .i64 n106, .bool false])))))))
theorem slices_partitionOrdered_string_eq (data : Sl) (a : Int) (b : Int) (pivot : Int) : decomp P 168 ⟨okFs, []⟩ { cnd := [], blk := [(0, [(10, .one (.int .i64))]), (2, [(11, .one (.int .i64))]), (4, [(11, .one (.int .i64))]), (5, [(10, .one (.int .i64)), (11, .one (.int .i64))]), (6, [(10, .one (.int .i64))]), (8, [(11, .one (.int .i64))])], reg := [(1, []), (3, [(43, .one .bool)]), (5, [(60, .one .bool)]), (8, []), (10, []), (13, [(112, .one .bool)]), (15, [(129, .one .bool)]), (18, []), (21, [])], lps := [(0, [(10, .one (.int .i64))]), (2, [(11, .one (.int .i64))]), (4, [(10, .one (.int .i64)), (11, .one (.int .i64))]), (6, [(10, .one (.int .i64))]), (8, [(11, .one (.int .i64))])] } [.tmp 8, .tmp 9] (bodyOf Go.Proofs.Try.f71) [.val (.slice data.a data.len data.cap), .val (.int .i64 a), .val (.int .i64 b), .val (.int .i64 pivot)] = slices_partitionOrdered_string data a b pivot := by kernel_rfl
theorem slices_partitionOrdered_string_calls (data : Sl) (a : Int) (b : Int) (pivot : Int) {w : World} {R : List Value → World → Prop} (h : (slices_partitionOrdered_string data a b pivot).wp P (fun _ => True) w fun e vs w' => e = 0 ∧ R vs w') :
    Calls P F.slices_partitionOrdered_string #[.slice data.a data.len data.cap, .int .i64 a, .int .i64 b, .int .i64 pivot] w fun e w' => ∃ vs, e = .returned (pack vs) ∧ R vs w' :=
  decomp_sound (isFn_of Go.Proofs.Try.func71 (by kernel_rfl) (by kernel_rfl) (by kernel_rfl)) okFs_ok mix [.val (.slice data.a data.len data.cap), .val (.int .i64 a), .val (.int .i64 b), .val (.int .i64 pivot)] (by rw [slices_partitionOrdered_string_eq]; exact h)

def math_bits_Len32 (x : Int) : Prog :=
.bind 1 [.one (.int .u32), .one (.int .i64)] (
.ite (decide (x ≥ 65536)) (
.lt (.int .u32) (Int.fdiv x 65536) fun (n0 : Int) =>
.done 1 [.int .u32 n0, .int .i64 16]) (
.done 1 [.int .u32 x, .int .i64 0])) (u2 fun (n1 : Int) (n2 : Int) =>
.bind 1 [.one (.int .u32), .one (.int .i64)] (
.ite (decide (n1 ≥ 256)) (
.lt (.int .u32) (Int.fdiv n1 256) fun (n3 : Int) =>
.lt (.int .i64) (IntKind.wrap .i64 (n2 + 8)) fun (n4 : Int) =>
.done 1 [.int .u32 n3, .int .i64 n4]) (
.done 1 [.int .u32 n1, .int .i64 n2])) (u2 fun (n5 : Int) (n6 : Int) =>
.must (0 ≤ IntKind.wrap .u8 n5 ∧ IntKind.wrap .u8 n5 < 256) <|
.lt (.int .i64) (IntKind.wrap .i64 (n6 + IntKind.wrap .i64 (bt (ByteArray.mk #[0, 1, 2, 2, 3, 3, 3, 3, 4, 4, 4, 4, 4, 4, 4, 4, 5, 5, 5, 5, 5, 5, 5, 5, 5, 5, 5, 5, 5, 5, 5, 5, 6, 6, 6, 6, 6, 6, 6, 6, 6, 6, 6, 6, 6, 6, 6, 6, 6, 6, 6, 6, 6, 6, 6, 6, 6, 6, 6, 6, 6, 6, 6, 6, 7, 7, 7, 7, 7, 7, 7, 7, 7, 7, 7, 7, 7, 7, 7, 7, 7, 7, 7, 7, 7, 7, 7, 7, 7, 7, 7, 7, 7, 7, 7, 7, 7, 7, 7, 7, 7, 7, 7, 7, 7, 7, 7, 7, 7, 7, 7, 7, 7, 7, 7, 7, 7, 7, 7, 7, 7, 7, 7, 7, 7, 7, 7, 7, 8, 8, 8, 8, 8, 8, 8, 8, 8, 8, 8, 8, 8, 8, 8, 8, 8, 8, 8, 8, 8, 8, 8, 8, 8, 8, 8, 8, 8, 8, 8, 8, 8, 8, 8, 8, 8, 8, 8, 8, 8, 8, 8, 8, 8, 8, 8, 8, 8, 8, 8, 8, 8, 8, 8, 8, 8, 8, 8, 8, 8, 8, 8, 8, 8, 8, 8, 8, 8, 8, 8, 8, 8, 8, 8, 8, 8, 8, 8, 8, 8, 8, 8, 8, 8, 8, 8, 8, 8, 8, 8, 8, 8, 8, 8, 8, 8, 8, 8, 8, 8, 8, 8, 8, 8, 8, 8, 8, 8, 8, 8, 8, 8, 8, 8, 8, 8, 8, 8, 8, 8, 8, 8, 8, 8, 8, 8, 8]) (IntKind.wrap .u8 n5)))) fun (n7 : Int) =>
.done 0 [.int .i64 n7]))
theorem math_bits_Len32_eq (x : Int) : decomp P 19 ⟨okFs, []⟩ { cnd := [(413700, [(0, .one (.int .u32)), (2, .one (.int .i64))]), (31477768, [(0, .one (.int .u32)), (2, .one (.int .i64))])], blk := [], reg := [], lps := [] } [.tmp 2] (bodyOf Go.Proofs.Try.f72) [.val (.int .u32 x)] = math_bits_Len32 x := by kernel_rfl
theorem math_bits_Len32_calls (x : Int) {w : World} {R : List Value → World → Prop} (h : (math_bits_Len32 x).wp P (fun _ => True) w fun e vs w' => e = 0 ∧ R vs w') :
    Calls P F.math_bits_Len32 #[.int .u32 x] w fun e w' => ∃ vs, e = .returned (pack vs) ∧ R vs w' :=
  decomp_sound (isFn_of Go.Proofs.Try.func72 (by kernel_rfl) (by kernel_rfl) (by kernel_rfl)) okFs_ok mix [.val (.int .u32 x)] (by rw [math_bits_Len32_eq]; exact h)

def math_bits_Len64 (x : Int) : Prog :=
.bind 1 [.one (.int .u64), .one (.int .i64)] (
.ite (decide (x ≥ 4294967296)) (
.lt (.int .u64) (Int.fdiv x 4294967296) fun (n0 : Int) =>
.done 1 [.int .u64 n0, .int .i64 32]) (
.done 1 [.int .u64 x, .int .i64 0])) (u2 fun (n1 : Int) (n2 : Int) =>
.bind 1 [.one (.int .u64), .one (.int .i64)] (
.ite (decide (n1 ≥ 65536)) (
.lt (.int .u64) (Int.fdiv n1 65536) fun (n3 : Int) =>
.lt (.int .i64) (IntKind.wrap .i64 (n2 + 16)) fun (n4 : Int) =>
.done 1 [.int .u64 n3, .int .i64 n4]) (
.done 1 [.int .u64 n1, .int .i64 n2])) (u2 fun (n5 : Int) (n6 : Int) =>
.bind 1 [.one (.int .u64), .one (.int .i64)] (
.ite (decide (n5 ≥ 256)) (
.lt (.int .u64) (Int.fdiv n5 256) fun (n7 : Int) =>
.lt (.int .i64) (IntKind.wrap .i64 (n6 + 8)) fun (n8 : Int) =>
.done 1 [.int .u64 n7, .int .i64 n8]) (
.done 1 [.int .u64 n5, .int .i64 n6])) (u2 fun (n9 : Int) (n10 : Int) =>
.must (0 ≤ IntKind.wrap .u8 n9 ∧ IntKind.wrap .u8 n9 < 256) <|
.lt (.int .i64) (IntKind.wrap .i64 (n10 + IntKind.wrap .i64 (bt (ByteArray.mk #[0, 1, 2, 2, 3, 3, 3, 3, 4, 4, 4, 4, 4, 4, 4, 4, 5, 5, 5, 5, 5, 5, 5, 5, 5, 5, 5, 5, 5, 5, 5, 5, 6, 6, 6, 6, 6, 6, 6, 6, 6, 6, 6, 6, 6, 6, 6, 6, 6, 6, 6, 6, 6, 6, 6, 6, 6, 6, 6, 6, 6, 6, 6, 6, 7, 7, 7, 7, 7, 7, 7, 7, 7, 7, 7, 7, 7, 7, 7, 7, 7, 7, 7, 7, 7, 7, 7, 7, 7, 7, 7, 7, 7, 7, 7, 7, 7, 7, 7, 7, 7, 7, 7, 7, 7, 7, 7, 7, 7, 7, 7, 7, 7, 7, 7, 7, 7, 7, 7, 7, 7, 7, 7, 7, 7, 7, 7, 7, 8, 8, 8, 8, 8, 8, 8, 8, 8, 8, 8, 8, 8, 8, 8, 8, 8, 8, 8, 8, 8, 8, 8, 8, 8, 8, 8, 8, 8, 8, 8, 8, 8, 8, 8, 8, 8, 8, 8, 8, 8, 8, 8, 8, 8, 8, 8, 8, 8, 8, 8, 8, 8, 8, 8, 8, 8, 8, 8, 8, 8, 8, 8, 8, 8, 8, 8, 8, 8, 8, 8, 8, 8, 8, 8, 8, 8, 8, 8, 8, 8, 8, 8, 8, 8, 8, 8, 8, 8, 8, 8, 8, 8, 8, 8, 8, 8, 8, 8, 8, 8, 8, 8, 8, 8, 8, 8, 8, 8, 8, 8, 8, 8, 8, 8, 8, 8, 8, 8, 8, 8, 8, 8, 8, 8, 8, 8, 8]) (IntKind.wrap .u8 n9)))) fun (n11 : Int) =>
.done 0 [.int .i64 n11])))
theorem math_bits_Len64_eq (x : Int) : decomp P 25 ⟨okFs, []⟩ { cnd := [(413700, [(0, .one (.int .u64)), (2, .one (.int .i64))]), (31477768, [(0, .one (.int .u64)), (2, .one (.int .i64))]), (2013286414, [(0, .one (.int .u64)), (2, .one (.int .i64))])], blk := [], reg := [], lps := [] } [.tmp 2] (bodyOf Go.Proofs.Try.f73) [.val (.int .u64 x)] = math_bits_Len64 x := by kernel_rfl
theorem math_bits_Len64_calls (x : Int) {w : World} {R : List Value → World → Prop} (h : (math_bits_Len64 x).wp P (fun _ => True) w fun e vs w' => e = 0 ∧ R vs w') :
    Calls P F.math_bits_Len64 #[.int .u64 x] w fun e w' => ∃ vs, e = .returned (pack vs) ∧ R vs w' :=
  decomp_sound (isFn_of Go.Proofs.Try.func73 (by kernel_rfl) (by kernel_rfl) (by kernel_rfl)) okFs_ok mix [.val (.int .u64 x)] (by rw [math_bits_Len64_eq]; exact h)

def slices_siftDownOrdered_string (data : Sl) (lo : Int) (hi : Int) (first : Int) : Prog :=
.lt (.int .i64) (lo) fun (n0 : Int) =>
.bind 1 [] (
.loop 2 [.one (.int .i64)] (n0, ()) (u1 fun (n1 : Int) =>
.lt (.int .i64) (IntKind.wrap .i64 (IntKind.wrap .i64 (2 * n1) + 1)) fun (n2 : Int) =>
.ite (decide (n2 ≥ hi)) (
.done 1 []) (
.bind 3 [.one .bool] (
.tick <|
.ex [.adr] (c1 fun a3 => decide (IntKind.wrap .i64 (n2 + 1) < hi) = true → 0 ≤ IntKind.wrap .i64 (first + n2) ∧ IntKind.wrap .i64 (first + n2) < ((data.len : Nat) : Int) ∧ data.a = some a3) (u1 fun a4 =>
.read (decide (IntKind.wrap .i64 (n2 + 1) < hi) = true) (ld T.string (Addr.add a4 (Int.toNat (IntKind.wrap .i64 (first + n2)) * 1))) sS (u1 fun s5 =>
.ex [.adr] (c1 fun a6 => decide (IntKind.wrap .i64 (n2 + 1) < hi) = true → 0 ≤ IntKind.wrap .i64 (IntKind.wrap .i64 (first + n2) + 1) ∧ IntKind.wrap .i64 (IntKind.wrap .i64 (first + n2) + 1) < ((data.len : Nat) : Int) ∧ data.a = some a6) (u1 fun a7 =>
.read (decide (IntKind.wrap .i64 (n2 + 1) < hi) = true) (ld T.string (Addr.add a7 (Int.toNat (IntKind.wrap .i64 (IntKind.wrap .i64 (first + n2) + 1)) * 1))) sS (u1 fun s8 =>
.ite (decide (IntKind.wrap .i64 (n2 + 1) < hi)) (
.call F.cmp_Less_string [.string s5, .string s8] sB (u1 fun b9 =>
.untick <|
.done 3 [.bool b9])) (
.untick <|
.done 3 [.bool false])))))) (u1 fun b10 =>
.bind 3 [.one (.int .i64)] (
.ite (b10) (
.lt (.int .i64) (IntKind.wrap .i64 (n2 + 1)) fun (n11 : Int) =>
.done 3 [.int .i64 n11]) (
.done 3 [.int .i64 n2])) (u1 fun (n12 : Int) =>
.tick <|
.ex [.adr] (c1 fun a13 => 0 ≤ IntKind.wrap .i64 (first + n1) ∧ IntKind.wrap .i64 (first + n1) < ((data.len : Nat) : Int) ∧ data.a = some a13) (u1 fun a14 =>
.read True (ld T.string (Addr.add a14 (Int.toNat (IntKind.wrap .i64 (first + n1)) * 1))) sS (u1 fun s15 =>
.ex [.adr] (c1 fun a16 => 0 ≤ IntKind.wrap .i64 (first + n12) ∧ IntKind.wrap .i64 (first + n12) < ((data.len : Nat) : Int) ∧ data.a = some a16) (u1 fun a17 =>
.read True (ld T.string (Addr.add a17 (Int.toNat (IntKind.wrap .i64 (first + n12)) * 1))) sS (u1 fun s18 =>
.call F.cmp_Less_string [.string s15, .string s18] sB (u1 fun b19 =>
.untick <|
.ite (not b19) (
.done 0 []) (
.bind 3 [] (
.tick <|
.ex [.adr] (c1 fun a20 => 0 ≤ IntKind.wrap .i64 (first + n12) ∧ IntKind.wrap .i64 (first + n12) < ((data.len : Nat) : Int) ∧ data.a = some a20) (u1 fun a21 =>
.read True (ld T.string (Addr.add a21 (Int.toNat (IntKind.wrap .i64 (first + n12)) * 1))) sS (u1 fun s22 =>
.ex [.adr] (c1 fun a23 => 0 ≤ IntKind.wrap .i64 (first + n1) ∧ IntKind.wrap .i64 (first + n1) < ((data.len : Nat) : Int) ∧ data.a = some a23) (u1 fun a24 =>
.read True (ld T.string (Addr.add a24 (Int.toNat (IntKind.wrap .i64 (first + n1)) * 1))) sS (u1 fun s25 =>
.ex [.adr] (c1 fun a26 => 0 ≤ IntKind.wrap .i64 (first + n1) ∧ IntKind.wrap .i64 (first + n1) < ((data.len : Nat) : Int) ∧ data.a = some a26) (u1 fun a27 =>
.actU (st T.string (Addr.add a27 (Int.toNat (IntKind.wrap .i64 (first + n1)) * 1)) (.string s22)) <|
.ex [.adr] (c1 fun a28 => 0 ≤ IntKind.wrap .i64 (first + n12) ∧ IntKind.wrap .i64 (first + n12) < ((data.len : Nat) : Int) ∧ data.a = some a28) (u1 fun a29 =>
.actU (st T.string (Addr.add a29 (Int.toNat (IntKind.wrap .i64 (first + n12)) * 1)) (.string s25)) <|
.untick <|
.done 3 []))))))) (u0 <|
.lt (.int .i64) (n12) fun (n30 : Int) =>
.done 2 [.int .i64 n30])))))))))))) (u0 <|
.done 0 [])
theorem slices_siftDownOrdered_string_eq (data : Sl) (lo : Int) (hi : Int) (first : Int) : decomp P 76 ⟨okFs, []⟩ { cnd := [(1688849862361124, [(9, .one (.int .i64))])], blk := [(0, [])], reg := [(3, [(36, .one .bool)]), (6, [])], lps := [(0, [(8, .one (.int .i64))])] } [] (bodyOf Go.Proofs.Try.f74) [.val (.slice data.a data.len data.cap), .val (.int .i64 lo), .val (.int .i64 hi), .val (.int .i64 first)] = slices_siftDownOrdered_string data lo hi first := by kernel_rfl
theorem slices_siftDownOrdered_string_calls (data : Sl) (lo : Int) (hi : Int) (first : Int) {w : World} {R : List Value → World → Prop} (h : (slices_siftDownOrdered_string data lo hi first).wp P (fun _ => True) w fun e vs w' => e = 0 ∧ R vs w') :
    Calls P F.slices_siftDownOrdered_string #[.slice data.a data.len data.cap, .int .i64 lo, .int .i64 hi, .int .i64 first] w fun e w' => ∃ vs, e = .returned (pack vs) ∧ R vs w' :=
  decomp_sound (isFn_of Go.Proofs.Try.func74 (by kernel_rfl) (by kernel_rfl) (by kernel_rfl)) okFs_ok mix [.val (.slice data.a data.len data.cap), .val (.int .i64 lo), .val (.int .i64 hi), .val (.int .i64 first)] (by rw [slices_siftDownOrdered_string_eq]; exact h)

def slices_nextPowerOfTwo (length : Int) : Prog :=
.call F.math_bits_Len [.int .u64 (IntKind.wrap .u64 length)] (sI .i64) (u1 fun (n0 : Int) =>
.must (0 ≤ n0) <|
.lt (.int .u64) (IntKind.wrap .u64 (1 * 2 ^ min (Int.toNat n0) 64)) fun (n1 : Int) =>
.done 0 [.int .u64 n1])
theorem slices_nextPowerOfTwo_eq (length : Int) : decomp P 7 ⟨okFs, []⟩ { cnd := [], blk := [], reg := [], lps := [] } [.tmp 2] (bodyOf Go.Proofs.Try.f75) [.val (.int .i64 length)] = slices_nextPowerOfTwo length := by kernel_rfl
theorem slices_nextPowerOfTwo_calls (length : Int) {w : World} {R : List Value → World → Prop} (h : (slices_nextPowerOfTwo length).wp P (fun _ => True) w fun e vs w' => e = 0 ∧ R vs w') :
    Calls P F.slices_nextPowerOfTwo #[.int .i64 length] w fun e w' => ∃ vs, e = .returned (pack vs) ∧ R vs w' :=
  decomp_sound (isFn_of Go.Proofs.Try.func75 (by kernel_rfl) (by kernel_rfl) (by kernel_rfl)) okFs_ok mix [.val (.int .i64 length)] (by rw [slices_nextPowerOfTwo_eq]; exact h)

def slices_xorshift_Next (r : Option Addr) : Prog :=
.tick <|
.ex [.adr] (c1 fun a0 => r = some a0) (u1 fun a1 =>
.read True (ld T.slices_xorshift a1) (sI .u64) (u1 fun (n2 : Int) =>
.ex [.adr] (c1 fun a3 => r = some a3) (u1 fun a4 =>
.read True (ld T.slices_xorshift a4) (sI .u64) (u1 fun (n5 : Int) =>
.ex [.adr] (c1 fun a6 => r = some a6) (u1 fun a7 =>
.actU (st T.slices_xorshift a7 (.int .u64 (IntKind.wrap .u64 (((BitVec.toNat (BitVec.ofInt 64 n2 ^^^ BitVec.ofInt 64 (IntKind.wrap .u64 (n5 * 8192))) : Nat) : Int))))) <|
.untick <|
.tick <|
.ex [.adr] (c1 fun a8 => r = some a8) (u1 fun a9 =>
.read True (ld T.slices_xorshift a9) (sI .u64) (u1 fun (n10 : Int) =>
.ex [.adr] (c1 fun a11 => r = some a11) (u1 fun a12 =>
.read True (ld T.slices_xorshift a12) (sI .u64) (u1 fun (n13 : Int) =>
.ex [.adr] (c1 fun a14 => r = some a14) (u1 fun a15 =>
.actU (st T.slices_xorshift a15 (.int .u64 (IntKind.wrap .u64 (((BitVec.toNat (BitVec.ofInt 64 n10 ^^^ BitVec.ofInt 64 (Int.fdiv n13 128)) : Nat) : Int))))) <|
.untick <|
.tick <|
.ex [.adr] (c1 fun a16 => r = some a16) (u1 fun a17 =>
.read True (ld T.slices_xorshift a17) (sI .u64) (u1 fun (n18 : Int) =>
.ex [.adr] (c1 fun a19 => r = some a19) (u1 fun a20 =>
.read True (ld T.slices_xorshift a20) (sI .u64) (u1 fun (n21 : Int) =>
.ex [.adr] (c1 fun a22 => r = some a22) (u1 fun a23 =>
.actU (st T.slices_xorshift a23 (.int .u64 (IntKind.wrap .u64 (((BitVec.toNat (BitVec.ofInt 64 n18 ^^^ BitVec.ofInt 64 (IntKind.wrap .u64 (n21 * 131072))) : Nat) : Int))))) <|
.untick <|
.ex [.adr] (c1 fun a24 => r = some a24) (u1 fun a25 =>
.read True (ld T.slices_xorshift a25) (sI .u64) (u1 fun (n26 : Int) =>
.lt (.int .u64) (n26) fun (n27 : Int) =>
.done 0 [.int .u64 n27])))))))))))))))))
theorem slices_xorshift_Next_eq (r : Option Addr) : decomp P 33 ⟨okFs, []⟩ { cnd := [], blk := [], reg := [], lps := [] } [.tmp 2] (bodyOf Go.Proofs.Try.f76) [.val (.pointer r)] = slices_xorshift_Next r := by kernel_rfl
theorem slices_xorshift_Next_calls (r : Option Addr) {w : World} {R : List Value → World → Prop} (h : (slices_xorshift_Next r).wp P (fun _ => True) w fun e vs w' => e = 0 ∧ R vs w') :
    Calls P F.slices_xorshift_Next #[.pointer r] w fun e w' => ∃ vs, e = .returned (pack vs) ∧ R vs w' :=
  decomp_sound (isFn_of Go.Proofs.Try.func76 (by kernel_rfl) (by kernel_rfl) (by kernel_rfl)) okFs_ok mix [.val (.pointer r)] (by rw [slices_xorshift_Next_eq]; exact h)

def slices_medianAdjacentOrdered_string (data : Sl) (a : Int) (swaps : Option Addr) : Prog :=
.call F.slices_medianOrdered_string [data.v, .int .i64 (IntKind.wrap .i64 (a - 1)), .int .i64 a, .int .i64 (IntKind.wrap .i64 (a + 1)), .pointer swaps] (sI .i64) (u1 fun (n0 : Int) =>
.lt (.int .i64) (n0) fun (n1 : Int) =>
.done 0 [.int .i64 n1])
theorem slices_medianAdjacentOrdered_string_eq (data : Sl) (a : Int) (swaps : Option Addr) : decomp P 15 ⟨okFs, []⟩ { cnd := [], blk := [], reg := [], lps := [] } [.tmp 6] (bodyOf Go.Proofs.Try.f77) [.val (.slice data.a data.len data.cap), .val (.int .i64 a), .val (.pointer swaps)] = slices_medianAdjacentOrdered_string data a swaps := by kernel_rfl
theorem slices_medianAdjacentOrdered_string_calls (data : Sl) (a : Int) (swaps : Option Addr) {w : World} {R : List Value → World → Prop} (h : (slices_medianAdjacentOrdered_string data a swaps).wp P (fun _ => True) w fun e vs w' => e = 0 ∧ R vs w') :
    Calls P F.slices_medianAdjacentOrdered_string #[.slice data.a data.len data.cap, .int .i64 a, .pointer swaps] w fun e w' => ∃ vs, e = .returned (pack vs) ∧ R vs w' :=
  decomp_sound (isFn_of Go.Proofs.Try.func77 (by kernel_rfl) (by kernel_rfl) (by kernel_rfl)) okFs_ok mix [.val (.slice data.a data.len data.cap), .val (.int .i64 a), .val (.pointer swaps)] (by rw [slices_medianAdjacentOrdered_string_eq]; exact h)

def slices_medianOrdered_string (data : Sl) (a : Int) (b : Int) (c : Int) (swaps : Option Addr) : Prog :=
.call F.slices_order2Ordered_string [data.v, .int .i64 a, .int .i64 b, .pointer swaps] (.tup [.one (.int .i64), .one (.int .i64)]) (u2 fun (n0 : Int) (n1 : Int) =>
.lt (.int .i64) (n0) fun (n2 : Int) =>
.lt (.int .i64) (n1) fun (n3 : Int) =>
.call F.slices_order2Ordered_string [data.v, .int .i64 n3, .int .i64 c, .pointer swaps] (.tup [.one (.int .i64), .one (.int .i64)]) (u2 fun (n4 : Int) (n5 : Int) =>
.lt (.int .i64) (n4) fun (n6 : Int) =>
.lt (.int .i64) (n5) fun (n7 : Int) =>
.call F.slices_order2Ordered_string [data.v, .int .i64 n2, .int .i64 n6, .pointer swaps] (.tup [.one (.int .i64), .one (.int .i64)]) (u2 fun (n8 : Int) (n9 : Int) =>
.lt (.int .i64) (n8) fun (n10 : Int) =>
.lt (.int .i64) (n9) fun (n11 : Int) =>
.lt (.int .i64) (n11) fun (n12 : Int) =>
.done 0 [.int .i64 n12])))
theorem slices_medianOrdered_string_eq (data : Sl) (a : Int) (b : Int) (c : Int) (swaps : Option Addr) : decomp P 36 ⟨okFs, []⟩ { cnd := [], blk := [], reg := [], lps := [] } [.tmp 10] (bodyOf Go.Proofs.Try.f78) [.val (.slice data.a data.len data.cap), .val (.int .i64 a), .val (.int .i64 b), .val (.int .i64 c), .val (.pointer swaps)] = slices_medianOrdered_string data a b c swaps := by kernel_rfl
theorem slices_medianOrdered_string_calls (data : Sl) (a : Int) (b : Int) (c : Int) (swaps : Option Addr) {w : World} {R : List Value → World → Prop} (h : (slices_medianOrdered_string data a b c swaps).wp P (fun _ => True) w fun e vs w' => e = 0 ∧ R vs w') :
    Calls P F.slices_medianOrdered_string #[.slice data.a data.len data.cap, .int .i64 a, .int .i64 b, .int .i64 c, .pointer swaps] w fun e w' => ∃ vs, e = .returned (pack vs) ∧ R vs w' :=
  decomp_sound (isFn_of Go.Proofs.Try.func78 (by kernel_rfl) (by kernel_rfl) (by kernel_rfl)) okFs_ok mix [.val (.slice data.a data.len data.cap), .val (.int .i64 a), .val (.int .i64 b), .val (.int .i64 c), .val (.pointer swaps)] (by rw [slices_medianOrdered_string_eq]; exact h)

def cmp_isNaN_string (x : ByteArray) : Prog :=
.lt (.bool) (not (ByteArray.toList x == ByteArray.toList x)) fun b0 =>
.done 0 [.bool b0]
theorem cmp_isNaN_string_eq (x : ByteArray) : decomp P 6 ⟨okFs, []⟩ { cnd := [], blk := [], reg := [], lps := [] } [.tmp 2] (bodyOf Go.Proofs.Try.f79) [.val (.string x)] = cmp_isNaN_string x := by kernel_rfl
theorem cmp_isNaN_string_calls (x : ByteArray) {w : World} {R : List Value → World → Prop} (h : (cmp_isNaN_string x).wp P (fun _ => True) w fun e vs w' => e = 0 ∧ R vs w') :
    Calls P F.cmp_isNaN_string #[.string x] w fun e w' => ∃ vs, e = .returned (pack vs) ∧ R vs w' :=
  decomp_sound (isFn_of Go.Proofs.Try.func79 (by kernel_rfl) (by kernel_rfl) (by kernel_rfl)) okFs_ok mix [.val (.string x)] (by rw [cmp_isNaN_string_eq]; exact h)

def slices_order2Ordered_string (data : Sl) (a : Int) (b : Int) (swaps : Option Addr) : Prog :=
.tick <|
.ex [.adr] (c1 fun a0 => 0 ≤ b ∧ b < ((data.len : Nat) : Int) ∧ data.a = some a0) (u1 fun a1 =>
.read True (ld T.string (Addr.add a1 (Int.toNat b * 1))) sS (u1 fun s2 =>
.ex [.adr] (c1 fun a3 => 0 ≤ a ∧ a < ((data.len : Nat) : Int) ∧ data.a = some a3) (u1 fun a4 =>
.read True (ld T.string (Addr.add a4 (Int.toNat a * 1))) sS (u1 fun s5 =>
.call F.cmp_Less_string [.string s2, .string s5] sB (u1 fun b6 =>
.untick <|
.ite (b6) (
.ex [.adr] (c1 fun a7 => swaps = some a7) (u1 fun a8 =>
.read True (ld T.int a8) (sI .i64) (u1 fun (n9 : Int) =>
.ex [.adr] (c1 fun a10 => swaps = some a10) (u1 fun a11 =>
.actU (st T.int a11 (.int .i64 (IntKind.wrap .i64 (n9 + 1)))) <|
.lt (.int .i64) (b) fun (n12 : Int) =>
.lt (.int .i64) (a) fun (n13 : Int) =>
.done 0 [.int .i64 n12, .int .i64 n13])))) (
.lt (.int .i64) (a) fun (n14 : Int) =>
.lt (.int .i64) (b) fun (n15 : Int) =>
.done 0 [.int .i64 n14, .int .i64 n15]))))))
theorem slices_order2Ordered_string_eq (data : Sl) (a : Int) (b : Int) (swaps : Option Addr) : decomp P 28 ⟨okFs, []⟩ { cnd := [], blk := [], reg := [], lps := [] } [.tmp 8, .tmp 9] (bodyOf Go.Proofs.Try.f80) [.val (.slice data.a data.len data.cap), .val (.int .i64 a), .val (.int .i64 b), .val (.pointer swaps)] = slices_order2Ordered_string data a b swaps := by kernel_rfl
theorem slices_order2Ordered_string_calls (data : Sl) (a : Int) (b : Int) (swaps : Option Addr) {w : World} {R : List Value → World → Prop} (h : (slices_order2Ordered_string data a b swaps).wp P (fun _ => True) w fun e vs w' => e = 0 ∧ R vs w') :
    Calls P F.slices_order2Ordered_string #[.slice data.a data.len data.cap, .int .i64 a, .int .i64 b, .pointer swaps] w fun e w' => ∃ vs, e = .returned (pack vs) ∧ R vs w' :=
  decomp_sound (isFn_of Go.Proofs.Try.func80 (by kernel_rfl) (by kernel_rfl) (by kernel_rfl)) okFs_ok mix [.val (.slice data.a data.len data.cap), .val (.int .i64 a), .val (.int .i64 b), .val (.pointer swaps)] (by rw [slices_order2Ordered_string_eq]; exact h)
end Go.Dec
