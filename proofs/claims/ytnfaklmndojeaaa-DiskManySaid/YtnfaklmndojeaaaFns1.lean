/- Functions of this seat, decompiled by a program of ours; each is held to the code by the kernel. -/
import Derived.Test.YtnfaklmndojeaaaNames
namespace Go.Dec
set_option linter.unusedVariables false

def internal_stringslite_HasPrefix (s : ByteArray) (prefix_ : ByteArray) : Prog :=
.must (decide (((ByteArray.size s : Nat) : Int) ≥ ((ByteArray.size prefix_ : Nat) : Int)) = true → 0 ≤ ((ByteArray.size prefix_ : Nat) : Int) ∧ ((ByteArray.size prefix_ : Nat) : Int) ≤ ((ByteArray.size s : Nat) : Int)) <|
.lt (.bool) (decide (((ByteArray.size s : Nat) : Int) ≥ ((ByteArray.size prefix_ : Nat) : Int)) && ByteArray.toList (ByteArray.extract s 0 (Int.toNat (((ByteArray.size prefix_ : Nat) : Int)))) == ByteArray.toList prefix_) fun b0 =>
.done 0 [.bool b0]
theorem internal_stringslite_HasPrefix_eq (s : ByteArray) (prefix_ : ByteArray) : decomp P 18 ⟨okFs, []⟩ { cnd := [], blk := [], reg := [], lps := [] } [.tmp 4] (bodyOf Go.Proofs.Try.f56) [.val (.string s), .val (.string prefix_)] = internal_stringslite_HasPrefix s prefix_ := by kernel_rfl
theorem internal_stringslite_HasPrefix_calls (s : ByteArray) (prefix_ : ByteArray) {w : World} {R : List Value → World → Prop} (h : (internal_stringslite_HasPrefix s prefix_).wp P (fun _ => True) w fun e vs w' => e = 0 ∧ R vs w') :
    Calls P F.internal_stringslite_HasPrefix #[.string s, .string prefix_] w fun e w' => ∃ vs, e = .returned (pack vs) ∧ R vs w' :=
  decomp_sound (isFn_of Go.Proofs.Try.func56 (by kernel_rfl) (by kernel_rfl) (by kernel_rfl)) okFs_ok mix [.val (.string s), .val (.string prefix_)] (by rw [internal_stringslite_HasPrefix_eq]; exact h)
end Go.Dec
