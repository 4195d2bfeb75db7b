/- Bytes and numbers: eight bytes told as one number, and back. Plain lemmas; no program. -/
import Derived.Test.YtoclajfeeebbbadGreatDoorPlL
set_option linter.unusedVariables false
set_option linter.unusedSimpArgs false
set_option linter.unusedSectionVars false
namespace Go.Proofs.YtoclajfeeebbbadGreatDoor.V
open Go.RowKit Go.Proofs.YtoclajfeeebbbadGreatDoor.E
variable [LaidFacts]
theorem or_low {a c:Nat} (hc:c < 256):(a * 256) ||| c = a * 256 + c:=by
  have h:=Nat.two_pow_add_eq_or_of_lt (i:=8) (b:=c) (by simpa using hc) a
  have e:2 ^ 8 * a = a * 256:=by rw [Nat.mul_comm]
  rw [e] at h
  exact h.symm
theorem wrap_mod (n:Int):(IntKind.i64.wrap n) % 18446744073709551616 = n % 18446744073709551616:=by
  rw [IntKind.wrap_i64]; omega
theorem wrap_of_mod {a b:Int} (h:a % 18446744073709551616 = b % 18446744073709551616):IntKind.i64.wrap a = IntKind.i64.wrap b:=by
  rw [IntKind.wrap_i64,IntKind.wrap_i64]; omega
theorem ofInt_nat (a:Int):(BitVec.ofInt 64 a).toNat = (a % 18446744073709551616).toNat:=by
  rw [BitVec.toNat_ofInt]
  rfl
/-- One byte more. -/
theorem or_byte (z b:Int) (h0:0 ≤ b) (h1:b < 256):ior .i64 (ishl .i64 z 8) b = IntKind.i64.wrap (z * 256 + b):=by
  unfold ior ishl
  apply wrap_of_mod
  have e8:z * 2 ^ (min (8:Int).toNat IntKind.i64.bits) = z * 256:=by
    have:min (8:Int).toNat IntKind.i64.bits = 8:=by decide
    rw [this]
    rfl
  rw [e8]
  show (((BitVec.ofInt 64 (IntKind.i64.wrap (z * 256)) ||| BitVec.ofInt 64 b).toNat:Nat):Int) % 18446744073709551616 = _
  rw [BitVec.toNat_or,ofInt_nat,ofInt_nat,wrap_mod]
  have hb:(b % 18446744073709551616).toNat = b.toNat:=by omega
  rw [hb]
  obtain ⟨m,hm⟩:∃ m:Nat,(z * 256 % 18446744073709551616).toNat = m * 256:=⟨(z * 256 % 18446744073709551616).toNat / 256,by omega⟩
  rw [hm,or_low (by omega)]
  omega
def numV (l:List Int):Int:=l.foldl (fun z x=>ior .i64 (ishl .i64 z 8) (w64 x)) 0
def sumV (l:List Int):Int:=l.foldl (fun z x=>z * 256 + x) 0
theorem numV_eq:∀ (l:List Int) (z y:Int),(∀ b ∈ l,0 ≤ b ∧ b < 256) → z = IntKind.i64.wrap y → l.foldl (fun z x=>ior .i64 (ishl .i64 z 8) (w64 x)) z = IntKind.i64.wrap (l.foldl (fun z x=>z * 256 + x) y)
  | [],z,y,_,h=>h
  | b :: l,z,y,hl,h=>by
    obtain ⟨h0,h1⟩:=hl b (List.mem_cons_self ..)
    rw [List.foldl_cons,List.foldl_cons]
    refine numV_eq l _ _ (fun x hx=>hl x (List.mem_cons_of_mem _ hx)) ?_
    rw [w64_id (by omega) (by omega),or_byte z b h0 h1,h]
    apply wrap_of_mod
    have:=wrap_mod y
    omega
theorem numV_sum {l:List Int} (h:∀ b ∈ l,0 ≤ b ∧ b < 256):numV l = IntKind.i64.wrap (sumV l):=numV_eq l 0 0 h (by decide)
theorem numV_range (l:List Int) (h:∀ b ∈ l,0 ≤ b ∧ b < 256):-9223372036854775808 ≤ numV l ∧ numV l ≤ 9223372036854775807:=by
  rw [numV_sum h,IntKind.wrap_i64]; omega
theorem numV_one {b:Int} (h0:0 ≤ b) (h1:b < 256):numV [b] = b:=by
  rw [numV_sum (fun x hx=>by rw [List.mem_singleton] at hx; omega)]
  unfold sumV
  simp only [List.foldl_cons,List.foldl_nil]
  rw [IntKind.wrap_i64]; omega
end Go.Proofs.YtoclajfeeebbbadGreatDoor.V
