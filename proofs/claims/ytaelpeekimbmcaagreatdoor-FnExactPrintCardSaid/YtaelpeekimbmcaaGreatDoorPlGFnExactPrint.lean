import Derived.Test.YtaelpeekimbmcaaGreatDoorOpFnExactPrint
import Derived.Test.YtaelpeekimbmcaaGreatDoorPlA
import Derived.Lib.ItoaLen
set_option linter.unusedVariables false
set_option linter.unusedSimpArgs false
namespace Go.Proofs.YtaelpeekimbmcaaGreatDoor.G
open Go.RowKit Go.Proofs.YtaelpeekimbmcaaGreatDoor.E
/-! The numeral. -/
def itoaB (n:Int):ByteArray:=⟨(Lib.itoa n).toArray⟩
def i64B (n:Int):Prop:=-9223372036854775808 ≤ n ∧ n ≤ 9223372036854775807
theorem itoaB_size {n:Int} (h:i64B n):(itoaB n).size ≤ 21:=by
  show (Lib.itoa n).toArray.size ≤ 21
  simpa using Lib.itoa_length_le n h.1 h.2
theorem itoa_f (k:Nat) {n:Int} (h:i64B n):strconv_Itoa.f k n = some (itoaB n):=if_pos h
theorem u8_dig {m:Nat} (h:m < 10):IntKind.u8.wrap (w64 (48 + (m:Int))) = 48 + (m:Int):=by
  rw [w64_id (by omega) (by omega)]
  unfold IntKind.wrap
  simp [IntKind.signed,IntKind.bits]
  omega
theorem str_dig {m:Nat} (h:m < 10):strOfNums [IntKind.u8.wrap (w64 (48 + (m:Int)))] = ⟨#[UInt8.ofNat (48 + m)]⟩:=by
  rw [u8_dig h]
  unfold strOfNums
  have:(48 + (m:Int)).toNat = 48 + m:=by omega
  simp [this]
theorem digits_nat:∀ (u:Nat),u ≤ 9223372036854775807 → Evr (fun k=>spec_l00Digits.f k (u:Int)) ⟨(Lib.decDigits u).toArray⟩:=fun u=>by
  induction u using Nat.strongRecOn with
  | _ u ih =>
    intro hu
    refine ev_step _ (fun k=>rfl) (ev_neg (by omega) (ev_neg (by omega) ?_))
    by_cases h:u < 10
    · rw [Lib.decDigits,dif_pos h]
      refine ev_pos (by omega) ?_
      rw [str_dig h]
      exact ev_some
    · rw [Lib.decDigits,dif_neg h]
      refine ev_neg (by omega) ?_
      have e1:w64 (Int.tdiv (u:Int) 10) = ((u / 10:Nat):Int):=by
        rw [show Int.tdiv (u:Int) 10 = ((u / 10:Nat):Int) from rfl,w64_id (by omega) (by omega)]
      have e2:Int.tmod (u:Int) 10 = ((u % 10:Nat):Int):=rfl
      rw [e1,e2,str_dig (by omega)]
      have hs:(⟨(Lib.decDigits (u / 10)).toArray⟩:ByteArray).size ≤ 21:=by
        have:=itoaB_size (n:=((u / 10:Nat):Int)) ⟨by omega,by omega⟩
        unfold itoaB at this
        rwa [Lib.itoa_nonneg] at this
      refine ev_bind _ (ih (u / 10) (by omega) (by omega)) (ev_pos ?_ (ev_eq ev_some ?_))
      · show _ + 1 ≤ _
        omega
      · apply ByteArray.ext
        simp [ByteArray.data_append]
theorem digits_ev {n:Int} (h:i64B n):Evr (fun k=>spec_l00Digits.f k n) (itoaB n):=by
  unfold itoaB
  by_cases h0:0 ≤ n
  · obtain ⟨u,rfl⟩:=Int.eq_ofNat_of_zero_le h0
    rw [Lib.itoa_nonneg]
    exact digits_nat u (by have:=h.2; omega)
  · obtain ⟨u,rfl⟩:∃ u:Nat,n = -(u:Int):=⟨n.natAbs,by omega⟩
    have hu:1 ≤ u:=by omega
    rw [Lib.itoa_neg u hu]
    by_cases hm:u = 9223372036854775808
    · subst hm
      refine ev_step _ (fun k=>rfl) (ev_pos rfl (ev_eq ev_some ?_))
      have:Lib.decDigits 9223372036854775808 = [57,50,50,51,51,55,50,48,51,54,56,53,52,55,55,53,56,48,56]:=by
        rw [Lib.decDigits_eq]
        rw [Lib.nDigits_unique 18 9223372036854775808 (by decide) (by decide)]
        decide
      rw [this]
    · have:=h.1
      refine ev_step _ (fun k=>rfl) (ev_neg (by omega) (ev_pos (by omega) ?_))
      have e1:w64 (0 - -(u:Int)) = (u:Int):=by rw [w64_id (by omega) (by omega)]; omega
      rw [e1]
      have hs:(⟨(Lib.decDigits u).toArray⟩:ByteArray).size ≤ 21:=by
        have:=itoaB_size (n:=(u:Int)) ⟨by omega,by omega⟩
        unfold itoaB at this
        rwa [Lib.itoa_nonneg] at this
      refine ev_bind _ (digits_nat u (by omega)) (ev_pos ?_ (ev_eq ev_some ?_))
      · show 1 + _ ≤ _
        omega
      · apply ByteArray.ext
        simp [ByteArray.data_append]
theorem bytesOf_append (a b:ByteArray):bytesOf (a ++ b) = bytesOf a ++ bytesOf b:=by
  simp [bytesOf,ByteArray.data_append]
theorem bytesOf_ok (a:ByteArray):∀ v ∈ bytesOf a,0 ≤ v ∧ v < 256:=by
  intro v hv
  unfold bytesOf at hv
  obtain ⟨b,_,rfl⟩:=List.mem_map.1 hv
  have:=b.toNat_lt
  omega
end Go.Proofs.YtaelpeekimbmcaaGreatDoor.G
