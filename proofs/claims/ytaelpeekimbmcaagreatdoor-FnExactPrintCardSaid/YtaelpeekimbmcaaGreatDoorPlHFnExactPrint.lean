import Derived.Test.YtaelpeekimbmcaaGreatDoorOpFnExactPrint
import Derived.Test.YtaelpeekimbmcaaGreatDoorPlA
namespace Go.Proofs.YtaelpeekimbmcaaGreatDoor.H
open Go.RowKit Go.Proofs.YtaelpeekimbmcaaGreatDoor.E
/-! Characters and their texts, of the program and of the reference. -/
def chB (c:Int):Bool:=decide (0 ≤ c ∧ c ≤ 1114111 ∧ ¬ (55296 ≤ c ∧ c ≤ 57343))
theorem chB_iff {c:Int}:chB c = true ↔ 0 ≤ c ∧ c ≤ 1114111 ∧ ¬ (55296 ≤ c ∧ c ≤ 57343):=decide_eq_true_iff
theorem within_eq (k:Nat) (n a b:Int):impl_within.f k n a b = some (decide (a ≤ n ∧ n ≤ b)):=by
  simp only [impl_within.f,impl_within.e1]
  by_cases h:a ≤ n <;> simp [h]
theorem l01In_eq (k:Nat) (n a b:Int):spec_l01In.f k n a b = some (decide (a ≤ n ∧ n ≤ b)):=by
  simp only [spec_l01In.f,spec_l01In.e1]
  by_cases h:a ≤ n <;> simp [h]
theorem iCh (k:Nat) (c:Int):impl_CharOK.f k c = some (chB c):=by
  simp only [impl_CharOK.f,impl_CharOK.e1,within_eq,Option.bind_some,chB]
  by_cases h:0 ≤ c ∧ c ≤ 1114111
  · rw [decide_eq_true h,if_pos rfl]
    simp only [Option.bind_some,Option.some.injEq]
    by_cases h2:55296 ≤ c ∧ c ≤ 57343
    · rw [decide_eq_true h2,decide_eq_false (fun h3=>h3.2.2 h2)]; rfl
    · rw [decide_eq_false h2,decide_eq_true ⟨h.1,h.2,h2⟩]; rfl
  · rw [decide_eq_false h,if_neg (by simp),decide_eq_false (fun h3=>h ⟨h3.1,h3.2.1⟩)]; rfl
theorem sCh (k:Nat) (c:Int):spec_CharOK.f k c = some (chB c):=by
  simp only [spec_CharOK.f,spec_CharOK.e1,l01In_eq,Option.bind_some,chB]
  by_cases h:0 ≤ c ∧ c ≤ 55295
  · rw [decide_eq_true h,if_pos rfl,decide_eq_true ⟨h.1,by omega,by omega⟩]; rfl
  · rw [decide_eq_false h,if_neg (by simp)]
    simp only [Option.bind_some,Option.some.injEq,decide_eq_decide]
    omega
/-- Does the character stand between quotes? -/
def plB (c:Int):Bool:=decide (32 ≤ c ∧ c ≠ 127 ∧ c ≠ 34)
theorem iPl (k:Nat) (c:Int):impl_isPlain.f k c = some (plB c):=by
  simp only [impl_isPlain.f,impl_isPlain.e1,plB]
  by_cases h:(32:Int) ≤ c
  · rw [if_pos h]
    by_cases h2:c = 127
    · rw [if_pos h2]; simp [h2]
    · rw [if_neg h2]; by_cases h3:c = 34 <;> simp [h,h2,h3]
  · rw [if_neg h]; simp [h]
theorem sPl (k:Nat) (c:Int):spec_l01Char.e1 k c = some (!plB c):=by
  simp only [spec_l01Char.e1,plB]
  by_cases h:c < 32
  · rw [if_pos h,decide_eq_false (fun h3=>absurd h3.1 (by omega))]; rfl
  · rw [if_neg h]
    by_cases h2:c = 34
    · rw [if_pos h2,decide_eq_false (fun h3=>h3.2.2 h2)]; rfl
    · rw [if_neg h2]
      by_cases h3:c = 127
      · rw [decide_eq_true h3,decide_eq_false (fun h4=>h4.2.1 h3)]; rfl
      · rw [decide_eq_false h3,decide_eq_true ⟨by omega,h3,h2⟩]; rfl
theorem wrap8 {n:Nat} (h:n < 256):IntKind.u8.wrap (n:Int) = n:=u8a ⟨n,h⟩
where u8a:∀ n:Fin 256,IntKind.u8.wrap ((n:Nat):Int) = ((n:Nat):Int):=by decide +kernel
theorem i32 {c:Int} (h:chB c = true):IntKind.i32.wrap c = c:=by
  have h:=chB_iff.1 h
  have e:IntKind.i32.wrap c = IntKind.i32.wrap ((c.toNat:Nat):Int):=by rw [Int.toNat_of_nonneg h.1]
  unfold IntKind.wrap
  simp [IntKind.bits,IntKind.signed]
  omega
/-- The bytes of a character. -/
theorem sUtf (k:Nat) {c:Int} (h:chB c = true):spec_l01Utf8.f k c = some (Utf8.encode c):=by
  have h:=chB_iff.1 h
  obtain ⟨n,rfl⟩:∃ n:Nat,c = n:=⟨c.toNat,by omega⟩
  have hv:Utf8.valid (n:Int) = true:=by simp [Utf8.valid]; omega
  have d (m:Nat) (hm:0 < m):w64 (Int.tdiv (n:Int) (m:Int)) = ((n / m:Nat):Int):=by
    rw [show Int.tdiv (n:Int) (m:Int) = ((n / m:Nat):Int) from rfl,w64_nat (by have:=Nat.div_le_self n m; omega)]
  have e (a:Int) (m:Nat) (b:Nat) (hb:a = b) (ha:b + m < 256):IntKind.u8.wrap (w64 (a + (m:Int))) = ((b + m:Nat):Int):=by
    subst hb
    rw [show (b:Int) + (m:Int) = ((b + m:Nat):Int) by omega,w64_nat (by omega),wrap8 ha]
  have d64:w64 (Int.tdiv (n:Int) 64) = _:=d 64 (by omega)
  have d4096:w64 (Int.tdiv (n:Int) 4096) = _:=d 4096 (by omega)
  have d262144:w64 (Int.tdiv (n:Int) 262144) = _:=d 262144 (by omega)
  have t (m:Nat):Int.tmod (m:Int) 64 = ((m % 64:Nat):Int):=rfl
  have u (l:List Nat):strOfNums (l.map fun n:Nat=>(n:Int)) = ⟨(l.map fun n=>UInt8.ofNat n).toArray⟩:=by
    simp [strOfNums]
  unfold spec_l01Utf8.f Utf8.encode
  simp only [hv,if_true,Int.toNat_natCast]
  by_cases h1:n < 128
  · rw [if_pos (by omega),if_pos h1,wrap8 (by omega)]
    exact congrArg some (u [n])
  · rw [if_neg (by omega),if_neg h1]
    by_cases h2:n < 2048
    · rw [if_pos (by omega),if_pos h2,d64,t,e 192 _ 192 rfl (by omega),e 128 _ 128 rfl (by omega)]
      exact congrArg some (u [192 + n / 64,128 + n % 64])
    · rw [if_neg (by omega),if_neg h2]
      by_cases h3:n < 65536
      · rw [if_pos (by omega),if_pos h3,d64,d4096,t,t,e 224 _ 224 rfl (by omega),e 128 _ 128 rfl (by omega),e 128 _ 128 rfl (by omega)]
        exact congrArg some (u [224 + n / 4096,128 + n / 64 % 64,128 + n % 64])
      · rw [if_neg (by omega),if_neg h3,d64,d4096,d262144,t,t,t,e 240 _ 240 rfl (by omega),e 128 _ 128 rfl (by omega),e 128 _ 128 rfl (by omega),e 128 _ 128 rfl (by omega)]
        exact congrArg some (u [240 + n / 262144,128 + n / 4096 % 64,128 + n / 64 % 64,128 + n % 64])
theorem encode_size (c:Int):(Utf8.encode c).size ≤ 4:=by
  unfold Utf8.encode
  dsimp only
  generalize (if Utf8.valid c = true then c.toNat else Utf8.runeError) = n
  split
  · exact Nat.le_of_ble_eq_true rfl
  · split
    · exact Nat.le_of_ble_eq_true rfl
    · split
      · exact Nat.le_of_ble_eq_true rfl
      · exact Nat.le_of_ble_eq_true rfl
/-- The digits of a number below 256. -/
def D:ByteArray:=⟨#[48,49,50,51,52,53,54,55,56,57,65,66,67,68,69,70]⟩
def hexB (n:Nat):ByteArray:=if n < 16 then Utf8.encode (byteAt D n) else Utf8.encode (byteAt D ((n / 16:Nat):Int)) ++ Utf8.encode (byteAt D ((n % 16:Nat):Int))
theorem hex_low (k:Nat) {n:Nat} (h:n < 16):spec_l01Hex.f (k + 1) (n:Int) = some (Utf8.encode (byteAt D n)):=by
  rw [spec_l01Hex.f.eq_2,if_pos (by omega),if_pos (by omega)]
  exact if_pos (show (n:Int) < ((16:Nat):Int) by omega)
theorem hex_ev {n:Nat} (h:n < 256):Evr (fun k=>spec_l01Hex.f k (n:Int)) (hexB n):=by
  unfold hexB
  split
  · rename_i h1
    exact ev_step (fun _=>_) (fun k=>hex_low k h1) ev_some
  · rename_i h1
    refine ev_step _ (fun k=>spec_l01Hex.f.eq_2 _ k) (ev_neg (by omega) ?_)
    rw [show w64 (Int.tdiv (n:Int) 16) = ((n / 16:Nat):Int) from w64_nat (n:=n / 16) (by omega),show Int.tmod (n:Int) 16 = ((n % 16:Nat):Int) from rfl]
    refine ev_bind _ (ev_step (fun _=>_) (fun k=>hex_low k (by omega)) ev_some) ?_
    refine ev_pos (by omega) (ev_pos (show ((n % 16:Nat):Int) < ((16:Nat):Int) by omega) (ev_pos ?_ ev_some))
    have h2:=encode_size (byteAt D ((n / 16:Nat):Int))
    have h3:=encode_size (byteAt D ((n % 16:Nat):Int))
    show _ + (Utf8.encode (byteAt D ((n % 16:Nat):Int))).size ≤ _
    omega
theorem hexes:∀ n:Fin 128,(decide ((Fi.hex n).length ≤ 2) && (Fi.hex n).all (fun b=>decide (b.toNat < 128)) && decide ((⟨(Lib.toUpperA (Fi.hex n)).toArray⟩:ByteArray) = hexB n) && decide ((hexB n).size ≤ 2)) = true:=by decide +kernel
/-- A character's text. -/
def chT (c:Int):ByteArray:=if plB c then (⟨#[34]⟩:ByteArray) ++ Utf8.encode c ++ (⟨#[34]⟩:ByteArray) else (⟨#[48]⟩:ByteArray) ++ hexB c.toNat ++ (⟨#[88]⟩:ByteArray)
theorem q34:(⟨#[34]⟩:ByteArray).size = 1 ∧ (⟨#[48]⟩:ByteArray).size = 1 ∧ (⟨#[88]⟩:ByteArray).size = 1:=⟨rfl,rfl,rfl⟩
theorem chT_size {c:Int} (h:chB c = true):(chT c).size ≤ 6:=by
  have h:=chB_iff.1 h
  unfold chT
  split
  · rw [ByteArray.size_append,ByteArray.size_append]; have:=encode_size c; have:=q34; omega
  · rename_i hp
    have hp:¬ (32 ≤ c ∧ c ≠ 127 ∧ c ≠ 34):=fun h=>hp (decide_eq_true h)
    have hx:=hexes ⟨c.toNat,by omega⟩
    simp only [Bool.and_eq_true,decide_eq_true_eq] at hx
    rw [ByteArray.size_append,ByteArray.size_append]; have:=q34; have:=hx.2; omega
theorem iChar (k:Nat) {c:Int} (h:chB c = true):impl_charText.f k c = some (chT c):=by
  have hc:=chB_iff.1 h
  unfold impl_charText.f chT
  rw [iPl,Option.bind_some,i32 h]
  by_cases hp:plB c = true
  · rw [if_pos hp,if_pos hp]
    have:=encode_size c
    have:=q34
    rw [if_pos (by omega),if_pos (by rw [ByteArray.size_append]; omega)]
  · rw [if_neg hp,if_neg hp]
    have hp:¬ (32 ≤ c ∧ c ≠ 127 ∧ c ≠ 34):=fun h=>hp (decide_eq_true h)
    have hx:=hexes ⟨c.toNat,by omega⟩
    simp only [Bool.and_eq_true,decide_eq_true_eq] at hx
    obtain ⟨⟨⟨h1,h2⟩,h3⟩,h4⟩:=hx
    have h5:strconv_FormatInt.f k c 16 = some ⟨(Fi.hex c.toNat).toArray⟩:=if_pos ⟨rfl,hc.1,by omega⟩
    have h6:strings_ToUpper.f k ⟨(Fi.hex c.toNat).toArray⟩ = some (hexB c.toNat):=(if_pos ⟨by show (Fi.hex c.toNat).toArray.size ≤ _; simp; omega,by simpa using h2⟩).trans (congrArg some (by simpa using h3))
    have:=q34
    rw [h5,Option.bind_some,h6,Option.bind_some,if_pos (by omega),if_pos (by rw [ByteArray.size_append]; omega)]
theorem sChar {c:Int} (h:chB c = true):Evr (fun k=>spec_l01Char.f k c) (chT c):=by
  have hc:=chB_iff.1 h
  unfold spec_l01Char.f chT
  refine ev_bind (!plB c) (ev_of fun k=>sPl k c) ?_
  have:=q34
  by_cases hp:plB c = true
  · rw [hp,if_pos rfl]
    refine ev_neg (by simp) (ev_bind _ (ev_of fun k=>sUtf k h) ?_)
    have:=encode_size c
    exact ev_pos (by omega) (ev_pos (by rw [ByteArray.size_append]; omega) ev_some)
  · rw [if_neg hp,show plB c = false by simpa using hp]
    have hp:¬ (32 ≤ c ∧ c ≠ 127 ∧ c ≠ 34):=fun h=>hp (decide_eq_true h)
    have hx:=hexes ⟨c.toNat,by omega⟩
    simp only [Bool.and_eq_true,decide_eq_true_eq] at hx
    have h4:=hx.2
    refine ev_pos rfl (ev_bind (hexB c.toNat) ?_ (ev_pos (by omega) (ev_pos (by rw [ByteArray.size_append]; omega) ev_some)))
    have:=hex_ev (n:=c.toNat) (by omega)
    rwa [Int.toNat_of_nonneg hc.1] at this
end Go.Proofs.YtaelpeekimbmcaaGreatDoor.H
