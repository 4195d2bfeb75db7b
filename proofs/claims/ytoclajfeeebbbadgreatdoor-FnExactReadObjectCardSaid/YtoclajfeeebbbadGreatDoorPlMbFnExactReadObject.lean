/- Marks: a mark's text; marks in bytes, written and held. -/
import Derived.Test.YtoclajfeeebbbadGreatDoorOpFnExactReadObject
import Derived.Test.YtoclajfeeebbbadGreatDoorPlA
set_option linter.unusedVariables false
set_option linter.unusedSimpArgs false
namespace Go.Proofs.YtoclajfeeebbbadGreatDoor.E
theorem dig_size (x:Int):(strOfNums ([x]:List Int)).size = 1:=rfl
theorem mt_loop:∀ (n:Nat) (z:ByteArray),z.size + n ≤ 4611686018427387904 → ∃ y,Evr (fun k=>laws_markText.l1 k (n:Int) z) y ∧ y.size ≤ 4611686018427387904:=by
  intro n
  induction n using Nat.strongRecOn with
  | _ n ih =>
    intro z hz
    by_cases h0:n = 0
    · refine ⟨z,ev_step _ (fun k=>?_) ev_some,by omega⟩
      rw [laws_markText.l1.eq_2,if_neg (by omega)]
    · have hd:Int.tdiv (n:Int) 10 = ((n / 10:Nat):Int):=rfl
      obtain ⟨y,h1,h2⟩:=ih (n / 10) (by omega) (strOfNums ([IntKind.u8.wrap (w64 (48 + (Int.tmod (n:Int) 10)))]:List Int) ++ z) (by rw [ByteArray.size_append,dig_size]; omega)
      refine ⟨y,ev_step _ (fun k=>?_) h1,h2⟩
      rw [laws_markText.l1.eq_2,if_pos (by omega),if_pos (by rw [dig_size]; omega),hd,w64_id (n:=((n / 10:Nat):Int)) (by omega) (by omega)]
theorem mt_some (n:Nat) (h:n ≤ 4611686018427387904):∃ y,Evr (fun k=>laws_markText.f k (n:Int)) y:=by
  by_cases h0:n = 0
  · exact ⟨_,ev_of fun k=>by unfold laws_markText.f; rw [if_pos (by omega)]⟩
  · obtain ⟨y,h1,h2⟩:=mt_loop n ⟨#[]⟩ (by show 0 + n ≤ 4611686018427387904; omega)
    refine ⟨(⟨#[109]⟩:ByteArray) ++ y,?_⟩
    unfold laws_markText.f laws_markText.e2
    refine ev_neg (by omega) (ev_bind _ h1 (ev_pos ?_ ev_some))
    have:(⟨#[109]⟩:ByteArray).size = 1:=rfl
    omega
noncomputable def mT (n:Nat):ByteArray:=if h:n ≤ 4611686018427387904 then (mt_some n h).choose else ⟨#[]⟩
theorem mT_ev {n:Nat} (h:n ≤ 4611686018427387904):Evr (fun k=>laws_markText.f k (n:Int)) (mT n):=by
  unfold mT
  rw [dif_pos h]
  exact (mt_some n h).choose_spec
theorem at_mid {α:Type} {A B:List α} {y:α} {i:Nat} (h:A.length = i):at? (A ++ y :: B) (i:Int) = some y:=by
  subst h
  unfold at?
  rw [if_pos (by omega),Int.toNat_natCast,List.getElem?_append_right (Nat.le_refl _),Nat.sub_self]
  rfl
theorem set_mid {α:Type} {A B:List α} {x y:α} {i:Nat} (h:A.length = i):(A ++ y :: B).set (Int.toNat (i:Int)) x = A ++ x :: B:=by
  subst h
  rw [Int.toNat_natCast]
  simp
theorem w64_1 {a:Nat} (h:a ≤ 4611686018427387904):w64 ((a:Int) + 1) = ((a + 1:Nat):Int):=by rw [w64_id (by omega) (by omega)]; rfl
/-! Bytes. -/
def mkB (i:Nat):Int:=IntKind.u8.wrap ((1 + i:Nat):Int)
theorem markB_loop (l:List Int) (hl:l.length ≤ 4611686018427387903):∀ (m i:Nat),i + m = l.length → Evr (fun k=>laws_markByteS_1.l1 k ((List.range i).map mkB ++ l.drop i) ((1 + i:Nat):Int) (i:Int)) ((List.range l.length).map mkB,((1 + l.length:Nat):Int)):=by
  intro m
  induction m with
  | zero =>
    intro i hi
    obtain rfl:i = l.length:=by omega
    rw [List.drop_length,List.append_nil]
    refine ev_step _ (fun k=>?_) ev_some
    rw [laws_markByteS_1.l1.eq_2,if_neg (by simp)]
  | succ m ih =>
    intro i hi
    have hlt:i < l.length:=by omega
    have hA:((List.range i).map mkB).length = i:=by simp
    have hih:=ih (i + 1) (by omega)
    rw [List.range_succ,List.map_append,List.map_singleton,List.append_assoc] at hih
    rw [List.drop_eq_getElem_cons hlt]
    generalize (List.range i).map mkB = A at hA hih ⊢
    generalize l[i] = y
    generalize l.drop (i + 1) = B at hih ⊢
    have e1:w64 (((1 + i:Nat):Int) + 1) = ((1 + (i + 1):Nat):Int):=w64_1 (by omega)
    have e5:w64 ((i:Int) + 1) = ((i + 1:Nat):Int):=w64_next (by omega)
    refine ev_step _ (fun k=>laws_markByteS_1.l1.eq_2 ..) (ev_pos (by simp [hA]; omega) ?_)
    refine ev_bind _ (ev_const (at_mid hA)) ?_
    rw [set_mid hA,e1,e5]
    exact hih
theorem markB_ev (l:List Int) (hl:l.length ≤ 4611686018427387903):Evr (fun k=>laws_markByteS_1.f k l 1) (((1 + l.length:Nat):Int),(List.range l.length).map mkB):=by
  have h:=markB_loop l hl l.length 0 (by omega)
  unfold laws_markByteS_1.f laws_markByteS_1.e2
  exact ev_bind _ h ev_some
theorem eqB_loop (l:List Int) (hl:l.length ≤ 4611686018427387903):∀ (m i:Nat),i + m = l.length → Evr (fun k=>laws_eqByteS.l1 k l l (i:Int)) (.inr ()):=by
  intro m
  induction m with
  | zero =>
    intro i hi
    obtain rfl:i = l.length:=by omega
    refine ev_step _ (fun k=>?_) ev_some
    rw [laws_eqByteS.l1.eq_2,if_neg (by omega)]
  | succ m ih =>
    intro i hi
    have e5:w64 ((i:Int) + 1) = ((i + 1:Nat):Int):=w64_next (by omega)
    refine ev_step _ (fun k=>laws_eqByteS.l1.eq_2 ..) (ev_pos (by omega) ?_)
    refine ev_bind _ (ev_const (at?_nat (by omega))) (ev_bind _ (ev_const (at?_nat (by omega))) (ev_pos rfl ?_))
    rw [e5]
    exact ih (i + 1) (by omega)
theorem eqB_ev (l:List Int) (hl:l.length ≤ 4611686018427387903):Evr (fun k=>laws_eqByteS.f k l l) true:=by
  have h:=eqB_loop l hl l.length 0 (by omega)
  unfold laws_eqByteS.f laws_eqByteS.e2
  exact ev_pos rfl (ev_bind _ h ev_some)
end Go.Proofs.YtoclajfeeebbbadGreatDoor.E
