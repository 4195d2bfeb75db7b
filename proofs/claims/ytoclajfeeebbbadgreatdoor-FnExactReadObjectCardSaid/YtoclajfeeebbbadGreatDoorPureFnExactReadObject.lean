/- The law of ReadObject, in plain Lean: both answer alike, and the answer keeps what is marked. -/
import Derived.Test.YtoclajfeeebbbadGreatDoorPlXFnExactReadObject
import Derived.Test.YtoclajfeeebbbadGreatDoorPlOsFnExactReadObject
import Derived.Test.YtoclajfeeebbbadGreatDoorPlHoFnExactReadObject
import Derived.Test.YtoclajfeeebbbadGreatDoorPlOFnExactReadObject
set_option linter.unusedVariables false
set_option linter.unusedSimpArgs false
namespace Go.Proofs.YtoclajfeeebbbadGreatDoor.V
open Go.RowKit Go.Proofs.YtoclajfeeebbbadGreatDoor.E
/-- What an object that is right holds. -/
structure FitC (c:SCode):Prop where
  nm:c.f0.size ≤ 40
  len:c.f4.length ≤ 2000
  cells:0 ≤ c.f2 ∧ c.f2 ≤ 65535
  ins:∀ x ∈ c.f4,x.f3.size ≤ 40 ∧ x.f4.size ≤ 40
structure FitO (o:SObj):Prop where
  nm:o.f0.size ≤ 40
  needs:o.f2.length ≤ 20
  globs:o.f3.length ≤ 100
  procs:o.f4.length ≤ 60
  need:∀ x ∈ o.f2,x.f0.size ≤ 40
  glob:∀ x ∈ o.f3,x.f0.size ≤ 40
  proc:∀ c ∈ o.f4,FitC c
theorem modB_le {s:ByteArray} (h:modB s = true):s.size ≤ 40:=by
  unfold modB nameB at h
  simp only [Bool.and_eq_true,decide_eq_true_eq] at h
  exact h.1.1.1.2
theorem e0_le {s:ByteArray} (h:s = e0):s.size ≤ 40:=by
  subst h
  have:e0.size = 0:=rfl
  omega
theorem fitC {c:SCode} (h:(verM c).1 = 0):FitC c:=by
  unfold verM at h
  split at h
  · rename_i hh
    have hb:badAt c = none:=by
      cases hb:badAt c with
      | none=>rfl
      | some i=>rw [hb] at h; simp at h
    have hi:∀ x ∈ c.f4,insB c x = true:=fun x hx=>by
      have:=firstAt_none.1 hb x hx
      simpa using this
    unfold hdrB btw at hh
    simp only [Bool.and_eq_true,Bool.or_eq_true,decide_eq_true_eq] at hh
    refine ⟨?_,by omega,by omega,fun x hx=>?_⟩
    · rcases hh.2 with h | h
      · exact modB_le h
      · exact e0_le h.1
    · have:=hi x hx
      unfold insB headB at this
      simp only [Bool.and_eq_true] at this
      have h1:=this.1.1
      split at h1
      · simp only [Bool.and_eq_true] at h1
        exact ⟨modB_le h1.1,modB_le h1.2⟩
      · simp only [Bool.and_eq_true,decide_eq_true_eq] at h1
        exact ⟨e0_le h1.1,e0_le h1.2⟩
  · simp at h
theorem fitO {o:SObj} (h:objB o = true):FitO o:=by
  unfold objB headO btw at h
  simp only [Bool.and_eq_true,decide_eq_true_eq,List.all_eq_true] at h
  obtain ⟨⟨h1,h2,h3,h4,h5⟩,h6,⟨h7,h8⟩,h9⟩:=h
  refine ⟨modB_le h1,h3,h4,by omega,fun x hx=>?_,fun x hx=>?_,fun c hc=>?_⟩
  · have:=h6 x hx
    unfold needB at this
    simp only [Bool.and_eq_true] at this
    exact modB_le this.1
  · have:=h7 x hx
    unfold globB at this
    simp only [Bool.and_eq_true] at this
    exact modB_le this.1
  · obtain ⟨i,hi,rfl⟩:=List.getElem_of_mem hc
    unfold codesB at h8
    have:=List.all_eq_true.1 h8 (o.f4[i],0 + i) (List.mem_of_getElem? (i:=i) (by simp [hi]))
    unfold codeB at this
    simp only [Bool.and_eq_true,decide_eq_true_eq] at this
    exact fitC this.1
theorem smallF {o:SObj} (h:FitO o):SmallO o :=
  ⟨by have:=h.nm; omega,by have:=h.needs; omega,by have:=h.globs; omega,by have:=h.procs; omega,fun x hx=>by have:=h.need x hx; omega,fun x hx=>by have:=h.glob x hx; omega,fun c hc=>by
    have hf:=h.proc c hc
    exact ⟨by have:=hf.len; omega,by have:=hf.nm; omega,fun x hx=>by have:=hf.ins x hx; omega⟩⟩
end Go.Proofs.YtoclajfeeebbbadGreatDoor.V
namespace Go.Proofs.YtoclajfeeebbbadGreatDoor.V
open Go.RowKit Go.Proofs.YtoclajfeeebbbadGreatDoor.E
def nilO:SObj:=⟨⟨#[]⟩,0,[],[],[]⟩
def outO (t:Bool) (c:Int) (y:SObj):SObj × Int × ByteArray × Int × List SNeed × List SNeed × List SCode:=if t = true then (y,0,y.f0,y.f1,y.f2,y.f3,y.f4) else (nilO,c,⟨#[]⟩,0,[],[],[])
theorem nilO_ok:SmallO nilO:=⟨by decide,by decide,by decide,by decide,fun x hx=>(by cases hx),fun x hx=>(by cases hx),fun x hx=>(by cases hx)⟩
theorem str_bytes {l:List Int} (h:∀ v ∈ l,0 ≤ v ∧ v < 256):bytesOf (strOfNums l) = l:=by
  unfold bytesOf strOfNums
  simp only [List.map_map]
  conv=>rhs; rw [← List.map_id l]
  refine List.map_congr_left fun v hv=>?_
  have:=h v hv
  simp only [Function.comp,UInt8.toNat_ofNat',id]
  omega
/-- Both read alike. -/
theorem both_ev {b:List Int} (hb:∀ v ∈ b,0 ≤ v ∧ v < 256):∃ r,SmallO r.1 ∧ Evr (fun k=>spec_ReadObject.f k b) r ∧ Evr (fun k=>impl_ReadObject.f k b) r:=by
  by_cases hl:b.length ≤ 65536
  · obtain ⟨y,zy,hs,gy⟩:=sobj_rd (b:=b) ⟨hb,by omega⟩
    have hz:(strOfNums b).size ≤ 1000000:=by
      have:(strOfNums b).size = b.length:=by
        show (List.map _ b).toArray.size = _
        simp
      omega
    obtain ⟨x,zx,hx,gx⟩:=iobj_rd (strOfNums b) hz
    rw [str_bytes hb] at hx gx
    have hs':Evr (fun k=>spec_ReadObject.f k b) (outO (decide ((objD b).map Prod.snd = some []) && objB y) 3 y):=by
      unfold spec_ReadObject.f
      refine ev_neg (by omega) (ev_bind _ hs ?_)
      cases decide ((objD b).map Prod.snd = some []) && objB y with
      | true=>exact ev_pos rfl ev_some
      | false=>exact ev_neg (by simp) ev_some
    have hi':Evr (fun k=>impl_ReadObject.f k b) (outO (decide ((objD b).map Prod.snd = some []) && objB x) 3 x):=by
      unfold impl_ReadObject.f impl_isShort___byte.f
      refine ev_bind true (ev_const (by rw [decide_eq_true (by omega)])) (ev_pos rfl (ev_bind _ hx ?_))
      cases decide ((objD b).map Prod.snd = some []) && objB x with
      | true=>exact ev_pos rfl ev_some
      | false=>exact ev_neg (by simp) ev_some
    by_cases hd:(objD b).map Prod.snd = some []
    · have hxy : x = y := by
        obtain ⟨p,hp,hp2⟩:=Option.map_eq_some_iff.1 hd
        have e1:x = p.1:=gx p.1 p.2 (by rw [Option.bind_some]; exact hp)
        have e2:y = p.1:=gy hd p.1 p.2 (by rw [Option.bind_some]; exact hp)
        rw [e1,e2]
      subst hxy
      refine ⟨_,?_,hs',hi'⟩
      by_cases hB:objB x = true
      · rw [decide_eq_true hd,hB]
        exact smallF (fitO hB)
      · have hB':objB x = false:=by simpa using hB
        rw [hB',Bool.and_false]
        exact nilO_ok
    · rw [decide_eq_false hd,Bool.false_and] at hs' hi'
      exact ⟨outO false 3 y,nilO_ok,hs',hi'⟩
  · refine ⟨outO false 2 nilO,nilO_ok,?_,?_⟩
    · unfold spec_ReadObject.f
      exact ev_pos (by omega) ev_some
    · unfold impl_ReadObject.f impl_isShort___byte.f
      exact ev_bind false (ev_const (by rw [decide_eq_false (by omega)])) (ev_neg (by simp) ev_some)
end Go.Proofs.YtoclajfeeebbbadGreatDoor.V
namespace Go.Proofs.YtoclajfeeebbbadGreatDoor.E
open Go.RowKit Go.Proofs.YtoclajfeeebbbadGreatDoor.V
theorem marks_obj (o:SObj) (hs:SmallO o):∃ (n:Nat) (z:SObj),Evr (fun k=>laws_markObject.f k o 1) ((n:Int),z) ∧ Evr (fun k=>laws_heldObject.f k z 1) (n:Int):=by
  have h1:=endN_eq o.f2 1
  have h2:=endN_eq o.f3 (endN o.f2 1)
  have h3:=endC_max (M:=1048576) o.f4 (endN o.f3 (endN o.f2 1)) fun c hc=>(hs.proc c hc).len
  have h4:(4 + 5 * 1048576) * o.f4.length ≤ (4 + 5 * 1048576) * 1048576:=Nat.mul_le_mul_left _ hs.procs
  have n2:=hs.needs
  have n3:=hs.globs
  have n4:=hs.procs
  have hc:∀ x ∈ o.f4,x.f4.length ≤ 4611686018427387000:=fun x hx=>by have:=(hs.proc x hx).len; omega
  refine ⟨endC o.f4 (endN o.f3 (endN o.f2 1)),⟨o.f0,o.f1,mkNds o.f2 1,mkNds o.f3 (endN o.f2 1),mkCs o.f4 (endN o.f3 (endN o.f2 1))⟩,?_,?_⟩
  · have a:=markN_ev o.f2 1 (by omega) (by omega)
    have b:=markG_ev o.f3 (endN o.f2 1) (by omega) (by omega)
    have c:=markC_loop o.f4 [] (endN o.f3 (endN o.f2 1)) (by simp; omega) (by omega) hc
    unfold laws_markObject.f
    exact ev_bind _ a (ev_bind _ b (ev_bind _ c ev_some))
  · have a:=heldN_ev o.f2 1 (by omega) (by omega)
    have b:=heldG_ev o.f3 (endN o.f2 1) (by omega) (by omega)
    have c:=heldC_loop o.f4 [] (endN o.f3 (endN o.f2 1)) (by simp; omega) (by omega) hc
    unfold laws_heldObject.f laws_heldCodeS.f laws_heldCodeS.e2
    exact ev_bind _ a (ev_neg (by omega) (ev_bind _ b (ev_neg (by omega) (ev_bind _ (ev_bind _ c ev_some) (ev_neg (by omega) ev_some)))))
theorem toByteS_ev (xs:List Int) (hn:xs.length ≤ 1048576):Evr (fun k=>laws_toByteS.f k xs) xs:=by
  unfold laws_toByteS.f laws_toByteS.e2
  refine ev_pos (by omega) (ev_bind _ ?_ ev_some)
  have:=ev_copy xs id (0:Int) (fun k acc i=>laws_toByteS.l1 k xs acc i) (by omega) (fun acc _=>ev_neg (by omega) ev_some) (fun acc i hi ha r h=>by
    refine ev_pos (by omega) ?_
    simp only [at?_nat hi,Option.bind_some,at?_nat (l:=acc) (i:=i) (by omega),Int.toNat_natCast]
    rw [w64_next (by omega)]
    exact h)
  simpa using this
theorem oct_of {l:List Int} (h:∀ y_,y_ ∈ l → (Lit.int .u8 y_).wf = true):∀ v ∈ l,0 ≤ v ∧ v < 256:=fun v hv=>by
  have:=h v hv
  simp [Lit.wf,IntKind.min,IntKind.max,IntKind.signed,IntKind.bits] at this
  omega
theorem pureFnExactReadObject (x0:List Int) (h0:x0.length ≤ maxLen ∧ ∀ y_,y_ ∈ x0 → (Lit.int .u8 y_).wf = true):∃ k,laws_FnExactReadObject.f k x0 = some true:=by
  refine Evr.rounds (g:=fun k=>laws_FnExactReadObject.f k x0) ?_
  have ho:=oct_of h0.2
  unfold laws_FnExactReadObject.f
  refine ev_ite (fun _=>ev_some) (fun hn=>?_)
  have hc:=toByteS_ev x0 (by omega)
  obtain ⟨r,hr,hs,hi⟩:=both_ev ho
  have hq:Evr (fun k=>laws_eqObject.f k r.1 r.1) true:=eqObject_ev r.1 hr
  have e1:Evr (fun k=>laws_FnExactReadObject.e1 k r r) false:=by
    unfold laws_FnExactReadObject.e1
    exact ev_bind _ hq (ev_pos rfl (ev_const (by simp)))
  have hmb:=markB_ev x0 (by omega)
  have e2:Evr (fun k=>laws_FnExactReadObject.e2 k r r ((1 + x0.length:Nat):Int)) false:=by
    unfold laws_FnExactReadObject.e2
    exact ev_neg (by omega) (ev_bind _ hq (ev_pos rfl (ev_const (by simp))))
  obtain ⟨n,z,hm,hh⟩:=marks_obj r.1 hr
  refine ev_bind _ hc (ev_bind _ hs (ev_bind _ hc (ev_bind _ hi (ev_bind false e1 (ev_neg (by simp) ?_)))))
  refine ev_bind _ hc (ev_bind true (eqB_ev x0 (by omega)) (ev_pos rfl ?_))
  refine ev_bind _ hmb (ev_bind false e2 (ev_neg (by simp) ?_))
  refine ev_bind _ hm (ev_bind _ hh (ev_neg (by omega) (ev_pos rfl ?_)))
  refine ev_bind _ hc (ev_bind _ hi (ev_bind false e1 (ev_neg (by simp) ?_)))
  exact ev_bind _ hh (ev_neg (by omega) (ev_pos rfl ev_some))
end Go.Proofs.YtoclajfeeebbbadGreatDoor.E
