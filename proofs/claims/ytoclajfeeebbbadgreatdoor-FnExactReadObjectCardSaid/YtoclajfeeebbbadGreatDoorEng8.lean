/- The engine, part R: rows of parts, rows made of a length, elements stored; structs of parts. Plain lemmas; no program. -/
import Derived.Test.YtoclajfeeebbbadGreatDoorEng7
import Derived.Laws.Tables
set_option linter.unusedVariables false
set_option linter.unusedSectionVars false
set_option linter.unusedSimpArgs false
namespace Go.Proofs.YtoclajfeeebbbadGreatDoor.E
open Go.RowKit
variable [LaidFacts]
section
variable {P:Program} {st:St} {o:Oper}
theorem foldl_set (off:Nat):∀ (l:List Value) (k:Nat) (cells:Array Value),off + k + l.length ≤ cells.size → ((l.zipIdx k).foldl (fun cs x=>cs.setIfInBounds (off + x.2) x.1) cells).toList = put3 cells.toList (off + k) l
 | [],k,cells,h=>by simp [put3]
 | v :: l,k,cells,h=>by
  simp only [List.zipIdx_cons,List.foldl_cons]
  simp only [List.length_cons] at h
  rw [foldl_set off l (k + 1) _ (by simp; omega)]
  have hsz:cells.toList.length = cells.size:=by simp
  apply List.ext_getElem?
  intro c
  rw [put3_at (by simp; omega),put3_at (by rw [hsz]; simp; omega),Array.toList_setIfInBounds,List.getElem?_set]
  simp only [List.length_cons,List.length_set]
  by_cases h1:off + (k + 1) ≤ c ∧ c < off + (k + 1) + l.length
  ·rw [if_pos h1,if_pos (by omega),show c - (off + k) = (c - (off + (k + 1))) + 1 by omega,List.getElem?_cons_succ]
  ·rw [if_neg h1]
   by_cases h2:off + k = c
   ·subst h2
    rw [if_pos rfl,if_pos (by omega),if_pos (by omega),Nat.sub_self,List.getElem?_cons_zero]
   ·rw [if_neg h2,if_neg (by omega)]
theorem fill_step {place:Nat → Option (Nat × Nat)} {cells:Array Value} {i:Nat} {v:Value} {rest:List (Nat × Value)} {off size:Nat} (hp:place i = some (off,size)) (hs:v.cells.size = size) (hle:off + size ≤ cells.size) :
  Instr.fill place cells ((i,v) :: rest) = Instr.fill place (put3 cells.toList off v.cells.toList).toArray rest:=by
 simp only [Instr.fill,hp]
 rw [if_neg (by simp [hs]; omega)]
 congr 1
 apply Array.toList_inj.1
 have:=foldl_set off v.cells.toList 0 cells (by simp [hs]; omega)
 simp only [Nat.add_zero] at this
 rw [List.toList_toArray,← this,← Array.foldl_toList,Array.toList_zipIdx]
/-- The parts, in their order, all of them. -/
theorem fill_all {size:Nat}:∀ (vs:List Value) (k:Nat) (cells:Array Value),(∀ v ∈ vs,v.cells.size = size) → cells.size = (k + vs.length) * size →
  Instr.fill (fun i=>some (i * size,size)) cells ((vs.zipIdx k).map fun x=>(x.2,x.1)) = some (cells.toList.take (k * size) ++ vs.flatMap fun v=>v.cells.toList).toArray
 | [],k,cells,_,hc=>by
  simp only [List.zipIdx_nil,List.map_nil,Instr.fill,List.flatMap_nil,List.append_nil,Option.some.injEq]
  apply Array.toList_inj.1
  rw [List.toList_toArray,List.take_of_length_le (by simp [hc])]
 | v :: vs,k,cells,hv,hc=>by
  have hs:=hv v (List.mem_cons_self ..)
  simp only [List.length_cons] at hc
  have hmul:(k + (vs.length + 1)) * size = k * size + size + vs.length * size:=by rw [Nat.add_mul,Nat.add_mul]; omega
  have hle:k * size + size ≤ cells.size:=by rw [hc,hmul]; omega
  simp only [List.zipIdx_cons,List.map_cons]
  rw [fill_step (off:=k * size) rfl hs hle]
  have hl3:(put3 cells.toList (k * size) v.cells.toList).length = cells.size:=by rw [put3_length (by simp [hs]; omega)]; simp
  rw [fill_all vs (k + 1) _ (fun u hu=>hv u (List.mem_cons_of_mem _ hu)) (by rw [List.size_toArray,hl3,hc]; congr 1; omega)]
  congr 2
  simp only [List.flatMap_cons]
  rw [← List.append_assoc]
  congr 1
  rw [show (k + 1) * size = k * size + size by rw [Nat.add_mul]; omega]
  simp only [put3]
  rw [List.append_assoc,← List.append_assoc]
  refine List.take_left' ?_
  simp [hs]
  omega
variable {a:Act} {w:World} {r:Rs}
/-- The values of parts. -/
theorem parts_rep (hi:Inv P st a w r) {s:Nat}:∀ {xs:List Operand} {pvs:List PV},xs.map st.use = pvs.map some → (∀ pv ∈ pvs,notTup pv.sh = true ∧ pv.cs.length = s ∧ pv.cs.all PC.plain2 = true) →
  (∀ v ∈ xs.map a.eval,v.cells.size = s ∧ ∀ y ∈ v.cells,y.oneCell' = true) ∧ ((xs.map a.eval).flatMap fun v=>v.cells.toList).length = pvs.length * s ∧
  ∀ (i:Nat) (x:PC),(pvs.map (·.cs)).flatten[i]? = some x → ∃ u,((xs.map a.eval).flatMap fun v=>v.cells.toList)[i]? = some u ∧ RepS w r.Sh x u
 | [],[],_,_=>by simp
 | x :: xs,pv :: pvs,hu,hp=>by
  simp only [List.map_cons,List.cons.injEq] at hu
  obtain ⟨h1,h2,h3⟩:=hp pv (List.mem_cons_self ..)
  obtain ⟨i1,i2,i3⟩:=parts_rep hi hu.2 fun q hq=>hp q (List.mem_cons_of_mem _ hq)
  obtain ⟨hf,hc⟩:=hi.use hu.1
  obtain ⟨f1,f2,f3,_⟩:=fits_flat hf h1
  have hsz:(a.eval x).cells.size = s:=by rw [← h2,← f1]; simp
  refine ⟨fun v hv=>?_,?_,fun i z hz=>?_⟩
  ·simp only [List.map_cons,List.mem_cons] at hv
   rcases hv with rfl | hv
   ·exact ⟨hsz,f3⟩
   ·exact i1 v hv
  ·simp only [List.map_cons,List.flatMap_cons,List.length_append,i2,f1,h2,List.length_cons,Nat.add_mul]; omega
  ·simp only [List.map_cons,List.flatten_cons,List.getElem?_append] at hz
   simp only [List.map_cons,List.flatMap_cons]
   split at hz
   ·rename_i hlt
    obtain ⟨h4,_⟩:=hc i z hz
    have h5:=plain2_rep (List.all_eq_true.1 h3 z (List.mem_of_getElem? hz)) h4
    refine ⟨_,?_,h5⟩
    rw [List.getElem?_append_left (by rw [f1]; exact hlt),f2,List.getD_eq_getElem?_getD]
    have:i < (flat (a.eval x)).length:=by rw [← f2,f1]; exact hlt
    rw [List.getElem?_eq_getElem this]; rfl
   ·rename_i hge
    obtain ⟨u,hu',hr⟩:=i3 _ z hz
    exact ⟨u,by rw [List.getElem?_append_right (by rw [f1]; omega),f1]; exact hu',hr⟩
 | [],_ :: _,hu,_=>by simp at hu
 | _ :: _,[],hu,_=>by simp at hu
/-- A row of parts. -/
theorem OpOK.rowOf {d:Nat} {t e:TypeId} {n s by':Nat} {parts:Array (Nat × Operand)} {xs:List Operand} {pvs:List PV} (ho:o.op = .buildSlice t n parts) (hod:o.dst = some d) (hd:st.okd d) (ht:P.underlying t = some (.slice e)) (he:P.elem? e = some (s,by')) (hs0:0 < s)
  (hparts:parts.toList = (xs.zipIdx 0).map fun x=>(x.2,x.1)) (hn:n = xs.length) (hsmall:n * s ≤ 2 ^ 24) (hu:xs.map st.use = pvs.map some) (hp:(pvs.all fun pv=>notTup pv.sh && Nat.beq pv.cs.length s && pv.cs.all PC.plain2) = true) :
  OpOK P o st (st.assign d ⟨.one,[.own e (pvs.map (·.cs))]⟩):=by
 intro a w r hi K Q hK
 obtain ⟨i,z,hi',hz,hsize,hbytes,hzs,hcs,hsz⟩:=elem?_spec he
 have hp':∀ pv ∈ pvs,notTup pv.sh = true ∧ pv.cs.length = s ∧ pv.cs.all PC.plain2 = true:=fun pv hpv=>by
  have:=List.all_eq_true.1 hp pv hpv
  simp only [Bool.and_eq_true] at this
  exact ⟨this.1.1,Nat.eq_of_beq_eq_true this.1.2,this.2⟩
 obtain ⟨h1,h2,h3⟩:=parts_rep hi hu hp'
 have hlen:pvs.length = xs.length:=by have:=congrArg List.length hu; simpa using this.symm
 let vals:=(xs.map a.eval).flatMap fun v=>v.cells.toList
 have hvl:vals.length = n * s:=by rw [hn,← hlen]; exact h2
 have hfill:=fill_all (size:=s) (xs.map a.eval) 0 ((Array.range (n * s)).map fun j=>(z.cells)[j % z.cells.size]!) (fun v hv=>(h1 v hv).1) (by simp [hn])
 have hrun:(execOp a.eval o).run P w = .ok (.value (.slice (some ⟨w.heap.size,0,none⟩) n n)) (w.alloc (.cells vals.toArray e)):=by
  have hpm:(parts.map fun x=>(x.1,a.eval x.2)).toList = ((xs.map a.eval).zipIdx 0).map fun x=>(x.2,x.1):=by
   rw [Array.toList_map,hparts,List.zipIdx_map]
   simp [List.map_map,Function.comp_def]
  have hbig:¬ (n * s > 2 ^ 24):=by omega
  simp only [Nat.zero_mul,List.take_zero,List.nil_append] at hfill
  have hz0:((if n * s = 0 then (pure #[]:Sem (Array Value)) else do pure (← zeroValue e).cells)).run P w = .ok (if n * s = 0 then #[] else z.cells) w:=by
   split
   ·rfl
   ·simp [zeroValue,typeInfo,hi',hz]
  have hfill':Instr.fill (fun i=>some (i * s,s)) ((Array.range (n * s)).map fun j=>((if n * s = 0 then #[] else z.cells:Array Value))[j % (if n * s = 0 then #[] else z.cells:Array Value).size]!) (parts.map fun x=>(x.1,a.eval x.2)).toList = some vals.toArray:=by
   rw [hpm,← hfill]
   by_cases h0:n * s = 0
   ·have hr0:Array.range 0 = #[]:=rfl
    rw [h0,hr0]; simp only [Array.map_empty]
   ·rw [if_neg h0]
  simp only [execOp,ho,Instr.buildSlice,Sem.run_bind,Sem.run_pure,Result.andThen_ok,run_underlying ht,run_sizeOf hsz]
  rw [Sem.run_ite,if_neg hbig]
  by_cases h0:n * s = 0
  ·simp only [if_pos h0] at hfill'
   rw [if_pos h0]
   simp only [Sem.run_bind,Sem.run_pure,Result.andThen_ok,hfill']
   simp [newRow]
  ·simp only [if_neg h0] at hfill'
   rw [if_neg h0]
   simp only [Sem.run_bind,Sem.run_pure,Result.andThen_ok,zeroValue,typeInfo,run_program,hi',hz,hfill']
   simp [newRow]
 have hsm:n ≤ 2 ^ 24:=Nat.le_trans (Nat.le_mul_of_pos_right n hs0) hsmall
 have hrow:=World.ownsH_of <| World.ownsRow_lit (base:=0) (e:=e) (size:=s) w vals.toArray n (Nat.zero_le _) (by simp only [maxLen]; omega) (by simpa using hvl)
 have hel:∀ el ∈ pvs.map (·.cs),el.length = s:=fun el hel=>by obtain ⟨pv,hpv,rfl⟩:=List.mem_map.1 hel; exact (hp' pv hpv).2.1
 have hown:RepOwn P (w.alloc (.cells vals.toArray e)) r.Sh e (pvs.map (·.cs)) (.slice (some ⟨w.heap.size,0,none⟩) n n) (Value.slice (some ⟨w.heap.size,0,none⟩) n n).ownBlock:=by
  refine ⟨vals,by rw [hcs,List.length_map,hlen,← hn]; exact hrow,rfl,by rw [hcs]; exact hel,fun i x hx=>?_⟩
  obtain ⟨u,hu',hr⟩:=h3 i x hx
  exact ⟨u,hu',hr.mono (fun _ h=>h) (fun g hg=>heap_alloc_old w _ g (hi.sh g hg).1)⟩
 have hblk:∀ g,(Value.slice (some ⟨w.heap.size,0,none⟩) n n).ownBlock = some g → w.heap.size ≤ g:=fun g hg=>by simp [Value.ownBlock] at hg; omega
 have hinv:=hi.newRow (w':=w.alloc (.cells vals.toArray e)) hd hown (fun g hg=>heap_alloc_old w _ g hg) (by simp) hblk
 unfold Oper.wp
 rw [hrun,Oper.upon_value,hod]
 rw [hod] at hK
 exact hK _ (w.alloc (.cells vals.toArray e)) _ St.assign_m hinv (by rw [St.assign_bx]; exact Step.newRow (w:=w) (w':=w.alloc (.cells vals.toArray e)) rfl rfl rfl (fun g hg=>heap_alloc_old w (.cells vals.toArray e) g hg) (by simp) hblk)
/-- A row made of a length. -/
theorem OpOK.make {d:Nat} {t e:TypeId} {x y:Operand} {k k':IntKind} {n:Int} {s by':Nat} {z:List Value} (ho:o.op = .makeSlice t x y) (hod:o.dst = some d) (hd:st.okd d) (ht:P.underlying t = some (.slice e)) (he:P.elem? e = some (s,by')) (hs0:0 < s) (hz:P.zero? e = some z)
  (hz1:z.all (·.oneCell') = true) (hx:st.use x = some ⟨.one,[.sc (.int k n)]⟩) (hy:st.use y = some ⟨.one,[.sc (.int k' n)]⟩) (h0:0 ≤ n) (h1:n ≤ 9223372036854775807) (h2:n * by' ≤ 140737488355328) :
  OpOK P o st (st.assign d ⟨.one,[.own e (List.replicate n.toNat (z.map zeroPC))]⟩):=by
 intro a w r hi K Q hK
 obtain ⟨i,zv,hi',hzv,hsize,hbytes,hzs,hcs,hsz⟩:=elem?_spec he
 have hzz:z = zv.cells.toList:=by
  simp only [Program.zero?,hi',Option.bind_some,hzv,Option.map_some,Option.some.injEq] at hz
  exact hz.symm
 have e1:=(hi.use hx).out_sc
 have e2:=(hi.use hy).out_sc
 obtain ⟨m,rfl⟩:=Int.eq_ofNat_of_zero_le h0
 have hbm:i.bytes * m ≤ 281474976710656:=by
  rw [hbytes]
  have h3:((m * by':Nat):Int) ≤ 140737488355328:=by rw [Int.natCast_mul]; exact h2
  have:m * by' ≤ 140737488355328:=by omega
  rw [Nat.mul_comm]; omega
 obtain ⟨w',h3,h4,h5⟩:=run_make_full (P:=P) w 0 t e i zv s ht hi' hzv hsize k k' m hbm (by simp only [maxLen]; omega) (Nat.zero_le _)
 have hrun:(execOp a.eval o).run P w = .ok (.value (.slice (some ⟨w.heap.size,0,none⟩) m m)) w':=by
  simp [execOp,ho,e1,e2,h3]
 have hzl:z.length = s:=by rw [hzz]; simpa using hzs
 have hown:RepOwn P w' r.Sh e (List.replicate m (z.map zeroPC)) (.slice (some ⟨w.heap.size,0,none⟩) m m) (Value.slice (some ⟨w.heap.size,0,none⟩) m m).ownBlock:=by
  have hel:∀ el ∈ List.replicate m (z.map zeroPC),el.length = s:=fun el hel=>by rw [List.eq_of_mem_replicate hel]; simpa using hzl
  refine ⟨_,by rw [hcs,List.length_replicate]; exact World.ownsH_of h4,rfl,by rw [hcs]; exact hel,fun j x hx=>?_⟩
  have hlt:j < m * s:=by have:=(List.getElem?_eq_some_iff.1 hx).1; rw [flatten_length hel,List.length_replicate] at this; exact this
  obtain ⟨el,h6,h7⟩:=flatten_split hs0 hel hx
  have:el = z.map zeroPC:=List.eq_of_mem_replicate (List.mem_of_getElem? h6)
  subst this
  rw [List.getElem?_map,Option.map_eq_some_iff] at h7
  obtain ⟨u,hu,rfl⟩:=h7
  have hu1:=List.all_eq_true.1 hz1 u (List.mem_of_getElem? hu)
  refine ⟨u,?_,(zeroPC_rep (r:=r) (w:=w') hu1)⟩
  have hjs:j % s < zv.cells.size:=by rw [hzs]; exact Nat.mod_lt _ hs0
  have hu':zv.cells[j % s] = u:=by
   rw [hzz,Array.getElem?_toList,Array.getElem?_eq_getElem hjs] at hu
   exact Option.some.inj hu
  simp only [madeCells,Array.toList_map,List.getElem?_map,Array.toList_range]
  rw [List.getElem?_range hlt]
  simp only [Option.map_some,Option.some.injEq]
  rw [getElem!_pos zv.cells (j % zv.cells.size) (Nat.mod_lt _ (by omega))]
  simp only [hzs]
  exact hu'
 have hblk:∀ g,(Value.slice (some ⟨w.heap.size,0,none⟩) m m).ownBlock = some g → w.heap.size ≤ g:=fun g hg=>by simp [Value.ownBlock] at hg; omega
 have hinv:=hi.newRow hd hown (fun g hg=>h5.block g hg (by simp)) h5.size hblk
 unfold Oper.wp
 rw [hrun,Oper.upon_value,hod]
 rw [hod] at hK
 exact hK _ _ _ St.assign_m hinv (by rw [St.assign_bx]; exact Step.newRow h5.os h5.tape h5.output (fun g hg=>h5.block g hg (by simp)) h5.size hblk)
/-! An element stored into. -/
theorem RepOwn.bty {Sh:Nat → Prop} {e:TypeId} {xs:List (List PC)} {v:Value} {g:Nat} (h:RepOwn P w Sh e xs v (some g)):E.bty w g = some e:=by
 obtain ⟨vals,ho,hb,_,_⟩:=h
 rcases ho.2 with ⟨rfl,_⟩ | ⟨g',cap,cur,fz,rfl,_,hh,_⟩
 ·cases hb
 ·simp only [Value.ownBlock,Option.some.injEq] at hb
  subst hb
  unfold E.bty
  rw [hh]
theorem Inv.reown (hi:Inv P st a w r) {p:Place} {e:TypeId} {xs xs':List (List PC)} (hp:st.at p = some (.own e xs)) {w':World} (hown:RepOwn P w' r.Sh e xs' (alpha a w r p) (r.γ p))
  (hw:∀ g,g < w.heap.size → r.γ p ≠ some g → w'.heap[g]? = w.heap[g]?) (hs:w.heap.size ≤ w'.heap.size):Inv P (st.setAt p (.own e xs')) a w' r:=by
 have hat:=fun q=>St.at_setAt (x:=.own e xs') hp q
 have hlen:=St.setAt_len (st:=st) (p:=p) (x:=.own e xs')
 have hty:∀ g T,bty w g = some T → bty w' g = some T:=fun g T ht=>by
  by_cases hg:r.γ p = some g
  ·have h1:=hi.cell p _ hp
   simp only [RepC] at h1
   rw [hg] at h1 hown
   rw [h1.bty] at ht
   rw [hown.bty]; exact ht
  ·rw [bty_same (hw g (bty_lt ht) hg)]; exact ht
 have hSh:∀ g,r.Sh g → w'.heap[g]? = w.heap[g]?:=fun g hg=>hw g (hi.sh g hg).1 fun e=>(hi.sh g hg).2.1 p e
 have hβ:∀ b,b < st.bx.length → w'.heap[r.β b]? = w.heap[r.β b]?:=fun b hb=>hw _ (hi.X_lt (.inr ⟨b,hb,rfl⟩)) fun e=>hi.exb p _ b e hb rfl
 have hal:∀ q,st.ex q → alpha a w' r q = alpha a w r q:=by
  intro q hq
  cases q with
  | t t c=>rfl
  | b b c=>exact alpha_box_eq rfl (hβ b hq)
 have hex:∀ q x,st.at q = some x → st.ex q:=fun q x hq=>by
  cases q with
  | t t c=>obtain ⟨pv,h1,_⟩:=St.at_tmp hq; exact ⟨pv,h1⟩
  | b b c=>exact (St.at_box hq).1
 have hlv:∀ q,(st.setAt p (.own e xs')).lives q → st.lives q:=by
  intro q ⟨y,h1,h2⟩
  rw [hat] at h1
  split at h1
  ·rename_i hq; subst hq; exact ⟨_,hp,by simp⟩
  ·exact ⟨y,h1,h2⟩
 have hexs:∀ q,st.ex q → (st.setAt p (.own e xs')).ex q:=by
  intro q hq
  cases q with
  | t k c =>
   obtain ⟨pv,hq⟩:=hq
   cases p with
   | t t d =>
    simp only [St.ex,St.setAt]
    split
    ·rw [St.get_rep]; split
     ·exact ⟨_,rfl⟩
     ·exact ⟨pv,hq⟩
    ·exact ⟨pv,hq⟩
   | b b d=>exact ⟨pv,hq⟩
  | b b c=>simp only [St.ex,hlen]; exact hq
 refine ⟨by rw [St.setAt_n]; exact hi.sz,by rw [St.setAt_m,hlen]; exact hi.m,fun t pv' ht=>?_,fun b cs' hb=>?_,fun q x hx=>?_,fun q x q' hx hq'=>?_,fun q g hg=>?_,hi.inj,by rw [hlen]; exact hi.exb,by rw [hlen]; exact hi.bb,fun g hg=>?_,hi.defers,LaidFacts.mono (fun _ h=>h) hSh hi.lw,by rw [St.setAt_fx]; exact hi.fx⟩
 ·obtain ⟨pv,h1,h2,h3⟩:=St.get_setAt ht
  obtain ⟨v,h4,h5⟩:=hi.tm t pv h1
  exact ⟨v,h4,by rw [← h2,← h3]; exact h5⟩
 ·cases p with
  | t t c =>
   have hb':st.bx[b]? = some cs':=by
    simp only [St.setAt] at hb
    split at hb <;> exact hb
   obtain ⟨⟨vals,e',h1,h2⟩,h3⟩:=hi.bx b cs' hb'
   exact ⟨⟨vals,e',by rw [hβ b (List.getElem?_eq_some_iff.1 hb').1]; exact h1,h2⟩,h3⟩
  | b b' c =>
   simp only [St.setAt,List.getElem?_modify] at hb
   obtain ⟨cs,h1,h2⟩:=Option.map_eq_some_iff.1 hb
   obtain ⟨⟨vals,e',h3,h4,h5⟩,h6⟩:=hi.bx b cs h1
   refine ⟨⟨vals,e',by rw [hβ b (List.getElem?_eq_some_iff.1 h1).1]; exact h3,by rw [h4]; subst h2; split <;> simp,h5⟩,fun x hx=>?_⟩
   subst h2
   split at hx
   ·rcases List.mem_or_eq_of_mem_set hx with h7 | rfl
    ·exact h6 x h7
    ·rfl
   ·exact h6 x hx
 ·rw [hat] at hx
  split at hx
  ·rename_i hq; subst hq; cases hx
   rw [hal q (hex q _ hp)]
   exact hown
  ·rename_i hq
   rw [hal q (hex q x hx)]
   exact (hi.cell q x hx).mono (fun _ h=>h) hSh (fun g hg=>hw g (hi.X_lt (.inl ⟨q,hg⟩)) fun e=>hq (hi.inj q p g hg e)) (fun b hb=>⟨by rw [hlen]; exact hb,rfl⟩) (fun q' hq' hl=>⟨hlv q' hl,hal q' (hi.nm q x q' hx hq')⟩) hty
 ·rw [hat] at hx
  split at hx
  ·cases hx; simp [PC.names] at hq'
  ·exact hexs q' (hi.nm q x q' hx hq')
 ·obtain ⟨e',ys,h1⟩:=hi.live q g hg
  by_cases hq:q = p
  ·subst hq; exact ⟨e,xs',by rw [hat,if_pos rfl]⟩
  ·exact ⟨e',ys,by rw [hat,if_neg hq]; exact h1⟩
 ·obtain ⟨h1,h2,h3⟩:=hi.sh g hg
  exact ⟨Nat.lt_of_lt_of_le h1 hs,h2,by rw [hlen]; exact h3⟩
theorem flatten_set {α:Type} {s:Nat} {xs:List (List α)} (hs:0 < s) (hz:∀ e ∈ xs,e.length = s) {i off:Nat} {el l:List α} (hi:xs[i]? = some el) (hle:off + l.length ≤ s):(xs.set i (put3 el off l)).flatten = put3 xs.flatten (i * s + off) l:=by
 have hel:el.length = s:=hz el (List.mem_of_getElem? hi)
 have hil:i < xs.length:=(List.getElem?_eq_some_iff.1 hi).1
 have hp:(put3 el off l).length = s:=by rw [put3_length (by omega),hel]
 have hz':∀ e ∈ xs.set i (put3 el off l),e.length = s:=fun e he=>by
  rcases List.mem_or_eq_of_mem_set he with h | rfl
  ·exact hz e h
  ·exact hp
 have hfl:=flatten_length hz
 have hmul:i * s + s ≤ xs.length * s:=by rw [← Nat.succ_mul]; exact Nat.mul_le_mul_right s hil
 apply List.ext_getElem?
 intro k
 rw [put3_at (by rw [hfl]; omega)]
 by_cases hk:k < xs.length * s
 ·have hki:k / s < xs.length:=(Nat.div_lt_iff_lt_mul hs).2 hk
  have hkj:k % s < s:=Nat.mod_lt _ hs
  have hkk:k / s * s + k % s = k:=by rw [Nat.mul_comm]; exact Nat.div_add_mod k s
  have hold:=flatten_at hz (List.getElem?_eq_getElem hki) (List.getElem?_eq_getElem (l:=xs[k / s]) (i:=k % s) (by rw [hz _ (List.getElem_mem hki)]; exact hkj))
  rw [hkk] at hold
  by_cases hik:k / s = i
  ·subst hik
   have hnew:=flatten_at (xs:=xs.set (k / s) (put3 el off l)) hz' (i:=k / s) (j:=k % s) (e:=put3 el off l) (x:=(put3 el off l)[k % s]'(by rw [hp]; exact hkj)) (by rw [List.getElem?_set]; simp [hki]) (List.getElem?_eq_getElem _)
   rw [hkk] at hnew
   rw [hnew]
   have hee:xs[k / s] = el:=by have:=List.getElem?_eq_getElem hki; rw [hi] at this; exact (Option.some.inj this).symm
   have h3:=put3_at (cs:=el) (off:=off) (l:=l) (by omega) (k % s)
   rw [List.getElem?_eq_getElem (by rw [hp]; exact hkj)] at h3
   rw [h3]
   by_cases hc:off ≤ k % s ∧ k % s < off + l.length
   ·rw [if_pos hc,if_pos (by omega)]
    congr 1; omega
   ·rw [if_neg hc,if_neg (by omega),hold]
    simp only [hee]
    rw [List.getElem?_eq_getElem (by rw [hel]; exact hkj)]
  ·have hnew:=flatten_at (xs:=xs.set i (put3 el off l)) hz' (i:=k / s) (j:=k % s) (e:=xs[k / s]) (x:=xs[k / s][k % s]'(by rw [hz _ (List.getElem_mem hki)]; exact hkj)) (by rw [List.getElem?_set,if_neg (fun h=>hik h.symm)]; exact List.getElem?_eq_getElem hki) (List.getElem?_eq_getElem _)
   rw [hkk] at hnew
   have hnot:¬ (i * s + off ≤ k ∧ k < i * s + off + l.length):=by
    rintro ⟨h1,h2⟩
    apply hik
    have h4:i ≤ k / s:=(Nat.le_div_iff_mul_le hs).2 (by omega)
    have h5:k / s < i + 1:=(Nat.div_lt_iff_lt_mul hs).2 (by rw [Nat.add_mul]; omega)
    omega
   rw [hnew,if_neg hnot,hold]
 ·rw [List.getElem?_eq_none (by rw [flatten_length hz',List.length_set]; omega),if_neg (by omega),List.getElem?_eq_none (by omega)]
theorem OpOK.storeEl {t:TypeId} {x y:Operand} {p:Place} {i off n s:Nat} {e:TypeId} {xs:List (List PC)} {el:List PC} {pv:PV} (ho:o.op = .store t x y) (hd:o.dst = none) (hs:P.size? t = some n) (hx:st.use x = some ⟨.one,[.el p i off s]⟩) (hp:st.at p = some (.own e xs)) (hes:P.cellsOf e = s) (hs0:0 < s)
  (hy:st.use y = some pv) (hsh:notTup pv.sh = true) (hn:pv.cs.length = n) (hle:off + n ≤ s) (hpl:pv.cs.all PC.plain = true) (hel:xs[i]? = some el) :
  OpOK P o st (st.setAt p (.own e (xs.set i (put3 el off pv.cs)))):=by
 intro a w r hi K Q hK
 obtain ⟨_,hxc,_⟩:=(hi.use hx).out
 have hlv:st.lives p:=⟨_,hp,by simp⟩
 have hv:=hxc.2 hlv
 obtain ⟨hf,hcc⟩:=hi.use hy
 obtain ⟨f1,f2,f3,_⟩:=fits_flat hf hsh
 have hc:=hi.cell p _ hp
 simp only [RepC] at hc
 obtain ⟨vals,ho1,ho2,ho3,ho4⟩:=hc
 subst hes
 have hil:i < xs.length:=(List.getElem?_eq_some_iff.1 hel).1
 rcases ho1.2 with ⟨_,hnil⟩ | ⟨g,cap,cur,fz,hav,hfz,hh,hnc,hcm,hcs,htake⟩
 ·omega
 ·rw [hav] at hv
  simp only [elVal,add_mk,Nat.zero_add] at hv
  have hsz:(a.eval y).cells.size = n:=by rw [← hn,← f1]; simp
  have hmul:i * P.cellsOf e + P.cellsOf e ≤ xs.length * P.cellsOf e:=by rw [← Nat.succ_mul]; exact Nat.mul_le_mul_right _ hil
  have hcap:xs.length * P.cellsOf e ≤ cap * P.cellsOf e:=Nat.mul_le_mul_right _ hnc
  have hrun:=execOp_store (P:=P) (a:=a) (w:=w) ho hv rfl (by rw [hs,hsz]) hh hfz (by rw [hsz,hcs]; omega) f3
  have hγ:r.γ p = some g:=by rw [← ho2,hav]; rfl
  let l:=(a.eval y).cells.toList
  have hll:l.length = n:=by show (a.eval y).cells.toList.length = n; simpa using hsz
  have hvl:=ho1.1
  have hnew:(w.setRow g (put3 cur.toList (i * P.cellsOf e + off) l).toArray).heap[g]? = some (.cells (put3 cur.toList (i * P.cellsOf e + off) l).toArray e fz):=setRow_heap w g _ _ e fz hh
  have hcl:cur.toList.length = cap * P.cellsOf e:=by simpa using hcs
  have hput:(put3 cur.toList (i * P.cellsOf e + off) l).length = cap * P.cellsOf e:=by rw [put3_length (by rw [hcl,hll]; omega),hcl]
  have htk:(put3 cur.toList (i * P.cellsOf e + off) l).take (xs.length * P.cellsOf e) = put3 vals (i * P.cellsOf e + off) l:=by
   apply List.ext_getElem?
   intro k
   rw [put3_at (by rw [hvl,hll]; omega),List.getElem?_take,put3_at (by rw [hcl,hll]; omega),← htake,List.getElem?_take]
   by_cases hk:k < xs.length * P.cellsOf e
   ·rw [if_pos hk,if_pos hk]
   ·rw [if_neg hk,if_neg hk,if_neg (by rw [hll]; omega)]
  have hown:RepOwn P (w.setRow g (put3 cur.toList (i * P.cellsOf e + off) l).toArray) r.Sh e (xs.set i (put3 el off pv.cs)) (alpha a w r p) (r.γ p):=by
   have hpv:off + pv.cs.length ≤ P.cellsOf e:=by omega
   refine ⟨put3 vals (i * P.cellsOf e + off) l,⟨by rw [put3_length (by rw [hvl,hll]; omega),hvl,List.length_set],.inr ⟨g,cap,_,fz,by rw [hav,List.length_set],by rw [List.size_toArray,hput,← hcs]; exact hfz,hnew,by rw [List.length_set]; exact hnc,hcm,by rw [List.size_toArray]; exact hput,by rw [List.length_set]; exact htk⟩⟩,ho2,fun z hz=>?_,fun k x hx=>?_⟩
   ·rcases List.mem_or_eq_of_mem_set hz with h | rfl
    ·exact ho3 z h
    ·rw [put3_length (by rw [ho3 el (List.mem_of_getElem? hel)]; omega)]; exact ho3 el (List.mem_of_getElem? hel)
   ·rw [flatten_set hs0 ho3 hel hpv,put3_at (by rw [flatten_length ho3]; omega)] at hx
    rw [put3_at (by rw [hvl,hll]; omega)]
    have hSh:∀ k,r.Sh k → (w.setRow g (put3 cur.toList (i * P.cellsOf e + off) l).toArray).heap[k]? = w.heap[k]?:=fun k hk=>setRow_other w g k _ fun e=>(hi.sh k hk).2.1 p (by rw [hγ,e])
    split at hx
    ·rename_i hcond
     obtain ⟨h6,_⟩:=hcc _ x hx
     have h7:=plain_rep (List.all_eq_true.1 hpl x (List.mem_of_getElem? hx)) h6
     rw [if_pos (by rw [hll,← hn]; exact hcond)]
     have hlt:k - (i * P.cellsOf e + off) < l.length:=by rw [hll,← hn]; omega
     refine ⟨l[k - (i * P.cellsOf e + off)],List.getElem?_eq_getElem hlt,?_⟩
     have hfl:(flat (a.eval y)).getD (k - (i * P.cellsOf e + off)) undef = l[k - (i * P.cellsOf e + off)]:=by
      rw [← f2,List.getD_eq_getElem?_getD,List.getElem?_eq_getElem hlt]; rfl
     rw [hfl] at h7
     exact h7.mono (fun _ h=>h) hSh
    ·rename_i hcond
     obtain ⟨u,hu,hru⟩:=ho4 k x hx
     rw [if_neg (by rw [hll,← hn]; exact hcond)]
     exact ⟨u,hu,hru.mono (fun _ h=>h) hSh⟩
  have hinv:=hi.reown hp hown (fun k hk hne=>setRow_other w g k _ fun e=>hne (by rw [hγ,e])) (by simp [World.setRow])
  unfold Oper.wp
  rw [hrun,Oper.upon_skip,hd]
  rw [hd] at hK
  exact hK undef _ r St.setAt_m hinv (by rw [St.setAt_len]; exact Step.setRow (.inl ⟨p,hγ⟩) rfl rfl (fun _ h=>h))
end
end Go.Proofs.YtoclajfeeebbbadGreatDoor.E
/- The engine, part S: what is owned goes from place to place; calls that share; loops. Plain lemmas; no program. -/
set_option linter.unusedVariables false
set_option linter.unusedSectionVars false
set_option linter.unusedSimpArgs false
namespace Go.Proofs.YtoclajfeeebbbadGreatDoor.E
open Go.RowKit
variable [LaidFacts]
section
variable {P:Program} {st:St} {a:Act} {w:World} {r:Rs} {o:Oper}
theorem OpOK.turn {st' st'':St} (h:OpOK P o st st') (ht:Turns P st' st''):OpOK P o st st'':=by
 intro a w r hi K Q hK
 refine h a w r hi K Q fun v w' r' h1 h2 h3=>?_
 obtain ⟨r'',k1,k2,k3⟩:=ht _ _ _ h2
 exact hK v w' r'' (k1.trans h1) k2 (h3.trans (h1 ▸ k3))
/-- Two places that hold one row: the other one owns it from here on. -/
theorem Inv.swap (hi:Inv P st a w r) {p q:Place} {e:TypeId} {xs:List (List PC)} (hp:st.at p = some (.own e xs)) (hq:st.at q = some (.al p)) (htp:∃ t c,p = .t t c) (htq:∃ t c,q = .t t c) :
  ∃ r',Inv P ((st.setAt p (.al q)).setAt q (.own e xs)) a w r' ∧ r'.Sh = r.Sh ∧ r'.β = r.β ∧ r'.κ = r.κ ∧ ∀ g,r'.X st.bx.length g → r.X st.bx.length g:=by
 have hne:p ≠ q:=fun e=>by subst e; rw [hp] at hq; cases hq
 have hv:alpha a w r q = alpha a w r p:=by
  have:=hi.cell q _ hq
  exact this.2 ⟨_,hp,by simp⟩
 have hat1:=fun z=>St.at_setAt (x:=.al q) hp z
 have hq1:(st.setAt p (.al q)).at q = some (.al p):=by rw [hat1,if_neg (fun e=>hne e.symm)]; exact hq
 have hat:=fun z=>St.at_setAt (x:=.own e xs) hq1 z
 have hat':∀ z,((st.setAt p (.al q)).setAt q (.own e xs)).at z = if z = q then some (.own e xs) else if z = p then some (.al q) else st.at z:=fun z=>by rw [hat,hat1]
 obtain ⟨tp,cp,rfl⟩:=htp
 obtain ⟨tq,cq,rfl⟩:=htq
 have hbx:((st.setAt (.t tp cp) (.al (.t tq cq))).setAt (.t tq cq) (.own e xs)).bx = st.bx:=by
  have h1:∀ (s:St) t c x,(s.setAt (.t t c) x).bx = s.bx:=fun s t c x=>by simp only [St.setAt]; split <;> rfl
  rw [h1,h1]
 have hγq:r.γ (.t tq cq) = none:=(hi.cell _ _ hq).1
 have hlv:∀ z,((st.setAt (.t tp cp) (.al (.t tq cq))).setAt (.t tq cq) (.own e xs)).lives z → st.lives z:=by
  intro z ⟨y,h1,h2⟩
  rw [hat'] at h1
  split at h1
  ·rename_i hz; subst hz; exact ⟨_,hq,by simp⟩
  ·split at h1
   ·rename_i hz; subst hz; exact ⟨_,hp,by simp⟩
   ·exact ⟨y,h1,h2⟩
 have hexs:∀ z,st.ex z → ((st.setAt (.t tp cp) (.al (.t tq cq))).setAt (.t tq cq) (.own e xs)).ex z:=by
  have h1:∀ (s:St) t c x z,s.ex z → (s.setAt (.t t c) x).ex z:=by
   intro s t c x z hz
   cases z with
   | t k d =>
    obtain ⟨pv,hz⟩:=hz
    simp only [St.ex,St.setAt]
    split
    ·rw [St.get_rep]; split
     ·exact ⟨_,rfl⟩
     ·exact ⟨pv,hz⟩
    ·exact ⟨pv,hz⟩
   | b b d =>
    simp only [St.ex,St.setAt] at hz ⊢
    split <;> exact hz
  exact fun z hz=>h1 _ _ _ _ _ (h1 _ _ _ _ _ hz)
 refine ⟨{ r with γ:=fun z=>if z = .t tq cq then r.γ (.t tp cp) else if z = .t tp cp then none else r.γ z },?_,rfl,rfl,rfl,?_⟩
 ·have hγ:∀ z g,(if z = .t tq cq then r.γ (.t tp cp) else if z = .t tp cp then none else r.γ z) = some g → ∃ y,r.γ y = some g ∧ (z = .t tq cq ∧ y = .t tp cp ∨ (z ≠ .t tq cq ∧ z ≠ .t tp cp ∧ y = z)):=by
   intro z g hg
   split at hg
   ·exact ⟨_,hg,.inl ⟨‹_›,rfl⟩⟩
   ·split at hg
    ·cases hg
    ·exact ⟨z,hg,.inr ⟨‹_›,‹_›,rfl⟩⟩
  have hal:alpha a w { r with γ:=fun z=>if z = .t tq cq then r.γ (.t tp cp) else if z = .t tp cp then none else r.γ z } = alpha a w r:=by funext z; cases z <;> rfl
  refine ⟨by rw [St.setAt_n,St.setAt_n]; exact hi.sz,by rw [St.setAt_m,St.setAt_m,hbx]; exact hi.m,fun t pv' ht=>?_,fun b cs hb=>hi.bx b cs (by rw [← hbx]; exact hb),fun z x hz=>?_,fun z x z' hz hn=>?_,fun z g hg=>?_,fun z z' g hg hg'=>?_,fun z g b hg hb=>?_,by rw [hbx]; exact hi.bb,fun g hg=>?_,hi.defers,hi.lw,by rw [St.setAt_fx,St.setAt_fx]; exact hi.fx⟩
  ·obtain ⟨pv1,h1,h2,h3⟩:=St.get_setAt ht
   obtain ⟨pv2,h4,h5,h6⟩:=St.get_setAt h1
   obtain ⟨v,h7,h8⟩:=hi.tm t pv2 h4
   exact ⟨v,h7,by rw [← h2,← h3,← h5,← h6]; exact h8⟩
  ·rw [hal]
   rw [hat'] at hz
   have lift:∀ x v g,RepC P w r st (alpha a w r) x v g → RepC P w { r with γ:=fun z=>if z = .t tq cq then r.γ (.t tp cp) else if z = .t tp cp then none else r.γ z } ((st.setAt (.t tp cp) (.al (.t tq cq))).setAt (.t tq cq) (.own e xs)) (alpha a w r) x v g:=fun x v g h =>
    h.mono (fun _ h=>h) (fun _ _=>rfl) (fun _ _=>rfl) (fun b hb=>⟨by rw [hbx]; exact hb,rfl⟩) (fun z _ hz=>⟨hlv z hz,rfl⟩)
   split at hz
   ·rename_i he; subst he; cases hz
    simp only [if_true]
    rw [hv]
    exact lift _ _ _ (hi.cell _ _ hp)
   ·rename_i he
    split at hz
    ·rename_i he2; subst he2; cases hz
     simp only [if_neg he,if_true]
     exact ⟨rfl,fun _=>hv.symm⟩
    ·rename_i he2
     simp only [if_neg he,if_neg he2]
     exact lift _ _ _ (hi.cell z x hz)
  ·rw [hat'] at hz
   split at hz
   ·cases hz; simp [PC.names] at hn
   ·split at hz
    ·cases hz
     simp only [PC.names,Option.some.injEq] at hn
     subst hn
     obtain ⟨pv,h1,_⟩:=St.at_tmp hq
     exact hexs _ ⟨pv,h1⟩
    ·exact hexs _ (hi.nm z x z' hz hn)
  ·obtain ⟨y,h1,h2⟩:=hγ z g hg
   rcases h2 with ⟨rfl,rfl⟩ | ⟨h3,h4,rfl⟩
   ·exact ⟨e,xs,by rw [hat',if_pos rfl]⟩
   ·obtain ⟨e',ys,h5⟩:=hi.live _ g h1
    exact ⟨e',ys,by rw [hat',if_neg h3,if_neg h4]; exact h5⟩
  ·obtain ⟨y,h1,h2⟩:=hγ z g hg
   obtain ⟨y',h1',h2'⟩:=hγ z' g hg'
   have:=hi.inj y y' g h1 h1'
   subst this
   rcases h2 with ⟨rfl,h2⟩ | ⟨h3,h4,h5⟩ <;> rcases h2' with ⟨rfl,h2'⟩ | ⟨h3',h4',h5'⟩
   ·rfl
   ·exact absurd (h5'.symm.trans h2) h4'
   ·exact absurd (h5.symm.trans h2') h4
   ·rw [← h5,← h5']
  ·obtain ⟨y,h1,_⟩:=hγ z g hg
   rw [hbx] at hb
   exact hi.exb y g b h1 hb
  ·obtain ⟨h1,h2,h3⟩:=hi.sh g hg
   refine ⟨h1,fun z hz=>?_,by rw [hbx]; exact h3⟩
   obtain ⟨y,h4,_⟩:=hγ z g hz
   exact h2 y h4
 ·intro g hg
  rcases hg with ⟨z,hz⟩ | hb
  ·simp only at hz
   split at hz
   ·exact .inl ⟨_,hz⟩
   ·split at hz
    ·cases hz
    ·exact .inl ⟨_,hz⟩
  ·exact .inr hb
def isTmp:Place → Bool
 | .t _ _=>true
 | _=>false
/-- What another temporary owns and this one names is this one's from here on. -/
def St.give (st:St) (q:Place):St :=
 match st.at q with
 | some (.al p)=>match isTmp p,isTmp q,st.at p with
  | true,true,some (.own e xs)=>(st.setAt p (.al q)).setAt q (.own e xs)
  | _,_,_=>st
 | _=>st
theorem isTmp_eq {p:Place} (h:isTmp p = true):∃ t c,p = .t t c:=by cases p with | t t c=>exact ⟨t,c,rfl⟩ | b b c=>cases h
theorem Turns.give (q:Place):Turns P st (st.give q):=by
 unfold St.give
 split
 ·rename_i p hq
  split
  ·rename_i e xs h1 h2 hp
   intro a w r hi
   obtain ⟨r',k1,k2,k3,k5,k4⟩:=hi.swap hp hq (isTmp_eq h1) (isTmp_eq h2)
   have hbx:((st.setAt p (.al q)).setAt q (.own e xs)).bx.length = st.bx.length:=by rw [St.setAt_len,St.setAt_len]
   exact ⟨r',by rw [St.setAt_m,St.setAt_m],k1,rfl,rfl,rfl,Nat.le_refl _,fun _ _ _=>rfl,fun g hg=>k2 ▸ hg,fun g hg=>.inl (k2 ▸ hg),fun g hg=>.inl (k4 g (hbx ▸ hg)),fun b _=>by rw [k3],k5,fun _ _ h=>h⟩
  ·exact Turns.refl _
 ·exact Turns.refl _
def giveAll (d:Nat):Nat → Nat → St → St
 | 0,_,st=>st
 | n + 1,c,st=>giveAll d n (c + 1) (st.give (.t d c))
theorem Turns.giveAll (d:Nat):∀ (n c:Nat) (st:St),Turns P st (giveAll d n c st)
 | 0,_,st=>Turns.refl st
 | n + 1,c,st=>(Turns.give (.t d c)).trans (Turns.giveAll d n (c + 1) _)
/-! Loops. -/
theorem TriR.mono {c:Code} {Q:Exit → St → Prop}:∀ {k k':Nat} {st:St},k ≤ k' → TriR P c Q k st → TriR P c Q k' st
 | 0,_,_,_,h=>h.elim
 | k + 1,0,_,h,_=>by omega
 | k + 1,k' + 1,st,h,ht=>Tri.mono (fun e st' q=>by cases e <;> first | exact TriR.mono (by omega) q | exact q) ht
/-- A loop that a function with rounds tells. -/
theorem TriR.ind {α ρ:Type} {c:Code} {Q:Exit → St → Prop} {res:ρ} (F:Nat → α → Option ρ) (S:α → St) (hz:∀ x,F 0 x = none)
  (hs:∀ k x,F (k + 1) x = some res → (∀ k' y,k' ≤ k → F k' y = some res → TriR P c Q k (S y)) → Tri P c (Ex (TriR P c Q k) Q) (S x)):∀ (k:Nat) (x:α),F k x = some res → TriR P c Q k (S x):=by
 intro k
 induction k using Nat.strongRecOn with
 | _ k ih =>
  intro x hx
  cases k with
  | zero=>rw [hz] at hx; cases hx
  | succ k=>exact hs k x hx fun k' y hk hy=>TriR.mono hk (ih k' (by omega) y hy)
end
end Go.Proofs.YtoclajfeeebbbadGreatDoor.E
/- The engine, part SB: a struct built of parts. Plain lemmas; no program. -/
set_option linter.unusedVariables false
set_option linter.unusedSectionVars false
set_option linter.unusedSimpArgs false
namespace Go.Proofs.YtoclajfeeebbbadGreatDoor.E
open Go.RowKit
variable [LaidFacts]
def fillPC (places:List (Nat × Nat)):List PC → List (Nat × PV) → Option (List PC)
 | cs,[]=>some cs
 | cs,(i,pv) :: l=>match places[i]? with
  | some (off,s)=>match notTup pv.sh && Nat.beq pv.cs.length s && Nat.ble (off + s) cs.length with
   | true=>fillPC places (put3 cs off pv.cs) l
   | false=>none
  | none=>none
def usesP (st:St):List (Nat × Operand) → Option (List (Nat × PV))
 | []=>some []
 | (i,x) :: l=>match st.use x,usesP st l with
  | some pv,some ps=>some ((i,pv) :: ps)
  | _,_=>none
def placesP (P:Program):List Field → Option (List (Nat × Nat))
 | []=>some []
 | f :: l=>match P.size? f.type,placesP P l with
  | some s,some r=>some ((f.offset,s) :: r)
  | _,_=>none
section
variable {P:Program} {st:St} {a:Act} {w:World} {r:Rs}
theorem placesP_spec:∀ {fs:List Field} {pl:List (Nat × Nat)},placesP P fs = some pl → fs.mapM (fun f=>(P.info? f.type).map fun i=>(f.offset,i.size)) = some pl
 | [],pl,h=>by simp only [placesP,Option.some.injEq] at h; subst h; rfl
 | f :: l,pl,h=>by
  simp only [placesP] at h
  split at h
  ·rename_i s r' h1 h2
   simp only [Option.some.injEq] at h
   subst h
   obtain ⟨i,hi,rfl⟩:=Option.map_eq_some_iff.1 h1
   simp only [List.mapM_cons,hi,placesP_spec h2,Option.map_some,Option.bind_eq_bind,Option.bind_some,Option.pure_def]
  ·cases h
theorem fill_rep (hi:Inv P st a w r) {places:List (Nat × Nat)}:∀ {parts:List (Nat × Operand)} {ps:List (Nat × PV)} {cs0 cs:List PC} {cells0:Array Value},usesP st parts = some ps → fillPC places cs0 ps = some cs → cells0.size = cs0.length →
  (∀ v ∈ cells0,v.oneCell' = true) → (∀ (c:Nat) (x:PC),cs0[c]? = some x → RepC P w r st (alpha a w r) x (cells0.toList.getD c undef) none ∧ ∀ q,x.names = some q → st.ex q) →
  ∃ cells,Instr.fill (places[·]?) cells0 (parts.map fun x=>(x.1,a.eval x.2)) = some cells ∧ cells.size = cs.length ∧ (∀ v ∈ cells,v.oneCell' = true) ∧
   ∀ (c:Nat) (x:PC),cs[c]? = some x → RepC P w r st (alpha a w r) x (cells.toList.getD c undef) none ∧ ∀ q,x.names = some q → st.ex q
 | [],ps,cs0,cs,cells0,hu,hf,hsz,h1,hr=>by
  simp only [usesP,Option.some.injEq] at hu
  subst hu
  simp only [fillPC,Option.some.injEq] at hf
  subst hf
  exact ⟨cells0,rfl,hsz,h1,hr⟩
 | (i,x) :: l,ps,cs0,cs,cells0,hu,hf,hsz,h1,hr=>by
  simp only [usesP] at hu
  split at hu
  ·rename_i pv ps' hx hl
   simp only [Option.some.injEq] at hu
   subst hu
   simp only [fillPC] at hf
   split at hf
   ·rename_i off s hpl
    split at hf
    ·rename_i hc
     simp only [Bool.and_eq_true] at hc
     obtain ⟨⟨k1,k2⟩,k3⟩:=hc
     have k2:=Nat.eq_of_beq_eq_true k2
     have k3:=Nat.le_of_ble_eq_true k3
     obtain ⟨hfit,hcell⟩:=hi.use hx
     obtain ⟨f1,f2,f3,_⟩:=fits_flat hfit k1
     have hvs:(a.eval x).cells.size = s:=by rw [← k2,← f1]; simp
     let cells1:=(a.eval x).cells.zipIdx.foldl (fun cs (c,j)=>cs.setIfInBounds (off + j) c) cells0
     have hcl:cells1.toList = put3 cells0.toList off (a.eval x).cells.toList:=by
      have:=foldl_set off (a.eval x).cells.toList 0 cells0 (by simp only [Array.length_toList,hvs]; omega)
      rw [Nat.add_zero] at this
      rw [← this]
      simp only [cells1]
      congr 1
      rw [← Array.foldl_toList,Array.toList_zipIdx]
     have hlen1:cells1.size = (put3 cs0 off pv.cs).length:=by
      have e1:=congrArg List.length hcl
      rw [put3_length (by simp only [Array.length_toList,hvs]; omega)] at e1
      rw [put3_length (by omega)]
      simp only [Array.length_toList] at e1
      omega
     have hat:∀ c,cells1.toList[c]? = if off ≤ c ∧ c < off + s then (flat (a.eval x))[c - off]? else cells0.toList[c]?:=by
      intro c
      rw [hcl,put3_at (by simp only [Array.length_toList,hvs]; omega)]
      have hfl:(flat (a.eval x)).length = s:=by rw [← f2]; simpa using hvs
      simp only [f2,hfl]
     obtain ⟨cells,e1,e2,e3,e4⟩:=fill_rep hi hl hf hlen1 (fun v hv=>by
      obtain ⟨j,hj⟩:=List.getElem?_of_mem (show v ∈ cells1.toList by simpa using hv)
      rw [hat] at hj
      split at hj
      ·refine f3 v ?_
       have:=List.mem_of_getElem? hj
       rw [← f2] at this
       simpa using this
      ·exact h1 v (by simpa using List.mem_of_getElem? hj)) (fun c y hy=>by
      rw [put3_at (by omega)] at hy
      rw [List.getD_eq_getElem?_getD,hat c]
      rw [k2] at hy
      split at hy
      ·rename_i hin
       rw [if_pos hin]
       have:=hcell (c - off) y hy
       rw [List.getD_eq_getElem?_getD] at this
       exact this
      ·rename_i hin
       rw [if_neg hin]
       have:=hr c y hy
       rw [List.getD_eq_getElem?_getD] at this
       exact this)
     refine ⟨cells,?_,e2,e3,e4⟩
     simp only [List.map_cons,Instr.fill,hpl,hvs]
     have hno:¬ (off + s > cells0.size):=by omega
     have e5:(if (decide (s ≠ s) || decide (off + s > cells0.size)) = true then none else Instr.fill (fun x=>places[x]?) cells1 (List.map (fun x=>(x.fst,a.eval x.snd)) l)) = some cells:=by
      rw [if_neg (by simp [hno])]; exact e1
     exact e5
    ·cases hf
   ·cases hf
  ·cases hu
theorem Reads.build {o:Oper} {t:TypeId} {parts:Array (Nat × Operand)} {fields:Array Field} {z:List Value} {pl:List (Nat × Nat)} {ps:List (Nat × PV)} {cs:List PC} (ho:o.op = .build t parts) (ht:P.underlying t = some (.struct fields)) (hz:P.zero? t = some z)
  (h1:z.all (·.oneCell') = true) (hpl:placesP P fields.toList = some pl) (hu:usesP st parts.toList = some ps) (hf:fillPC pl (z.map zeroPC) ps = some cs):Reads P o st ⟨.agg,cs⟩:=fun a w r hi=>by
 obtain ⟨v,hv,hvc⟩:=Option.map_eq_some_iff.1 hz
 obtain ⟨i,hii,hiz⟩:=Option.bind_eq_some_iff.1 hv
 have hall:=List.all_eq_true.1 h1
 obtain ⟨cells,e1,e2,e3,e4⟩:=fill_rep hi (places:=pl) (cells0:=v.cells) hu hf (by rw [List.length_map,← hvc]; simp) (fun x hx=>hall x (by rw [← hvc]; simpa using hx)) (fun c x hx=>by
  rw [List.getElem?_map] at hx
  obtain ⟨u,hu',rfl⟩:=Option.map_eq_some_iff.1 hx
  have:=(zeroPC_rep (w:=w) (r:=r) (hall u (List.mem_of_getElem? hu'))).hasC (P:=P) (st:=st) (a:=a)
  rw [List.getD_eq_getElem?_getD,hvc,hu']
  exact ⟨this.1,this.2.2⟩)
 have hb:P.built t (parts.map fun x=>(x.1,a.eval x.2)).toList = some cells:=by
  unfold Program.built
  simp only [hii,ht,hiz,placesP_spec hpl]
  rw [Array.toList_map]
  simpa using e1
 refine ⟨.agg cells,?_,⟨cells,rfl,e2,e3⟩,fun c x hx=>?_⟩
 ·have:=run_build w t (parts.map fun x=>(x.1,a.eval x.2)) cells hb
  simp only [execOp,ho,Sem.run_bind]
  rw [show (parts.map fun x=>match x with | (i,x)=>(i,a.eval x)) = parts.map fun x=>(x.1,a.eval x.2) from rfl,this]
  rfl
 ·exact e4 c x hx
end
end Go.Proofs.YtoclajfeeebbbadGreatDoor.E
