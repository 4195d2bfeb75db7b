/- The engine, part K: rows that a place owns: grown, made, stored into. Plain lemmas; no program. -/
import Derived.Test.YtoclajfeeebbbadGreatDoorEng5
set_option linter.unusedVariables false
set_option linter.unusedSectionVars false
set_option linter.unusedSimpArgs false
namespace Go.Proofs.YtoclajfeeebbbadGreatDoor.E
open Go.RowKit
variable [LaidFacts]
section
variable {P:Program}
/-- An element type's count of cells and of bytes. -/
def _root_.Go.Program.elem? (P:Program) (e:TypeId):Option (Nat × Nat) :=
 match P.info? e with
 | some i=>match i.zero with
  | some z=>if z.cells.size = i.size then some (i.size,i.bytes) else none
  | none=>none
 | none=>none
theorem elem?_spec {e:TypeId} {s b:Nat} (h:P.elem? e = some (s,b)):∃ i z,P.info? e = some i ∧ i.zero = some z ∧ i.size = s ∧ i.bytes = b ∧ z.cells.size = s ∧ P.cellsOf e = s ∧ P.size? e = some s:=by
 unfold Program.elem? at h
 split at h
 ·rename_i i hi
  split at h
  ·rename_i z hz
   split at h
   ·rename_i hs
    simp only [Option.some.injEq,Prod.mk.injEq] at h
    exact ⟨i,z,hi,hz,h.1,h.2,hs.trans h.1,by simp [Program.cellsOf,hi,h.1],by simp [Program.size?,hi,h.1]⟩
   ·cases h
  ·cases h
 ·cases h
theorem append_spec (w:World) (t ty e:TypeId) {s by':Nat} (ht:P.underlying t = some (.slice e)) (he:P.elem? e = some (s,by')) (hs0:0 < s) {v:Value} {n:Nat} {xs:List Value} (hown:w.ownsH e s v n xs)
  (a:Addr) (m c:Nat) (news:List Value) (hl:news.length = m * s) (hnews:∀ (j:Nat) (u:Value),news[j]? = some u → w.cell? (a.add j) = some u) (h1:∀ u ∈ news,u.oneCell' = true) (h63:n + m ≤ maxLen) (hbytes:(n + m) * by' ≤ 140737488355328) :
  ∃ v' w',(Builtin.append_ #[t,t] ty #[v,.slice (some a) m c]).run P w = .ok v' w' ∧ w'.ownsH e s v' (n + m) (xs ++ news) ∧ w.grownBy w' v.ownBlock ∧ (∀ g,v'.ownBlock = some g → v.ownBlock = some g ∨ w.heap.size ≤ g) ∧ ∀ g T,bty w g = some T → bty w' g = some T:=by
 obtain ⟨i,z,hi,hz,hsize,hby,hzs,_,_⟩:=elem?_spec he
 rcases hown.2 with ⟨rfl,rfl⟩ | ⟨g,cap,cur,fz,rfl,hbg,hg,hnc,hcm,hcs,htake⟩
 ·have hx:xs = []:=List.eq_nil_of_length_eq_zero (by simpa using hown.1)
  subst hx
  obtain ⟨v',w',h2,h3,h4,_⟩:=run_append_own (P:=P) w w.heap.size t ty e i z s by' ht hi hz hsize hby hzs hs0 (.slice none 0 0) 0 [] (World.ownsRow_nil w _ e s) a m c news hl hnews h1 h63 hbytes (Nat.le_refl _)
  refine ⟨v',w',h2,⟨h3.1,?_⟩,h4,fun g hg=>.inr (h3.lt g hg).1,bty_old fun g hg=>h4.block g hg (by simp [Value.ownBlock])⟩
  rcases h3.2 with h5 | ⟨g,cap,cur,h5,h6,h7⟩
  ·exact .inl h5
  ·exact .inr ⟨g,cap,cur,(0,0),h5,.inl rfl,h7⟩
 ·by_cases hroom:n + m ≤ cap
  ·subst hsize
   have hlen:(xs ++ news).length = (n + m) * i.size:=by rw [List.length_append,hown.1,hl,Nat.add_mul]
   have hfit:n * i.size + news.length ≤ cur.size:=by rw [hl,hcs,← Nat.add_mul]; exact Nat.mul_le_mul_right _ hroom
   have hf:=run_firstCells_some (P:=P) w i.size m a m c news hl hnews
   have hst:=run_storeCells_atH P g (n * i.size) e fz news 0 cur w hg hbg (by simpa using hfit) h1
   simp only [Nat.add_zero] at hst
   have hr:(Builtin.append_ #[t,t] ty #[.slice (some ⟨g,0,none⟩) n cap,.slice (some a) m c]).run P w = .ok (.slice (some ⟨g,0,none⟩) (n + m) cap) (w.setRow g (cur.toList.take (n * i.size) ++ news ++ cur.toList.drop (n * i.size + news.length)).toArray):=by
    simp [Builtin.append_,run_underlying ht,sizeOf,typeInfo,hi,Builtin.lenOf,hroom,hf,Addr.add_lit,hst]
   have hsz:(cur.toList.take (n * i.size) ++ news ++ cur.toList.drop (n * i.size + news.length)).toArray.size = cur.size:=by
    simp only [List.size_toArray,List.length_append,List.length_take,List.length_drop,Array.length_toList]
    omega
   refine ⟨_,_,hr,⟨hlen,.inr ⟨g,cap,_,fz,rfl,by rw [hsz]; exact hbg,setRow_heap w g cur _ e _ hg,hroom,hcm,by rw [hsz]; exact hcs,?_⟩⟩,⟨rfl,rfl,rfl,by simp,fun k _ hk=>setRow_other w g k _ (fun e=>hk (by rw [e]; rfl))⟩,fun k hk=>.inl hk,bty_setRow⟩
   rw [htake,← hlen]
   exact List.take_left
  ·subst hsize
   subst hby
   have hsmall:((n + m:Nat):Int) ≤ 9223372036854775807:=by simp only [maxLen] at h63; omega
   have holds:∀ (j:Nat) (u:Value),xs[j]? = some u → w.cell? ((⟨g,0,none⟩:Addr).add j) = some u:=hown.cells (g:=g) rfl
   have hr:=run_append_grow (P:=P) w t ty e i z ht hi hz ⟨g,0,none⟩ n cap xs hown.1 holds a m c news hl hnews (by omega) hsmall (growslice_fits (by omega) hbytes)
   have hlen:(xs ++ news).length = (n + m) * i.size:=by rw [List.length_append,hown.1,hl,Nat.add_mul]
   have hge:=grownCap_ge w (n + m) cap e
   refine ⟨_,_,hr,⟨hlen,.inr ⟨w.heap.size,_,_,(0,0),rfl,.inl rfl,heap_alloc_new w.drew _,hge,grownCap_le_maxLen w (n + m) cap e h63,?_,?_⟩⟩,⟨rfl,rfl,rfl,by simp,fun k hk _=>heap_alloc_old w.drew _ k hk⟩,fun k hk=>?_,bty_old (w:=w) fun k hk=>heap_alloc_old w.drew _ k hk⟩
   ·simp only [Array.size_append,List.size_toArray,size_zeroCells,hzs,hown.1,hl,← Nat.add_mul]
    congr 1
    omega
   ·simp only [Array.toList_append,List.append_assoc]
    rw [← List.append_assoc,← hlen]
    exact List.take_left
   ·simp only [Value.ownBlock,Option.some.injEq] at hk
    exact .inr (by omega)
/-- A string's bytes, as cells. -/
def strVals (b:ByteArray):List Value:=b.data.toList.map fun x=>Value.int .u8 (x.toNat:Int)
def strRow (b:ByteArray):List (List PC):=b.data.toList.map fun x=>[PC.sc (.int .u8 (x.toNat:Int))]
theorem strVals_length (b:ByteArray):(strVals b).length = b.size:=by simp only [strVals,List.length_map,Array.length_toList]; rfl
theorem strRow_length (b:ByteArray):(strRow b).length = b.size:=by simp only [strRow,List.length_map,Array.length_toList]; rfl
theorem run_firstCells_str (w:World) (b:ByteArray) (size:Nat):(Builtin.firstCells size b.size (.string b)).run P w = .ok (strVals b).toArray w:=by
 have hx:(Array.map (fun b:UInt8=>Value.int IntKind.u8 (b.toNat:Int)) b.data).extract 0 b.size = Array.map (fun b:UInt8=>Value.int IntKind.u8 (b.toNat:Int)) b.data:=by
  have hs:b.size = (Array.map (fun b:UInt8=>Value.int IntKind.u8 (b.toNat:Int)) b.data).size:=by rw [Array.size_map]; rfl
  rw [hs,Array.extract_size]
 simp [Builtin.firstCells,hx]
 apply Array.ext'
 simp [strVals]
theorem append_specS (w:World) (t u ty e:TypeId) {by':Nat} (ht:P.underlying t = some (.slice e)) (hu:P.underlying u = some .string) (he:P.elem? e = some (1,by')) {v:Value} {n:Nat} {xs:List Value} (hown:w.ownsH e 1 v n xs)
  (b:ByteArray) (h63:n + b.size ≤ maxLen) (hbytes:(n + b.size) * by' ≤ 140737488355328) :
  ∃ v' w',(Builtin.append_ #[t,u] ty #[v,.string b]).run P w = .ok v' w' ∧ w'.ownsH e 1 v' (n + b.size) (xs ++ strVals b) ∧ w.grownBy w' v.ownBlock ∧ (∀ g,v'.ownBlock = some g → v.ownBlock = some g ∨ w.heap.size ≤ g) ∧ ∀ g T,bty w g = some T → bty w' g = some T:=by
 obtain ⟨i,z,hi,hz,hsize,hby,hzs,_,_⟩:=elem?_spec he
 have hf:=run_firstCells_str (P:=P) w b
 have h1:∀ u ∈ strVals b,u.oneCell' = true:=fun u hu=>by obtain ⟨x,_,rfl⟩:=List.mem_map.1 hu; rfl
 have hvl:=strVals_length b
 rcases hown.2 with ⟨rfl,rfl⟩ | ⟨g,cap,cur,fz,rfl,hbg,hg,hnc,hcm,hcs,htake⟩
 ·have hx:xs = []:=List.eq_nil_of_length_eq_zero (by simpa using hown.1)
  subst hx
  by_cases h0:b.size = 0
  ·have hs:strVals b = []:=List.eq_nil_of_length_eq_zero (by omega)
   refine ⟨.slice none 0 0,w,?_,by rw [h0,hs]; exact World.ownsH_nil w e 1,⟨rfl,rfl,rfl,Nat.le_refl _,fun _ _ _=>rfl⟩,(fun g hg=>by cases hg),fun _ _ h=>h⟩
   have hf':=hf 1
   rw [h0] at hf'
   simp [Builtin.append_,run_underlying ht,run_underlying hu,sizeOf,typeInfo,hi,Builtin.lenOf,h0,hsize,hf']
  ·have hr:=run_append_nil_string (P:=P) (w:=w) t u ty e i z ht hu hi hz b (by omega) (by simp only [maxLen] at h63; omega) (by rw [hby]; rw [Nat.zero_add] at hbytes; omega)
   have hge:=grownCap_ge w b.size 0 e
   refine ⟨_,_,hr,⟨by simp [hvl],.inr ⟨w.heap.size,_,_,(0,0),by rw [Nat.zero_add],.inl rfl,heap_alloc_new w.drew _,by omega,grownCap_le_maxLen w b.size 0 e (by omega),?_,?_⟩⟩,⟨rfl,rfl,rfl,by simp,fun k hk _=>heap_alloc_old w.drew _ k hk⟩,fun k hk=>?_,bty_old (w:=w) fun k hk=>heap_alloc_old w.drew _ k hk⟩
   ·simp only [Array.size_append,Array.size_map,size_zeroCells,hzs]
    have:b.data.size = b.size:=rfl
    omega
   ·have e1:(b.data.map (fun b=>Value.int .u8 (b.toNat:Int))).toList = strVals b:=by simp [strVals]
    rw [Array.toList_append,e1,List.nil_append,Nat.zero_add,Nat.mul_one,← hvl]
    exact List.take_left
   ·simp only [Value.ownBlock,Option.some.injEq] at hk
    exact .inr (by omega)
 ·by_cases hroom:n + b.size ≤ cap
  ·have hfit:n * i.size + (strVals b).length ≤ cur.size:=by rw [hvl,hcs,hsize]; omega
   have hst:=run_storeCells_atH P g (n * i.size) e fz (strVals b) 0 cur w hg hbg (by simpa using hfit) h1
   simp only [Nat.add_zero] at hst
   have hr:(Builtin.append_ #[t,u] ty #[.slice (some ⟨g,0,none⟩) n cap,.string b]).run P w = .ok (.slice (some ⟨g,0,none⟩) (n + b.size) cap) (w.setRow g (cur.toList.take (n * i.size) ++ strVals b ++ cur.toList.drop (n * i.size + (strVals b).length)).toArray):=by
    simp [Builtin.append_,run_underlying ht,run_underlying hu,sizeOf,typeInfo,hi,Builtin.lenOf,hroom,hf,Addr.add_lit,hst]
   have hlen:(xs ++ strVals b).length = (n + b.size) * 1:=by rw [List.length_append,hown.1,hvl]; omega
   have hsz:(cur.toList.take (n * i.size) ++ strVals b ++ cur.toList.drop (n * i.size + (strVals b).length)).toArray.size = cur.size:=by
    simp only [List.size_toArray,List.length_append,List.length_take,List.length_drop,Array.length_toList]
    omega
   refine ⟨_,_,hr,⟨hlen,.inr ⟨g,cap,_,fz,rfl,by rw [hsz]; exact hbg,setRow_heap w g cur _ e _ hg,hroom,hcm,by rw [hsz]; exact hcs,?_⟩⟩,⟨rfl,rfl,rfl,by simp,fun k _ hk=>setRow_other w g k _ (fun e=>hk (by rw [e]; rfl))⟩,fun k hk=>.inl hk,bty_setRow⟩
   ·rw [hsize,htake,← hlen]
    exact List.take_left
  ·have hsmall:((n + b.size:Nat):Int) ≤ 9223372036854775807:=by simp only [maxLen] at h63; omega
   have holds:∀ (j:Nat) (u:Value),xs[j]? = some u → w.cell? ((⟨g,0,none⟩:Addr).add j) = some u:=hown.cells (g:=g) rfl
   have hn:¬ (n + b.size ≤ cap):=hroom
   have h63':¬ (9223372036854775807 < ((n:Int) + (b.size:Int))):=by omega
   have h48':¬ (281474976710656 < Builtin.nextslicecap (n + b.size) cap * i.bytes):=by
    have:=growslice_fits (need:=n + b.size) (old:=cap) (bytes:=i.bytes) (by omega) (by rw [hby]; exact hbytes)
    omega
   have hfo:=run_firstCells_some (P:=P) w.drew i.size n ⟨g,0,none⟩ n cap xs (by rw [hown.1,hsize]) (by simpa using holds)
   have hfs:=run_firstCells_str (P:=P) w.drew b
   have hr:(Builtin.append_ #[t,u] ty #[.slice (some ⟨g,0,none⟩) n cap,.string b]).run P w = .ok (.slice (some ⟨w.heap.size,0,none⟩) (n + b.size) (grownCap w (n + b.size) cap e))
     (w.drew.alloc (.cells (xs.toArray ++ (strVals b).toArray ++ Builtin.zeroCells z.cells (grownCap w (n + b.size) cap e - (n + b.size))) e)):=by
    simp [Builtin.append_,run_underlying ht,run_underlying hu,sizeOf,typeInfo,zeroValue,hi,hz,Builtin.lenOf,hn,h63',h48',Question.forced,hfs,hfo,newRow,grownCap]
    congr 2
    apply Array.ext'
    simp [List.append_assoc]
   have hlen:(xs ++ strVals b).length = (n + b.size) * 1:=by rw [List.length_append,hown.1,hvl]; omega
   have hge:=grownCap_ge w (n + b.size) cap e
   refine ⟨_,_,hr,⟨hlen,.inr ⟨w.heap.size,_,_,(0,0),rfl,.inl rfl,heap_alloc_new w.drew _,hge,grownCap_le_maxLen w (n + b.size) cap e h63,?_,?_⟩⟩,⟨rfl,rfl,rfl,by simp,fun k hk _=>heap_alloc_old w.drew _ k hk⟩,fun k hk=>?_,bty_old (w:=w) fun k hk=>heap_alloc_old w.drew _ k hk⟩
   ·simp only [Array.size_append,List.size_toArray,size_zeroCells,hzs,hown.1,hvl]
    omega
   ·simp only [Array.toList_append,List.append_assoc]
    rw [← List.append_assoc,← hlen]
    exact List.take_left
   ·simp only [Value.ownBlock,Option.some.injEq] at hk
    exact .inr (by omega)
variable {st:St} {a:Act} {w:World} {r:Rs}
theorem flatten_length {α:Type} {s:Nat}:∀ {xs:List (List α)},(∀ e ∈ xs,e.length = s) → xs.flatten.length = xs.length * s
 | [],_=>by simp
 | y :: ys,h=>by
  have:=flatten_length (xs:=ys) fun e he=>h e (List.mem_cons_of_mem _ he)
  have hy:=h y (List.mem_cons_self ..)
  simp only [List.flatten_cons,List.length_append,this,hy,List.length_cons,Nat.add_mul]
  omega
theorem flatten_split {α:Type} {s:Nat} (hs:0 < s) {xs:List (List α)} (hz:∀ e ∈ xs,e.length = s) {k:Nat} {x:α} (h:xs.flatten[k]? = some x):∃ e,xs[k / s]? = some e ∧ e[k % s]? = some x:=by
 have hlt:k < xs.length * s:=by rw [← flatten_length hz]; exact (List.getElem?_eq_some_iff.1 h).1
 have hi:k / s < xs.length:=(Nat.div_lt_iff_lt_mul hs).2 hlt
 have hj:k % s < xs[k / s].length:=by rw [hz _ (List.getElem_mem hi)]; exact Nat.mod_lt _ hs
 have h2:=flatten_at hz (List.getElem?_eq_getElem hi) (List.getElem?_eq_getElem hj)
 rw [show k / s * s + k % s = k by rw [Nat.mul_comm]; exact Nat.div_add_mod k s] at h2
 refine ⟨_,List.getElem?_eq_getElem hi,?_⟩
 rw [List.getElem?_eq_getElem hj]
 rw [h] at h2
 exact h2.symm
/-- A row that reads, as the values of its cells. -/
theorem RowRep.news {Sh:Nat → Prop} {s:Nat} {xs:List (List PC)} {v:Value} (hs:0 < s) (h:RowRep w Sh s xs v) (hne:xs ≠ []) :
  ∃ ad c,∃ news:List Value,v = .slice (some ad) xs.length c ∧ news.length = xs.length * s ∧ (∀ el ∈ xs,el.length = s) ∧ (∀ (j:Nat) (u:Value),news[j]? = some u → w.cell? (ad.add j) = some u) ∧ (∀ u ∈ news,u.oneCell' = true) ∧
   ∀ (i:Nat) (x:PC),xs.flatten[i]? = some x → ∃ u,news[i]? = some u ∧ RepS w Sh x u:=by
 obtain ⟨b,c,hv,hc,hb⟩:=h
 obtain ⟨k,off,rfl,hz,hcell⟩:=hb hne
 have hget:∀ j,j < xs.length * s → ∃ u x,w.cell? ⟨k,off + j,none⟩ = some u ∧ xs.flatten[j]? = some x ∧ RepS w Sh x u:=by
  intro j hj
  have hlt:j < xs.flatten.length:=by rw [flatten_length hz]; exact hj
  obtain ⟨e,he,hx⟩:=flatten_split hs hz (List.getElem?_eq_getElem hlt)
  obtain ⟨u,hu,hr⟩:=hcell _ _ e _ he hx
  refine ⟨u,_,?_,List.getElem?_eq_getElem hlt,hr⟩
  rw [← hu]; congr 2
  rw [Nat.add_assoc,Nat.mul_comm (j / s),Nat.div_add_mod]
 refine ⟨⟨k,off,none⟩,c,(List.range (xs.length * s)).map fun j=>(w.cell? ⟨k,off + j,none⟩).getD undef,hv,by simp,hz,fun j u hj=>?_,fun u hu=>?_,fun i x hx=>?_⟩
 ·by_cases hlt:j < xs.length * s
  ·rw [List.getElem?_map,List.getElem?_eq_getElem (by simpa using hlt)] at hj
   simp only [List.getElem_range,Option.map_some,Option.some.injEq] at hj
   subst hj
   obtain ⟨u,x,hu,_⟩:=hget j hlt
   rw [add_mk,hu]; rfl
  ·rw [List.getElem?_eq_none (by simpa using hlt)] at hj; cases hj
 ·simp only [List.mem_map,List.mem_range] at hu
  obtain ⟨j,hj,rfl⟩:=hu
  obtain ⟨u,x,hu,_,hr⟩:=hget j hj
  rw [hu]; exact hr.one
 ·have hlt:i < xs.length * s:=by rw [← flatten_length hz]; exact (List.getElem?_eq_some_iff.1 hx).1
  obtain ⟨u,x',hu,hx',hr⟩:=hget i hlt
  rw [hx] at hx'; cases hx'
  exact ⟨u,by simp [hlt,hu],hr⟩
/-- Behind an append: the row it has read and the row it had. -/
theorem RepOwn.grown {Sh:Nat → Prop} {w':World} {e:TypeId} {xs ys:List (List PC)} {vals news:List Value} {v':Value} {s:Nat} (hs:P.cellsOf e = s) (hx:∀ el ∈ xs,el.length = s) (hy:∀ el ∈ ys,el.length = s) (hvl:vals.length = xs.length * s)
  (ho:w'.ownsH e s v' (xs.length + ys.length) (vals ++ news)) (hw:∀ k,Sh k → w'.heap[k]? = w.heap[k]?)
  (hr:∀ (i:Nat) (x:PC),xs.flatten[i]? = some x → ∃ u,vals[i]? = some u ∧ RepS w Sh x u) (hn:∀ (i:Nat) (x:PC),ys.flatten[i]? = some x → ∃ u,news[i]? = some u ∧ RepS w Sh x u) :
  RepOwn P w' Sh e (xs ++ ys) v' v'.ownBlock:=by
 refine ⟨vals ++ news,by rw [hs,List.length_append]; exact ho,rfl,fun el hel=>?_,fun i x hi=>?_⟩
 ·rw [hs]
  rcases List.mem_append.1 hel with h | h
  ·exact hx el h
  ·exact hy el h
 ·rw [List.flatten_append,List.getElem?_append] at hi
  split at hi
  ·rename_i hlt
   obtain ⟨u,hu,hru⟩:=hr i x hi
   exact ⟨u,by rw [List.getElem?_append_left (List.getElem?_eq_some_iff.1 hu).1]; exact hu,hru.mono (fun _ h=>h) hw⟩
  ·rename_i hge
   obtain ⟨u,hu,hru⟩:=hn _ x hi
   have hfl:=flatten_length hx
   exact ⟨u,by rw [List.getElem?_append_right (by omega),hvl,← hfl]; exact hu,hru.mono (fun _ h=>h) hw⟩
/-- The row is owned by a place, or is nil. -/
def St.ownedAt (st:St) (e:TypeId) (c:PC):Option (Option Place × List (List PC)) :=
 match c with
 | .nl=>some (none,[])
 | .al p=>match st.at p with
  | some (.own e' xs)=>if e' = e then some (some p,xs) else none
  | some .nl=>some (none,[])
  | _=>none
 | _=>none
def St.killed (st:St):Option Place → St
 | some p=>st.setAt p .dead
 | none=>st
theorem OpE.append {o:Oper} {d:Nat} {x y:Operand} {t t' e:TypeId} {c c':PC} {s by':Nat} {q:Option Place} {xs ys:List (List PC)} (ho:o.op = .call { callee:=.builtin .append,args:=#[x,y],argTypes:=#[t,t'] }) (hod:o.dst = some d) (hd:st.okd d)
  (ht:P.underlying t = some (.slice e)) (he:P.elem? e = some (s,by')) (hs0:0 < s) (hx:st.use x = some ⟨.one,[c]⟩) (hq:st.ownedAt e c = some (q,xs)) (hy:st.use y = some ⟨.one,[c']⟩) (hr:(t = t' ∧ (St.row P st 4 c' = some (s,ys) ∨ (∃ s',St.row P st 4 c' = some (s',ys) ∧ ys = []))) ∨ (P.underlying t' = some .string ∧ s = 1 ∧ ∃ b,c' = .sc (.string b) ∧ ys = strRow b))
  (hlen:xs.length + ys.length ≤ 9223372036854775807) (hby:(xs.length + ys.length) * by' ≤ 140737488355328) :
  OpE P o st ((st.killed q).assign d ⟨.one,[.own e (xs ++ ys)]⟩):=by
 intro a w r hi K Q hK
 obtain ⟨i,z,hi',hz,hsize,hbytes,hzs,hcs,hsz⟩:=elem?_spec he
 obtain ⟨hx1,hxc,hxn⟩:=(hi.use hx).out
 obtain ⟨hy1,hyc,hyn⟩:=(hi.use hy).out
 clear hxn hyn hy1 hx1
 -- what the first row is
 have hown:∃ vals:List Value,w.ownsH e s (a.eval x) xs.length vals ∧ (∀ el ∈ xs,el.length = s) ∧ (∀ (i:Nat) (x:PC),xs.flatten[i]? = some x → ∃ u,vals[i]? = some u ∧ RepS w r.Sh x u) ∧
   (∀ p,q = some p → r.γ p = (a.eval x).ownBlock ∧ ∃ y,st.at p = some y) ∧ (q = none → (a.eval x).ownBlock = none):=by
  cases c <;> simp only [St.ownedAt] at hq <;> try (cases hq; done)
  case nl =>
   simp only [Option.some.injEq,Prod.mk.injEq] at hq
   obtain ⟨rfl,rfl⟩:=hq
   have hv:a.eval x = .slice none 0 0:=by
    obtain ⟨_,hxc⟩:=hxc
    generalize a.eval x = v at hxc
    cases hxc with | s h=>cases h; rfl
   rw [hv]
   exact ⟨[],World.ownsH_nil w e s,by simp,fun i x h=>by simp at h,(fun _ h=>nomatch h),(fun _=>rfl)⟩
  case al p =>
   generalize hpe:st.at p = spy at hq
   split at hq
   ·rename_i e' xs'
    have hp:=hpe
    split at hq
    ·rename_i ee; subst ee
     simp only [Option.some.injEq,Prod.mk.injEq] at hq
     obtain ⟨rfl,rfl⟩:=hq
     have hv:=hxc.2 ⟨_,hp,by simp⟩
     have hc:=hi.cell p _ hp
     simp only [RepC] at hc
     obtain ⟨vals,h1,h2,h3,h4⟩:=hc
     rw [hcs] at h1 h3
     rw [hv]
     exact ⟨vals,h1,h3,h4,(fun _ h=>by cases h; exact ⟨h2.symm,_,hp⟩),(fun h=>nomatch h)⟩
    ·cases hq
   ·have hp:=hpe
    simp only [Option.some.injEq,Prod.mk.injEq] at hq
    obtain ⟨rfl,rfl⟩:=hq
    have hv:=hxc.2 ⟨_,hp,by simp⟩
    have hc:=hi.cell p _ hp
    have hv':alpha a w r p = .slice none 0 0:=by
     obtain ⟨_,hc⟩:=hc
     generalize alpha a w r p = v at hc
     cases hc with | s h=>cases h; rfl
    rw [hv,hv']
    exact ⟨[],World.ownsH_nil w e s,by simp,fun i x h=>by simp at h,(fun _ h=>nomatch h),(fun _=>rfl)⟩
   ·cases hq
 obtain ⟨vals,hown,hxl,hxr,hγs,hγn⟩:=hown
 have hvl:vals.length = xs.length * s:=hown.1
 -- what the append leaves
 have hrun:∃ v' w',(Builtin.append_ #[t,t'] o.type #[a.eval x,a.eval y]).run P w = .ok v' w' ∧ RepOwn P w' r.Sh e (xs ++ ys) v' v'.ownBlock ∧ w.grownBy w' (a.eval x).ownBlock ∧ (∀ g,v'.ownBlock = some g → (a.eval x).ownBlock = some g ∨ w.heap.size ≤ g) ∧ ∀ g T,bty w g = some T → bty w' g = some T:=by
  have hSh:∀ {w':World},w.grownBy w' (a.eval x).ownBlock → ∀ k,r.Sh k → w'.heap[k]? = w.heap[k]?:=by
   intro w' hg k hk
   refine hg.block k (hi.sh k hk).1 fun e'=>?_
   cases q with
   | some p=>exact (hi.sh k hk).2.1 p ((hγs p rfl).1.trans e'.symm)
   | none=>rw [hγn rfl] at e'; cases e'
  rcases hr with ⟨rfl,hr⟩ | ⟨hu,rfl,b,rfl,rfl⟩
  rotate_left
  ·have hv:a.eval y = .string b:=by
    obtain ⟨_,hyc⟩:=hyc
    generalize a.eval y = v at hyc
    cases hyc with | s h=>cases h; rfl
   rw [strRow_length] at hlen hby
   obtain ⟨v',w',h1,h2,h3,h4⟩:=append_specS (P:=P) w t t' o.type e ht hu he hown b (by simp only [maxLen]; omega) hby
   rw [← hv] at h1
   refine ⟨v',w',h1,RepOwn.grown hcs hxl (fun el hel=>by obtain ⟨x,_,rfl⟩:=List.mem_map.1 hel; rfl) hvl (by rw [strRow_length]; exact h2) (hSh h3) hxr (fun i x hx=>?_),h3,h4⟩
   have hfl:∀ l:List UInt8,(l.map fun x=>[PC.sc (.int .u8 (x.toNat:Int))]).flatten = l.map fun x=>PC.sc (.int .u8 (x.toNat:Int)):=fun l=>by
    induction l with
    | nil=>rfl
    | cons y l ih=>simp [ih]
   unfold strRow at hx
   rw [hfl,List.getElem?_map] at hx
   obtain ⟨y,hy,rfl⟩:=Option.map_eq_some_iff.1 hx
   exact ⟨_,by unfold strVals; rw [List.getElem?_map,hy]; rfl,.sc rfl⟩
  by_cases hne:ys = []
  ·subst hne
   obtain ⟨s',b,cp,hv,_⟩:∃ s' b cp,a.eval y = .slice b 0 cp ∧ True:=by
    rcases hr with hr | ⟨s',hr,_⟩
    ·obtain ⟨b,cp,h,_⟩:=hi.row 4 hyc hr; exact ⟨s,b,cp,h,trivial⟩
    ·obtain ⟨b,cp,h,_⟩:=hi.row 4 hyc hr; exact ⟨s',b,cp,h,trivial⟩
   have hr':(Builtin.append_ #[t,t] o.type #[a.eval x,a.eval y]).run P w = .ok (a.eval x) w:=by
    rw [hv]
    rcases hown.2 with ⟨h1,h2⟩ | ⟨g,cap,cur,fz,h1,_,_,hnc,_⟩
    ·rw [h1]; cases b <;> simp [Builtin.append_,run_underlying ht,sizeOf,typeInfo,hi',Builtin.lenOf,Builtin.firstCells,loadCells,loadCellsFrom]
    ·rw [h1]; cases b <;> simp [Builtin.append_,run_underlying ht,sizeOf,typeInfo,hi',Builtin.lenOf,Builtin.firstCells,loadCells,loadCellsFrom,hnc,storeCells]
   refine ⟨_,w,hr',?_,⟨rfl,rfl,rfl,Nat.le_refl _,fun _ _ _=>rfl⟩,fun g hg=>.inl hg,fun _ _ h=>h⟩
   have:=RepOwn.grown (P:=P) (w:=w) (w':=w) (Sh:=r.Sh) (e:=e) (ys:=[]) (news:=[]) (v':=a.eval x) hcs hxl (by simp) hvl (by simpa using hown) (fun _ _=>rfl) hxr (fun i x h=>by simp at h)
   simpa using this
  ·have hrow:RowRep w r.Sh s ys (a.eval y):=by
    rcases hr with hr | ⟨s',_,h⟩
    ·exact hi.row 4 hyc hr
    ·exact absurd h hne
   obtain ⟨ad,cp,news,hv,hnl,hyl,hncell,hn1,hnr⟩:=hrow.news hs0 hne
   obtain ⟨v',w',h1,h2,h3,h4⟩:=append_spec (P:=P) w t o.type e ht he hs0 hown ad ys.length cp news hnl hncell hn1 (by simp only [maxLen]; omega) hby
   rw [← hv] at h1
   exact ⟨v',w',h1,RepOwn.grown hcs hxl hyl hvl h2 (hSh h3) hxr hnr,h3,h4⟩
 obtain ⟨v',w',hrun,hrep,hgrow,hblk,hty'⟩:=hrun
 unfold Oper.wp
 have hex:(execOp a.eval o).run P w = .ok (.value v') w':=by
  simp only [execOp,ho,resolve,invoke,builtin,Sem.run_bind,Sem.run_pure,Result.andThen_ok,List.map_toArray,List.map_cons,List.map_nil,hrun]
 rw [hex,Oper.upon_value,hod]
 rw [hod] at hK
 have h1:v'.oneCell' = true:=by
  obtain ⟨vs,hvs,_⟩:=hrep
  rcases hvs.2 with ⟨rfl,_⟩ | ⟨_,_,_,_,rfl,_⟩ <;> rfl
 -- the frame without the place
 have key:∀ (stk:St) (rk:Rs),Inv P stk a w rk → rk.Sh = r.Sh → rk.β = r.β → stk.n = st.n → stk.m = st.m → stk.fx = st.fx → rk.κ = r.κ → stk.bx.length = st.bx.length → (∀ p g,rk.γ p = some g → r.γ p = some g ∧ (a.eval x).ownBlock ≠ some g) →
   Inv P (stk.assign d ⟨.one,[.own e (xs ++ ys)]⟩) (a.put (some d) v') w' ((rk.dropT d).setT d fun c=>if c = 0 then v'.ownBlock else none) ∧
   Step st.bx.length w r st.bx.length w' ((rk.dropT d).setT d fun c=>if c = 0 then v'.ownBlock else none) st.bx.length:=by
  intro stk rk hk hSh hβ hn hm hfx hκ hlen' hγk
  have hnotown:∀ g,(a.eval x).ownBlock = some g → ¬ rk.Sh g ∧ ¬ rk.X stk.bx.length g:=by
   intro g hg
   have hγg:∃ p,r.γ p = some g:=by
    cases q with
    | some p=>exact ⟨p,(hγs p rfl).1.trans hg⟩
    | none=>rw [hγn rfl] at hg; cases hg
   obtain ⟨p,hp⟩:=hγg
   refine ⟨fun hs=>(hi.sh g (hSh ▸ hs)).2.1 p hp,fun hx=>?_⟩
   rcases hx with ⟨p',hp'⟩ | ⟨b,hb,hbe⟩
   ·exact (hγk p' g hp').2 hg
   ·rw [hβ] at hbe; exact hi.exb p g b hp (by omega) hbe
  have hw:Inv P stk a w' rk:=hk.world (fun g hg=>hgrow.block g (by rcases hg with h | h; exact (hk.sh g h).1; exact hk.X_lt h) (fun e'=>by
   have:=hnotown g e'.symm
   rcases hg with h | h
   ·exact this.1 h
   ·exact this.2 h)) hgrow.size hty'
  refine ⟨hw.assign ⟨by rw [hn]; exact hd.1,by rw [hfx]; exact hd.2⟩ ⟨rfl,h1⟩ (fun c x hx=>?_) (fun c x q hx hn=>?_) (fun c g hg=>?_) (fun c c' g hg hg'=>?_),?_⟩
  ·cases c with
   | zero =>
    simp only [List.getElem?_cons_zero,Option.some.injEq] at hx
    subst hx
    refine ⟨fun q hq=>by simp [PC.names] at hq,?_⟩
    rw [flat_one h1]
    simp only [RepC,if_true]
    rw [hSh]
    exact hrep
   | succ c=>simp at hx
  ·cases c with
   | zero=>simp only [List.getElem?_cons_zero,Option.some.injEq] at hx; subst hx; simp [PC.names] at hn
   | succ c=>simp at hx
  ·split at hg
   ·rename_i e0; subst e0
    refine ⟨⟨e,_,rfl⟩,?_⟩
    have hX:∀ g,(rk.dropT d).X stk.bx.length g → rk.X stk.bx.length g:=fun g hx=>by
     rcases hx with ⟨p,hp⟩ | hb
     ·simp only [Rs.dropT] at hp
      split at hp
      ·cases hp
      ·exact .inl ⟨p,hp⟩
     ·exact .inr hb
    rcases hblk g hg with h2 | h2
    ·exact ⟨(hnotown g h2).1,fun hx=>(hnotown g h2).2 (hX g hx)⟩
    ·exact ⟨fun hs=>by have:=(hk.sh g hs).1; omega,fun hx=>by have:=hk.X_lt (hX g hx); omega⟩
   ·cases hg
  ·split at hg <;> split at hg' <;> first | omega | (cases hg; done) | (cases hg'; done)
  ·have hXown:∀ g,(a.eval x).ownBlock = some g → r.X st.bx.length g:=fun g hg=>by
    cases q with
    | some p=>exact .inl ⟨p,(hγs p rfl).1.trans hg⟩
    | none=>rw [hγn rfl] at hg; cases hg
   refine ⟨hgrow.os,hgrow.tape,hgrow.output,hgrow.size,fun g hg hx=>hgrow.block g hg (fun e'=>hx (hXown g e'.symm)),fun g hg=>hSh ▸ hg,fun g hg=>.inl (hSh ▸ hg),fun g hg=>?_,fun b _=>by show rk.β b = r.β b; rw [hβ],hκ,hty'⟩
   rcases hg with ⟨p,hp⟩ | ⟨b,hb,hbe⟩
   ·cases p with
    | t k c =>
     simp only [Rs.setT,Rs.dropT] at hp
     split at hp
     ·split at hp
      ·rcases hblk g hp with h2 | h2
       ·exact .inl (hXown g h2)
       ·exact .inr h2
      ·cases hp
     ·split at hp
      ·cases hp
      ·exact .inl (.inl ⟨_,(hγk _ g hp).1⟩)
    | b b c =>
     simp only [Rs.setT,Rs.dropT,Place.isT] at hp
     exact .inl (.inl ⟨_,(hγk _ g (by simpa using hp)).1⟩)
   ·have:rk.β b = g:=hbe
    rw [hβ] at this
    exact .inl (.inr ⟨b,hb,this⟩)
 cases q with
 | none =>
  obtain ⟨h2,h3⟩:=key st r hi rfl rfl rfl rfl rfl rfl rfl (fun p g hp=>⟨hp,by rw [hγn rfl]; simp⟩)
  exact hK v' w' _ (by rw [St.assign_m]; rfl) h2 (by rw [St.assign_bx]; exact h3)
 | some p =>
  obtain ⟨hγ1,y',hpy⟩:=hγs p rfl
  obtain ⟨h2,h3⟩:=key (st.setAt p .dead) (r.clr p false) (hi.kill hpy) (by funext g; simp [Rs.clr]) rfl St.setAt_n St.setAt_m St.setAt_fx rfl St.setAt_len (fun p' g hp'=>by
   simp only [Rs.clr] at hp'
   split at hp'
   ·cases hp'
   ·rename_i hne
    refine ⟨hp',fun hg=>hne ?_⟩
    exact hi.inj p' p g hp' (hγ1.trans hg))
  exact hK v' w' _ (by rw [St.assign_m]; exact St.setAt_m) h2 (by rw [St.assign_bx]; simp only [St.killed,St.setAt_len]; exact h3)
theorem OpOK.append {o:Oper} {d:Nat} {x y:Operand} {t t' e:TypeId} {c c':PC} {s by':Nat} {q:Option Place} {xs ys:List (List PC)} (ho:o.op = .call { callee:=.builtin .append,args:=#[x,y],argTypes:=#[t,t'] }) (hod:o.dst = some d) (hd:st.okd d)
  (ht:P.underlying t = some (.slice e)) (he:P.elem? e = some (s,by')) (hs0:0 < s) (hx:st.use x = some ⟨.one,[c]⟩) (hq:st.ownedAt e c = some (q,xs)) (hy:st.use y = some ⟨.one,[c']⟩) (hr:(t = t' ∧ (St.row P st 4 c' = some (s,ys) ∨ (∃ s',St.row P st 4 c' = some (s',ys) ∧ ys = []))) ∨ (P.underlying t' = some .string ∧ s = 1 ∧ ∃ b,c' = .sc (.string b) ∧ ys = strRow b))
  (hlen:xs.length + ys.length ≤ 9223372036854775807) (hby:(xs.length + ys.length) * by' ≤ 140737488355328) :
  OpOK P o st ((st.killed q).assign d ⟨.one,[.own e (xs ++ ys)]⟩):=(OpE.append ho hod hd ht he hs0 hx hq hy hr hlen hby).ok
end
end Go.Proofs.YtoclajfeeebbbadGreatDoor.E
/- The engine, part L: functions' contracts, bodies, calls. Plain lemmas; no program. -/
set_option linter.unusedVariables false
set_option linter.unusedSectionVars false
set_option linter.unusedSimpArgs false
namespace Go.Proofs.YtoclajfeeebbbadGreatDoor.E
open Go.RowKit
variable [LaidFacts]
section
variable {P:Program}
def enum:Nat → List PV → List (Nat × PV)
 | _,[]=>[]
 | k,x :: l=>(k,x) :: enum (k + 1) l
theorem look_enum:∀ (l:List PV) (k t:Nat),look (enum k l) t = if k ≤ t then l[t - k]? else none
 | [],k,t=>by simp [enum,look]
 | x :: l,k,t=>by
  simp only [enum,look,look_enum l (k + 1) t]
  by_cases h:k = t
  ·subst h; simp
  ·rw [if_neg h]
   by_cases h2:k ≤ t
   ·rw [if_pos (by omega),if_pos h2,show t - k = (t - (k + 1)) + 1 by omega,List.getElem?_cons_succ]
   ·rw [if_neg (by omega),if_neg h2]
/-- WHAT A FUNCTION DOES: from these arguments, with these boxes, it comes to this result, and leaves the boxes so. -/
def Fn (P:Program) (f:FuncId) (args:List PV) (bx:List (List PC)) (res:PV) (bx':List (List PC)):Prop :=
 ∀ (vals:Array Value) (w:World) (r:Rs),Inv P ⟨args.length,enum 0 args,bx,bx.length,[]⟩ ⟨vals,[]⟩ w r →
  Calls P f vals w fun e w'=>∃ v r',e = .returned v ∧ Inv P ⟨1,[(0,res)],bx',0,[]⟩ ⟨#[v],[]⟩ w' r' ∧ Step bx.length w r bx.length w' r' bx'.length
/-- A cell that may leave the frame: it names no place of it, and no box from n on. -/
def PC.free (n:Nat):PC → Bool
 | .al _ | .vw .. | .el ..=>false
 | .ref b _=>decide (b < n)
 | .opt _ _ b _=>decide (b < n)
 | .fn _ caps=>caps.all fun x=>match x with
  | .ref b _=>decide (b < n)
  | .fn .. | .opt .. | .al _ | .vw .. | .el .. | .own .. | .dead=>false
  | _=>true
 | _=>true
theorem RepF.free {w:World} {Sh:Nat → Prop} {β:Nat → Nat} {nb n:Nat} {x:PC} {v:Value} (h:RepF w Sh β nb x v) (hf:x.free n = true):RepF w Sh β n x v:=by
 cases h with
 | s h=>exact .s h
 | ref h=>exact .ref (by simpa [PC.free] using hf)
 | opt h ht=>exact .opt (by simpa [PC.free] using hf) ht
 | fn hn hr =>
  refine .fn hn fun j y u hj hu=>?_
  have hy:=List.all_eq_true.1 hf y (List.mem_of_getElem? hj)
  have:=hr j y u hj hu
  cases this with
  | s h=>exact .s h
  | ref h=>exact .ref (by simpa using hy)
  | opt _ _=>simp at hy
  | fn _ _=>simp at hy
theorem RepC.free {w:World} {r r':Rs} {st st':St} {al al':Place → Value} {x:PC} {v:Value} {g:Option Nat} (h:RepC P w r st al x v g) (hf:x.free st'.bx.length = true) (hS:∀ k,r.Sh k → r'.Sh k) (hβ:∀ b,b < st'.bx.length → r'.β b = r.β b):RepC P w r' st' al' x v g:=by
 cases x <;> try (simp only [PC.free] at hf; cases hf; done)
 case own e xs=>exact RepOwn.mono hS (fun _ _=>rfl) (fun _ _=>rfl) h
 case dead=>exact h
 all_goals exact ⟨h.1,(h.2.free hf).mono hS (fun _ _=>rfl) (fun b hb=>⟨hb,hβ b hb⟩)⟩
/-- The results, out of the temporaries. -/
def gather (st:St):List Nat → Option (List (Option Nat) × List PC)
 | []=>some ([],[])
 | t :: l=>match st.get t,gather st l with
  | some ⟨.one,cs⟩,some (sh,ds)=>some (none :: sh,cs ++ ds)
  | some ⟨.agg,cs⟩,some (sh,ds)=>some (some cs.length :: sh,cs ++ ds)
  | _,_=>none
def resultsOf (st:St):List Nat → Option PV
 | [t]=>st.get t
 | l=>(gather st l).map fun x=>⟨.tup x.1,x.2⟩
/-- Where each cell of the results stands. -/
def placesOf (st:St):List Nat → List Place
 | []=>[]
 | t :: l=>(match st.get t with | some pv=>(List.range pv.cs.length).map (Place.t t) | none=>[]) ++ placesOf st l
def resV (tmps:Array Value):List Nat → Value
 | [t]=>tmps.getD t undef
 | l=>.tuple (l.map fun t=>tmps.getD t undef).toArray
theorem run_results {fn:Func} {ts:List Nat} (h:fn.results = (ts.map ResultVar.tmp).toArray) (hl:ts.length ≤ 4) (tmps:Array Value) (w:World):(results fn tmps).run P w = .ok (resV tmps ts) w:=by
 match ts,hl with
 | [],_=>simp [results,h,resV]
 | [a],_=>simp [results,h,resV]
 | [a,b],_=>simp [results,h,resV]
 | [a,b,c],_=>simp [results,h,resV]
 | [a,b,c,d],_=>simp [results,h,resV]
 | _ :: _ :: _ :: _ :: _ :: _,hl=>simp at hl
variable {st:St} {a:Act} {w:World} {r:Rs}
theorem Inv.tmpv (h:Inv P st a w r) {t:Nat} {pv:PV} (ht:st.get t = some pv):pv.sh.fits pv.cs.length (a.tmps.getD t undef) ∧ ∀ c,alpha a w r (.t t c) = (flat (a.tmps.getD t undef)).getD c undef:=by
 obtain ⟨v,h1,h2⟩:=h.tm t pv ht
 have he':a.tmps.getD t undef = v:=by simp [Array.getD_eq_getD_getElem?,h1]
 exact ⟨by rw [he']; exact h2,fun c=>rfl⟩
theorem fits_flat {sh:Shape} {n:Nat} {v:Value} (h:sh.fits n v) (hs:notTup sh = true):v.cells.toList.length = n ∧ v.cells.toList = flat v ∧ (∀ x ∈ v.cells,x.oneCell' = true) ∧ (match sh with | .agg=>∃ cs,v = .agg cs ∧ cs.size = n | _=>v.oneCell' = true):=by
 cases sh with
 | one =>
  obtain ⟨h1,h2⟩:=h
  rw [cells_one h2,flat_one h2]
  exact ⟨by simp [h1],rfl,fun x hx=>by simp at hx; subst hx; exact h2,h2⟩
 | agg =>
  obtain ⟨cs,rfl,h2,h3⟩:=h
  exact ⟨by simpa [Value.cells] using h2,rfl,h3,cs,rfl,h2⟩
 | any=>cases hs
 | tup l=>cases hs
theorem gather_spec (h:Inv P st a w r):∀ (ts:List Nat) {sh:List (Option Nat)} {cs:List PC},gather st ts = some (sh,cs) →
  (placesOf st ts).length = cs.length ∧ (∀ c x,cs[c]? = some x → ∃ p,(placesOf st ts)[c]? = some p ∧ st.at p = some x ∧ ((ts.map fun t=>a.tmps.getD t undef).flatMap fun v=>v.cells.toList).getD c undef = alpha a w r p) ∧
  ((ts.map fun t=>a.tmps.getD t undef).flatMap fun v=>v.cells.toList).length = cs.length ∧ sh = (ts.map fun t=>a.tmps.getD t undef).map aggSize ∧
  ∀ v ∈ (ts.map fun t=>a.tmps.getD t undef),∀ y ∈ v.cells,y.oneCell' = true
 | [],sh,cs,hg=>by
  simp only [gather,Option.some.injEq,Prod.mk.injEq] at hg
  obtain ⟨rfl,rfl⟩:=hg
  simp [placesOf]
 | t :: l,sh,cs,hg=>by
  have key:∀ (s0:Shape) (c0:List PC) (o0:Option Nat) (sh':List (Option Nat)) (ds:List PC),st.get t = some ⟨s0,c0⟩ → gather st l = some (sh',ds) → (notTup s0 = true) → (aggSize (a.tmps.getD t undef) = o0) → sh = o0 :: sh' → cs = c0 ++ ds →
    (placesOf st (t :: l)).length = cs.length ∧ (∀ c x,cs[c]? = some x → ∃ p,(placesOf st (t :: l))[c]? = some p ∧ st.at p = some x ∧ (((t :: l).map fun t=>a.tmps.getD t undef).flatMap fun v=>v.cells.toList).getD c undef = alpha a w r p) ∧
    (((t :: l).map fun t=>a.tmps.getD t undef).flatMap fun v=>v.cells.toList).length = cs.length ∧ sh = ((t :: l).map fun t=>a.tmps.getD t undef).map aggSize ∧
    ∀ v ∈ ((t :: l).map fun t=>a.tmps.getD t undef),∀ y ∈ v.cells,y.oneCell' = true:=by
   intro s0 c0 o0 sh' ds h1 h2 h3 h4 h5 h6
   subst h5 h6
   obtain ⟨i1,i2,i3,i4,i5⟩:=gather_spec h l h2
   obtain ⟨f1,f2⟩:=h.tmpv h1
   obtain ⟨f3,f4,f5,_⟩:=fits_flat f1 h3
   have hp:placesOf st (t :: l) = (List.range c0.length).map (Place.t t) ++ placesOf st l:=by simp [placesOf,h1]
   refine ⟨by rw [hp]; simp [i1],fun c x hx=>?_,by simp only [List.map_cons,List.flatMap_cons,List.length_append,f3,i3],by simp only [List.map_cons,h4,i4],fun v hv=>?_⟩
   ·rw [List.getElem?_append] at hx
    rw [hp]
    simp only [List.map_cons,List.flatMap_cons,List.getD_eq_getElem?_getD]
    split at hx
    ·rename_i hlt
     refine ⟨.t t c,by rw [List.getElem?_append_left (by simpa using hlt)]; simp [hlt],by simp [St.at,h1,hx],?_⟩
     rw [List.getElem?_append_left (by rw [f3]; exact hlt),f2,f4,List.getD_eq_getElem?_getD]
    ·rename_i hge
     obtain ⟨p,j1,j2,j3⟩:=i2 _ x hx
     refine ⟨p,by rw [List.getElem?_append_right (by simpa using Nat.le_of_not_lt hge)]; simpa using j1,j2,?_⟩
     rw [List.getElem?_append_right (by rw [f3]; exact Nat.le_of_not_lt hge),f3]
     simpa [List.getD_eq_getElem?_getD] using j3
   ·simp only [List.map_cons,List.mem_cons] at hv
    rcases hv with rfl | hv
    ·exact f5
    ·exact i5 v hv
  simp only [gather] at hg
  split at hg
  ·rename_i c0 sh' ds h1 h2
   simp only [Option.some.injEq,Prod.mk.injEq] at hg
   obtain ⟨f1,_⟩:=h.tmpv h1
   have:aggSize (a.tmps.getD t undef) = (none:Option Nat):=by
    obtain ⟨_,h3⟩:=f1
    generalize a.tmps.getD t undef = v at h3
    cases v <;> first | rfl | simp [Value.oneCell'] at h3
   exact key .one c0 none sh' ds h1 h2 rfl this hg.1.symm hg.2.symm
  ·rename_i c0 sh' ds h1 h2
   simp only [Option.some.injEq,Prod.mk.injEq] at hg
   obtain ⟨f1,_⟩:=h.tmpv h1
   have:aggSize (a.tmps.getD t undef) = some c0.length:=by
    obtain ⟨cs',h3,h4,_⟩:=f1
    rw [h3]; simp only [aggSize,h4]
   exact key .agg c0 (some c0.length) sh' ds h1 h2 rfl this hg.1.symm hg.2.symm
  ·cases hg
theorem resultsOf_spec (h:Inv P st a w r) (ts:List Nat) {res:PV} (hr:resultsOf st ts = some res) :
  res.sh.fits res.cs.length (resV a.tmps ts) ∧ (placesOf st ts).length = res.cs.length ∧ ∀ c x,res.cs[c]? = some x → ∃ p,(placesOf st ts)[c]? = some p ∧ st.at p = some x ∧ (flat (resV a.tmps ts)).getD c undef = alpha a w r p:=by
 have multi:∀ sh cs,gather st ts = some (sh,cs) → resV a.tmps ts = .tuple (ts.map fun t=>a.tmps.getD t undef).toArray → res = ⟨.tup sh,cs⟩ →
   res.sh.fits res.cs.length (resV a.tmps ts) ∧ (placesOf st ts).length = res.cs.length ∧ ∀ c x,res.cs[c]? = some x → ∃ p,(placesOf st ts)[c]? = some p ∧ st.at p = some x ∧ (flat (resV a.tmps ts)).getD c undef = alpha a w r p:=by
  intro sh cs hg hv hres
  subst hres
  obtain ⟨i1,i2,i3,i4,i5⟩:=gather_spec h ts hg
  rw [hv]
  exact ⟨⟨_,rfl,by simpa [flat] using i3,by simpa using i4,fun x hx y hy=>i5 x (by simpa using hx) y hy⟩,i1,fun c x hx=>by simpa [flat] using i2 c x hx⟩
 match ts,hr with
 | [t],hr =>
  obtain ⟨f1,f2⟩:=h.tmpv hr
  refine ⟨f1,by simp only [placesOf,show st.get t = some res from hr]; simp,fun c x hx=>⟨.t t c,?_,by simp [St.at,show st.get t = some res from hr,hx],(f2 c).symm⟩⟩
  have hc:c < res.cs.length:=(List.getElem?_eq_some_iff.1 hx).1
  simp only [placesOf,show st.get t = some res from hr]
  simp [hc]
 | [],hr =>
  simp only [resultsOf] at hr
  obtain ⟨x,hx,rfl⟩:=Option.map_eq_some_iff.1 hr
  exact multi x.1 x.2 hx rfl rfl
 | a1 :: a2 :: l,hr =>
  simp only [resultsOf] at hr
  obtain ⟨x,hx,rfl⟩:=Option.map_eq_some_iff.1 hr
  exact multi x.1 x.2 hx rfl rfl
theorem placesOf_mem {ts:List Nat} {p:Place} (h:p ∈ placesOf st ts):∃ t c,p = .t t c ∧ t ∈ ts:=by
 induction ts with
 | nil=>simp [placesOf] at h
 | cons t l ih =>
  simp only [placesOf,List.mem_append] at h
  rcases h with h | h
  ·split at h
   ·obtain ⟨c,_,rfl⟩:=List.mem_map.1 h
    exact ⟨t,c,rfl,List.mem_cons_self ..⟩
   ·simp at h
  ·obtain ⟨t',c,h1,h2⟩:=ih h
   exact ⟨t',c,h1,List.mem_cons_of_mem _ h2⟩
theorem placesOf_nodup:∀ {ts:List Nat},ts.Nodup → (placesOf st ts).Nodup
 | [],_=>by simp [placesOf]
 | t :: l,h=>by
  obtain ⟨h1,h2⟩:=List.nodup_cons.1 h
  simp only [placesOf]
  refine List.nodup_append.2 ⟨?_,placesOf_nodup h2,fun p hp q hq e=>?_⟩
  ·split
   ·refine List.Pairwise.map (R:=(· ≠ ·)) _ (fun a b hab e=>?_) List.nodup_range
    cases e; exact hab rfl
   ·exact List.nodup_nil
  ·subst e
   obtain ⟨t',c,rfl,ht'⟩:=placesOf_mem hq
   split at hp
   ·obtain ⟨c',_,e⟩:=List.mem_map.1 hp
    cases e
    exact h1 ht'
   ·simp at hp
theorem free_names {n:Nat} {x:PC} (h:x.free n = true):x.names = none:=by cases x <;> first | rfl | simp [PC.free] at h
def Rs.leave (r:Rs) (pl:List Place) (n:Nat):Rs :=
 { Sh:=r.Sh,β:=r.β,κ:=r.κ,γ:=fun p=>match p with
  | .t t c=>if t = 0 then (pl[c]?).bind r.γ else none
  | .b b c=>if b < n then r.γ (.b b c) else none }
/-- Behind a body: the result alone, and the boxes that were there. -/
theorem Inv.leave (h:Inv P st a w r) {ts:List Nat} {res:PV} (hr:resultsOf st ts = some res) (hnd:ts.Nodup) {n:Nat} (hn:n ≤ st.bx.length) (hfree:res.cs.all (·.free n) = true) (hbx:∀ cs ∈ st.bx.take n,cs.all (·.free n) = true) :
  ∃ r',Inv P ⟨1,[(0,res)],st.bx.take n,0,[]⟩ ⟨#[resV a.tmps ts],[]⟩ w r' ∧ r'.Sh = r.Sh ∧ r'.β = r.β ∧ r'.κ = r.κ ∧ ∀ g,r'.X n g → r.X st.bx.length g:=by
 obtain ⟨hfit,hpl,hres⟩:=resultsOf_spec h ts hr
 have hnodup:=placesOf_nodup (st:=st) hnd
 have hlen:(st.bx.take n).length = n:=by simp; omega
 refine ⟨r.leave (placesOf st ts) n,?_,rfl,rfl,rfl,?_⟩
 ·have hget:∀ t pv,(⟨1,[(0,res)],st.bx.take n,0,[]⟩:St).get t = some pv → t = 0 ∧ pv = res:=by
   intro t pv ht
   simp only [St.get,look] at ht
   split at ht
   ·rename_i e; cases ht; exact ⟨e.symm,rfl⟩
   ·cases ht
  have hbox:∀ b cs,(st.bx.take n)[b]? = some cs → b < n ∧ st.bx[b]? = some cs:=by
   intro b cs hb
   rw [List.getElem?_take] at hb
   split at hb
   ·exact ⟨‹_›,hb⟩
   ·cases hb
  have hat:∀ p x,(⟨1,[(0,res)],st.bx.take n,0,[]⟩:St).at p = some x → (∃ c,p = .t 0 c ∧ res.cs[c]? = some x) ∨ (∃ b c,p = .b b c ∧ b < n ∧ st.at (.b b c) = some x):=by
   intro p x hp
   cases p with
   | t t c =>
    obtain ⟨pv,h1,h2⟩:=St.at_tmp hp
    obtain ⟨rfl,rfl⟩:=hget t pv h1
    exact .inl ⟨c,rfl,h2⟩
   | b b c =>
    obtain ⟨_,cs,h1,h2⟩:=St.at_box hp
    obtain ⟨h3,h4⟩:=hbox b cs h1
    exact .inr ⟨b,c,rfl,h3,by simp [St.at,h4,h2]⟩
  have hfr:∀ p x,(⟨1,[(0,res)],st.bx.take n,0,[]⟩:St).at p = some x → x.free n = true:=by
   intro p x hp
   rcases hat p x hp with ⟨c,_,hx⟩ | ⟨b,c,rfl,hb,hx⟩
   ·exact List.all_eq_true.1 hfree x (List.mem_of_getElem? hx)
   ·obtain ⟨_,cs,h1,h2⟩:=St.at_box hx
    refine List.all_eq_true.1 (hbx cs ?_) x (List.mem_of_getElem? h2)
    exact List.mem_of_getElem? (by rw [List.getElem?_take,if_pos hb]; exact h1)
  have hγ:∀ p g,(r.leave (placesOf st ts) n).γ p = some g → (∃ c q,p = .t 0 c ∧ (placesOf st ts)[c]? = some q ∧ r.γ q = some g) ∨ (∃ b c,p = .b b c ∧ b < n ∧ r.γ (.b b c) = some g):=by
   intro p g hg
   cases p with
   | t t c =>
    simp only [Rs.leave] at hg
    split at hg
    ·rename_i e; subst e
     obtain ⟨q,h1,h2⟩:=Option.bind_eq_some_iff.1 hg
     exact .inl ⟨c,q,rfl,h1,h2⟩
    ·cases hg
   | b b c =>
    simp only [Rs.leave] at hg
    split at hg
    ·exact .inr ⟨b,c,rfl,‹_›,hg⟩
    ·cases hg
  refine ⟨rfl,Nat.zero_le _,fun t pv ht=>?_,fun b cs hb=>?_,fun p x hp=>?_,fun p x q hp hq=>?_,fun p g hg=>?_,fun p q g hp hq=>?_,fun p g b hg hb=>?_,fun b b' hb hb'=>h.bb b b' (by simp at hb; omega) (by simp at hb'; omega),fun g hg=>?_,rfl,h.lw,fun _ h=>by cases h⟩
  ·obtain ⟨rfl,rfl⟩:=hget t pv ht
   exact ⟨_,rfl,hfit⟩
  ·exact h.bx b cs (hbox b cs hb).2
  ·have hf:=hfr p x hp
   rcases hat p x hp with ⟨c,rfl,hx⟩ | ⟨b,c,rfl,hb,hx⟩
   ·obtain ⟨q,h1,h2,h3⟩:=hres c x hx
    have hg:(r.leave (placesOf st ts) n).γ (.t 0 c) = r.γ q:=by simp [Rs.leave,h1]
    show RepC P w _ _ _ x ((flat (resV a.tmps ts)).getD c undef) _
    rw [hg,h3]
    exact (h.cell q x h2).free (by simpa [hlen] using hf) (fun _ h=>h) (fun _ _=>rfl)
   ·have hg:(r.leave (placesOf st ts) n).γ (.b b c) = r.γ (.b b c):=by simp [Rs.leave,hb]
    show RepC P w _ _ _ x (alpha a w r (.b b c)) _
    rw [hg]
    exact (h.cell _ x hx).free (by simpa [hlen] using hf) (fun _ h=>h) (fun _ _=>rfl)
  ·rw [free_names (hfr p x hp)] at hq; cases hq
  ·rcases hγ p g hg with ⟨c,q,rfl,h1,h2⟩ | ⟨b,c,rfl,hb,h2⟩
   ·obtain ⟨e,xs,hx⟩:=h.live q g h2
    have hc:c < res.cs.length:=by rw [← hpl]; exact (List.getElem?_eq_some_iff.1 h1).1
    obtain ⟨q',h3,h4,_⟩:=hres c _ (List.getElem?_eq_getElem hc)
    rw [h1] at h3; cases h3
    rw [hx] at h4
    exact ⟨e,xs,by simp only [St.at,St.get,look,if_true,Option.bind_some]; rw [List.getElem?_eq_getElem hc]; exact h4.symm⟩
   ·obtain ⟨e,xs,hx⟩:=h.live _ g h2
    obtain ⟨_,cs,h3,h4⟩:=St.at_box hx
    exact ⟨e,xs,by simp only [St.at,List.getElem?_take,if_pos hb,h3,Option.bind_some]; exact h4⟩
  ·rcases hγ p g hp with ⟨c,z,rfl,h1,h2⟩ | ⟨b,c,rfl,hb,h2⟩ <;> rcases hγ q g hq with ⟨c',z',rfl,h1',h2'⟩ | ⟨b',c',rfl,hb',h2'⟩
   ·have:=h.inj z z' g h2 h2'
    subst this
    have:=(List.getElem?_inj (List.getElem?_eq_some_iff.1 h1).1 hnodup).1 (h1.trans h1'.symm)
    rw [this]
   ·have:=h.inj z _ g h2 h2'
    obtain ⟨t',c'',e,_⟩:=placesOf_mem (List.mem_of_getElem? h1)
    rw [e] at this; cases this
   ·have:=h.inj _ z' g h2 h2'
    obtain ⟨t',c'',e,_⟩:=placesOf_mem (List.mem_of_getElem? h1')
    rw [e] at this; cases this
   ·exact h.inj _ _ g h2 h2'
  ·have hb':b < st.bx.length:=by simp at hb; omega
   rcases hγ p g hg with ⟨c,z,rfl,h1,h2⟩ | ⟨b2,c,rfl,hb2,h2⟩
   ·exact h.exb z g b h2 hb'
   ·exact h.exb _ g b h2 hb'
  ·obtain ⟨h1,h2,h3⟩:=h.sh g hg
   refine ⟨h1,fun p hp=>?_,fun b hb=>h3 b (by simp at hb; omega)⟩
   rcases hγ p g hp with ⟨c,z,rfl,h4,h5⟩ | ⟨b2,c,rfl,hb2,h5⟩
   ·exact h2 z h5
   ·exact h2 _ h5
 ·intro g hg
  rcases hg with ⟨p,hp⟩ | ⟨b,hb,hbe⟩
  ·cases p with
   | t t c =>
    simp only [Rs.leave] at hp
    split at hp
    ·obtain ⟨q,h1,h2⟩:=Option.bind_eq_some_iff.1 hp
     exact .inl ⟨q,h2⟩
    ·cases hp
   | b b c =>
    simp only [Rs.leave] at hp
    split at hp
    ·exact .inl ⟨_,hp⟩
    ·cases hp
  ·exact .inr ⟨b,by omega,hbe⟩
/-- What a body must end in. -/
def Ends (ts:List Nat) (res:PV) (bx':List (List PC)) (e:Exit) (st':St):Prop :=
 (e = .normal ∨ e = .ret) ∧ resultsOf st' ts = some res ∧ res.cs.all (·.free bx'.length) = true ∧ bx'.length ≤ st'.bx.length ∧ st'.bx.take bx'.length = bx' ∧ ∀ cs ∈ bx',cs.all (·.free bx'.length) = true
theorem Fn.body {f:FuncId} {fn:Func} {c:Code} {args:List PV} {bx bx':List (List PC)} {res:PV} {ts:List Nat} (hf:P.funcs[f]? = some fn) (hb:fn.body = some c) (hres:fn.results = (ts.map ResultVar.tmp).toArray) (hl:ts.length ≤ 4) (hnd:ts.Nodup)
  (hn:args.length ≤ fn.ntmps) (hbl:bx.length ≤ bx'.length) (h:Tri P c (Ends ts res bx') ⟨fn.ntmps,enum 0 args,bx,bx.length,[]⟩):Fn P f args bx res bx':=by
 intro vals w r hi
 have hsz:vals.size = args.length:=hi.sz
 refine calls_of_wp hf hb ?_
 have hstart:Inv P ⟨fn.ntmps,enum 0 args,bx,bx.length,[]⟩ ⟨vals ++ Array.replicate (fn.ntmps - vals.size) undef,[]⟩ w r:=by
  have hal:∀ p,(⟨args.length,enum 0 args,bx,bx.length,[]⟩:St).ex p → alpha ⟨vals ++ Array.replicate (fn.ntmps - vals.size) undef,[]⟩ w r p = alpha ⟨vals,[]⟩ w r p:=by
   intro p hp
   cases p with
   | t t c =>
    obtain ⟨pv,hp⟩:=hp
    obtain ⟨v,h1,_⟩:=hi.tm t pv hp
    have hlt:t < vals.size:=(Array.getElem?_eq_some_iff.1 h1).1
    simp only [alpha,Array.getD_eq_getD_getElem?]
    rw [Array.getElem?_append_left hlt]
   | b b c=>rfl
  have hex:∀ p x,(⟨fn.ntmps,enum 0 args,bx,bx.length,[]⟩:St).at p = some x → (⟨args.length,enum 0 args,bx,bx.length,[]⟩:St).ex p:=by
   intro p x hx
   cases p with
   | t t c=>obtain ⟨pv,h1,_⟩:=St.at_tmp hx; exact ⟨pv,h1⟩
   | b b c=>exact (St.at_box hx).1
  refine ⟨by simp; omega,Nat.le_refl _,fun t pv ht=>?_,hi.bx,fun p x hx=>?_,hi.nm,hi.live,hi.inj,hi.exb,hi.bb,hi.sh,rfl,hi.lw,fun _ h=>by cases h⟩
  ·obtain ⟨v,h1,h2⟩:=hi.tm t pv ht
   exact ⟨v,by rw [Array.getElem?_append_left (Array.getElem?_eq_some_iff.1 h1).1]; exact h1,h2⟩
  ·rw [hal p (hex p x hx)]
   exact (hi.cell p x hx).mono (fun _ h=>h) (fun _ _=>rfl) (fun _ _=>rfl) (fun b hb=>⟨hb,rfl⟩) (fun q hq hl=>⟨hl,hal q (hi.nm p x q hx hq)⟩)
 refine Code.wp_mono (fun e a' w' k=>?_) (h _ w r hstart)
 obtain ⟨st',r',⟨he,hr,hfr,hle,htake,hbf⟩,hm,hinv,hstep⟩:=k
 obtain ⟨r'',h1,h2,h3,h5,h4⟩:=hinv.leave hr hnd hle hfr (by rw [htake]; exact hbf)
 rw [htake] at h1
 have hstep':Step bx.length w r bx.length w' r'' bx'.length:=by
  refine hstep.trans ⟨rfl,rfl,rfl,Nat.le_refl _,fun _ _ _=>rfl,fun g hg=>h2 ▸ hg,fun g hg=>.inl (h2 ▸ hg),fun g hg=>.inl (h4 g hg),fun b _=>by rw [h3],h5,fun _ _ h=>h⟩
 have hrun:=run_results (P:=P) hres hl a'.tmps w'
 rcases he with rfl | rfl
 ·exact ⟨hinv.defers,_,hrun,_,r'',rfl,h1,hstep'⟩
 ·exact ⟨hinv.defers,_,hrun,_,r'',rfl,h1,hstep'⟩
end
end Go.Proofs.YtoclajfeeebbbadGreatDoor.E
