/- slices.Sorted(slices.Values(x)) of strings, and whether strings are different: by the library's contracts. -/
import Derived.RangeFuncGives
import Derived.RangeFuncBox
import Derived.RangeFuncLeaves
import Derived.RangeFuncSeq
import Derived.Maps.AppendAt
import Derived.Maps.RangeWalk
import Derived.Sort.MapsRangeIn
import Derived.Shelf.Abstract
import Derived.WalkKit
import Derived.OwnWalkIn
import Derived.TacticsInMore
import Derived.RegionIn
import Derived.LoopNIn
import Derived.LoopIn
import Derived.Sort.OwnSorted
import Derived.Sort.KeysCollected
import Derived.Lib.SlicesCompact
import Derived.Test.YtoclajfeeebbbadGreatDoorShelf
set_option linter.unusedVariables false
set_option linter.unusedSimpArgs false
namespace Go.Proofs.YtoclajfeeebbbadGreatDoor.Sq
open Go.RowKit Go.Maps Go.Sort Go.Shelf
attribute [local go_sem] Oper.semAt_some
/-- WHAT HAS COME WHEN k ROUNDS ARE OVER. -/
def upto {α:Type} (f:Nat → α) (k:Nat):List α:=(List.range k).map f
theorem upto_succ {α:Type} (f:Nat → α) (k:Nat):upto f (k + 1) = upto f k ++ [f k]:=by simp [upto,List.range_succ]
theorem upto_length {α:Type} (f:Nat → α) (k:Nat):(upto f k).length = k:=by simp [upto]
theorem upto_all (zs:List (List UInt8)):upto (fun j=>zs[j]?.getD []) zs.length = zs:=by
  apply List.ext_getElem
  · simp [upto]
  · intro i h1 h2
    simp [upto,h2]
/-- An iterator that gives what S says, for every loop body that keeps all that lay. -/
def SeqGivesB {α:Type} (F:Fence) (n:Nat) (P:Program) (g:Nat) (lb:Array Value) (enc:α → Value) (S:List α → Prop) (N:Nat) (w:World):Prop :=
  ∀ (l:Nat) (J:List α → World → Prop) (W:World),Below w.heap.size w W → (∀ ss W1,J ss W1 → Below w.heap.size w W1) →
    (∀ pre x W1,J pre W1 → pre.length < N → YieldAt F (n - 1) P l #[enc x] W1 fun e W'=>e = .returned (.bool true) ∧ J (pre ++ [x]) W' ∧ KeepsWalks W1 W') →
    J [] W →
    CallsIn F n P g (#[.func (.yield l) #[] #[]] ++ lb) W fun e W'=>(∃ v,e = .returned v) ∧ ∃ xs,S xs ∧ J xs W'
set_option maxRecDepth 100000 in
set_option maxHeartbeats 2000000 in
/-- slices.Values's closure. -/
theorem values1_in (F : Fence) (n : Nat) (h7 : F.fn 81) (hro : F.round = none) (hn : 1 ≤ n) (l Bs b off len cap : Nat) (zs : List (List UInt8)) (hreach : len * 16 ≤ 140737488351232) (w0 : World) (hb : b < w0.heap.size) (J : List (List UInt8) → World → Prop)
    (hJB:∀ ss W1,J ss W1 → Below w0.heap.size w0 W1)
    (hY:∀ pre x W,J pre W → pre.length < len → YieldAt F (n - 1) Tryz.prog l #[encStr x] W fun e W'=>e = .returned (.bool true) ∧ J (pre ++ [x]) W' ∧ KeepsWalks W W')
    (W:World) (hBs:W.cell? ⟨Bs,0,none⟩ = some (.slice (some ⟨b,off,none⟩) len cap)) (hc:∀ j,j < len → w0.cell? ⟨b,off + j,none⟩ = some (encStr (zs[j]?.getD []))) (h0:J [] W) :
    CallsIn F n Tryz.prog 81 #[.func (.yield l) #[] #[],.pointer (some ⟨Bs,0,none⟩)] W fun e W'=>(∃ v,e = .returned v) ∧ J (upto (fun j=>zs[j]?.getD []) len) W':=by
  refine callsIn_of_wp Tryz.func81 rfl h7 ?_ hro
  simp only [Tryz.ntmps81,List.size_toArray,List.length_cons,List.length_nil,Nat.reduceAdd,Nat.reduceSub,Array.replicate_succ,Array.replicate_zero,List.push_toArray,List.append_toArray,List.nil_append,List.cons_append]
  gi_wp2
  gi_loopw [7] (fun i wr=>∃ k:Nat,k ≤ len ∧ i = .int .i64 k ∧ J (upto (fun j=>zs[j]?.getD []) k) wr)
    (fun i _=>len - (intOf i).toNat)
  case atStart=>exact ⟨0,Nat.zero_le _,rfl,h0⟩
  case round =>
    obtain ⟨k,hk,rfl,hJs⟩:=hrel
    have hcx:k < len → wr.cell? ⟨b,off + k,none⟩ = some (encStr (zs[k]?.getD [])):=fun h=>((hJB _ _ hJs).cell (p:=⟨b,off + k,none⟩) hb).trans (hc k h)
    by_cases hlt:k < len
    · obtain ⟨fn,tmps,assign,body,hy,hR⟩:=hY _ (zs[k]?.getD []) wr hJs (by rw [upto_length]; exact hlt)
      have hcx':=hcx hlt
      gi_wp2
      refine hR.mono ?_
      rintro e W3 ⟨rfl,hJ3,hk3⟩
      gi_wp2
      go_roundw
      case rel=>exact ⟨k + 1,by omega,by simp,by rw [upto_succ]; exact hJ3⟩
      case measure=>simp [intOf]; omega
    · obtain rfl:k = len:=by omega
      gi_wp2
      go_end0
      exact ⟨⟨_,rfl⟩,hJs⟩
set_option maxRecDepth 100000 in
set_option maxHeartbeats 1000000 in
/-- .. at the nil slice: no round. -/
theorem values1_nil_in (F : Fence) (n : Nat) (h7 : F.fn 81) (hro : F.round = none) (l Bs : Nat) (J : List (List UInt8) → World → Prop) (W : World) (a : Option Addr) (c : Nat) (hBs : W.cell? ⟨Bs, 0, none⟩ = some (.slice a 0 c)) (h0 : J [] W) :
    CallsIn F n Tryz.prog 81 #[.func (.yield l) #[] #[],.pointer (some ⟨Bs,0,none⟩)] W fun e W'=>(∃ v,e = .returned v) ∧ J [] W':=by
  refine callsIn_of_wp Tryz.func81 rfl h7 ?_ hro
  simp only [Tryz.ntmps81,List.size_toArray,List.length_cons,List.length_nil,Nat.reduceAdd,Nat.reduceSub,Array.replicate_succ,Array.replicate_zero,List.push_toArray,List.append_toArray,List.nil_append,List.cons_append]
  gi_wp2
  gi_loopw [7] (fun i wr=>i = .int .i64 0 ∧ J [] wr) (fun _ _=>0)
  case atStart=>exact ⟨rfl,h0⟩
  case round =>
    obtain ⟨rfl,hJs⟩:=hrel
    gi_wp2
    go_end0
    exact ⟨⟨_,rfl⟩,hJs⟩
set_option maxHeartbeats 1000000 in
/-- slices.Values(s): the slice value is boxed; the function value captures the box. -/
theorem values_in (F : Fence) (n : Nat) (h5 : F.fn 63) (hro : F.round = none) (a : Option Addr) (len cap : Nat) (w : World) :
    CallsIn F n Tryz.prog 63 #[.slice a len cap] w fun e w'=>e = .returned (.func (.func 81) #[] #[.pointer (some ⟨w.heap.size,0,none⟩)]) ∧ w' = w.alloc (.cells #[.slice a len cap] 75):=by
  refine callsIn_of_wp Tryz.func63 rfl h5 ?_ hro
  simp only [Tryz.ntmps63,List.size_toArray,List.length_cons,List.length_nil,Nat.reduceAdd,Nat.reduceSub,Array.replicate_succ,Array.replicate_zero,List.push_toArray,List.append_toArray,List.nil_append,List.cons_append]
  gi_wp2
  go_ret
  exact ⟨rfl,rfl⟩
/-- THE SLICE VALUE sv HOLDS THE strings zs, in a block below n₀; or it is nil and there are none. -/
def Strs (n₀:Nat) (W:World) (sv:Value) (zs:List (List UInt8)):Prop :=
  (∃ a c,sv = .slice a 0 c ∧ zs = []) ∨ ∃ b off cap,sv = .slice (some ⟨b,off,none⟩) zs.length cap ∧ b < n₀ ∧ ∀ j,j < zs.length → W.cell? ⟨b,off + j,none⟩ = some (encStr (zs[j]?.getD []))
theorem Strs.below {n₀:Nat} {A B:World} (h:Below n₀ A B) {sv:Value} {zs:List (List UInt8)}:Strs n₀ A sv zs → Strs n₀ B sv zs
  | .inl e=>.inl e
  | .inr ⟨b,off,cap,e,hb,hc⟩=>.inr ⟨b,off,cap,e,hb,fun j hj=>(h.cell (p:=⟨b,off + j,none⟩) hb).trans (hc j hj)⟩
/-- slices.Values(s) hands back a value that gives all of zs, in order. -/
theorem values_gives (F : Fence) (n : Nat) (h7 : F.fn 81) (hro : F.round = none) (hn : 1 ≤ n) (Bs : Nat) (sv : Value) (zs : List (List UInt8)) (hreach : zs.length * 16 ≤ 140737488351232) (w : World) (hBs : Bs < w.heap.size)
    (hc:w.cell? ⟨Bs,0,none⟩ = some sv) (hI:Strs w.heap.size w sv zs) :
    SeqGivesB F n Tryz.prog 81 #[.pointer (some ⟨Bs,0,none⟩)] encStr (fun ys=>ys = zs) zs.length w:=fun l J W hW hJB hY h0=>by
  have hc':=(hW.cell (p:=⟨Bs,0,none⟩) hBs).trans hc
  rcases hI with ⟨a,c,rfl,rfl⟩ | ⟨b,off,cap,rfl,hb,hcs⟩
  · exact (values1_nil_in F n h7 hro l Bs J W a c hc' h0).mono fun e W' ⟨he,hj⟩=>⟨he,_,rfl,hj⟩
  · refine (values1_in F n h7 hro hn l Bs b off zs.length cap zs hreach w hb J hJB hY W hc' hcs h0).mono ?_
    rintro e W' ⟨he,hj⟩
    exact ⟨he,_,upto_all zs,hj⟩
def apAssign : Code := (Code.region 2 #[{ dst := some 5, op := Op.assign (Operand.tmp 7), type := 9, pos := "iter.go:51", after := #[], guard := none }] false)
def apBody : Code := (Code.block 1 (Code.region 3 #[{ dst := some 8, op := Op.load 75 (Operand.tmp 2), type := 75, pos := "iter.go:52", after := #[], guard := none }, { dst := some 9, op := Op.move (Operand.tmp 5), type := 9, pos := "iter.go:52", after := #[], guard := none }, { dst := some 10, op := Op.buildSlice 75 1 #[(0, Operand.tmp 9)], type := 75, pos := "iter.go:52", after := #[{ on := 1, ground := Ground.data }], guard := none }, { dst := some 11, op := Op.call { callee := Callee.builtin Builtin.append, args := #[Operand.tmp 8, Operand.tmp 10], argTypes := #[75, 75] }, type := 75, pos := "iter.go:52", after := #[{ on := 0, ground := Ground.data }, { on := 2, ground := Ground.data }], guard := none }, { dst := none, op := Op.store 75 (Operand.tmp 2) (Operand.tmp 11), type := 0, pos := "iter.go:52", after := #[{ on := 3, ground := Ground.data }, { on := 3, ground := Ground.chain }, { on := 0, ground := Ground.phase }, { on := 1, ground := Ground.phase }, { on := 2, ground := Ground.phase }, { on := 3, ground := Ground.phase }], guard := none }] false))
/-- The loop's record: AppendSeq's temporaries as they stood at the entering: 's' boxed in block Bs; sv: the iterator's value. -/
def apRec (fn:FuncId) (sv:Value) (Bs D:Nat) (st:LoopState) (pend:Option Code):Loop :=
  { state:=st,pending:=pend,fn,tmps:=#[.slice none 0 0,sv,.pointer (some ⟨Bs,0,none⟩),undef,.slice none 0 0,undef,sv,undef,undef,undef,undef,undef,undef],params:=#[7],assign:=apAssign,body:=apBody,defers:=D }
/-- BETWEEN TWO ROUNDS: the box holds a slice that owns, in a block of the call's own, what has come so far; IT IS nil JUST AS LONG AS NOTHING HAS COME; nothing that lay before the call has turned. -/
structure ApAt (w0:World) (fn:FuncId) (sv:Value) (Bs l D:Nat) (ss:List (List UInt8)) (W:World):Prop where
  box:∃ v,W.heap[Bs]? = some (.cells #[v] 75 (0,0)) ∧ W.ownsRow w0.heap.size 9 1 v ss.length (ss.map encStr) ∧ (v = .slice none 0 0 ↔ ss = [])
  L:W.heap[l]? = some (.loop (apRec fn sv Bs D .ready none))
  K:W.heap[D]? = some (.deferred (some []))
  below:Below w0.heap.size w0 W
theorem grownBy_putObj (W:World) (l:Nat) (o:Obj):W.grownBy (W.putObj l o) (some l) :=
  ⟨rfl,rfl,rfl,by simp,fun k _ hk=>World.putObj_heap_other (fun e=>hk (by rw [e]))⟩
theorem grownBy_setCell0 (W:World) (b:Nat) (v:Value):W.grownBy (W.setCell ⟨b,0,none⟩ v) (some b) :=
  ⟨rfl,rfl,rfl,(KeepsWalks.setCell W _ v).size,fun k _ hk=>Below.heap_setCell _ _ _ k (fun e=>hk (by rw [e]))⟩
/-- A slice's own row is not a block that holds something else than cells of its element's type. -/
theorem ownsRow_ne {W : World} {base : Nat} {e : TypeId} {size : Nat} {v : Value} {k : Nat} {xs : List Value} (h : W.ownsRow base e size v k xs) {j : Nat} {o : Obj} (hj : W.heap[j]? = some o) (hno : ∀ cur, o ≠ .cells cur e (0, 0)) :
    v.ownBlock = none ∨ v.ownBlock ≠ some j:=by
  rcases h.2 with ⟨rfl,_⟩ | ⟨g,cap,cur,rfl,_,hgb,_⟩
  · exact .inl rfl
  · refine .inr fun e'=>?_
    have:g = j:=by simpa [Value.ownBlock] using e'
    subst this; rw [hgb] at hj; cases hj; exact hno cur rfl
theorem cell_of_box {W:World} {B:Nat} {v:Value} {t:TypeId} (h:W.heap[B]? = some (.cells #[v] t (0,0))):W.cell? ⟨B,0,none⟩ = some v ∧ W.frozen? ⟨B,0,none⟩ = false:=by
  constructor <;> simp [World.cell?,World.frozen?,h]
theorem heap_setCell_box {W:World} {B:Nat} {v:Value} {t:TypeId} (v':Value) (h:W.heap[B]? = some (.cells #[v] t (0,0))):(W.setCell ⟨B,0,none⟩ v').heap[B]? = some (.cells #[v'] t (0,0)):=by
  obtain ⟨hlt,hk⟩:=Array.getElem?_eq_some_iff.1 h
  show (W.heap.modify B _)[B]? = _
  rw [Array.getElem?_eq_getElem (by rw [Array.size_modify]; exact hlt),Array.getElem_modify_self,hk]
  rfl
theorem ownsRow_not_walk {W:World} {base:Nat} {e:TypeId} {size:Nat} {v:Value} {k:Nat} {xs:List Value} (h:W.ownsRow base e size v k xs):∀ (j:Nat) (o:Obj),v.ownBlock = some j → W.heap[j]? = some o → o.isWalk = false:=by
  intro j o hj ho
  rcases h.2 with ⟨rfl,_⟩ | ⟨g,cap,cur,rfl,_,hgb,_⟩
  · simp [Value.ownBlock] at hj
  · have:g = j:=by simpa [Value.ownBlock] using hj
    subst this; rw [hgb] at ho; cases ho; rfl
theorem info26:(Tryz.prog.info? 9).map (fun i=>(i.zero,i.size,i.bytes)) = some (some (.string ⟨#[]⟩),1,16):=by kernel_rfl
set_option maxRecDepth 100000 in
set_option maxHeartbeats 2000000 in
theorem apYield (F : Fence) (m : Nat) (w0 : World) (fn : FuncId) (hfn : F.fn fn) (sv : Value) (Bs l D : Nat) (hBl : Bs ≠ l) (hDl : D ≠ l) (hDB : D ≠ Bs) (h0B : w0.heap.size ≤ Bs) (h0l : w0.heap.size ≤ l)
    (N:Nat) (hN:N ≤ maxLen) (hNb:N * 16 ≤ 140737488355328) (ss:List (List UInt8)) (x:List UInt8) (W:World) (h:ApAt w0 fn sv Bs l D ss W) (hlen:ss.length < N) :
    YieldAt F m Tryz.prog l #[encStr x] W fun e W'=>e = .returned (.bool true) ∧ ApAt w0 fn sv Bs l D (ss ++ [x]) W' ∧ KeepsWalks W W':=by
  obtain ⟨i0,hi,hz0,hz1,hz2⟩:=info_parts info26
  obtain ⟨v,hv,hrow,_⟩:=h.box
  refine ⟨fn,#[.slice none 0 0,sv,.pointer (some ⟨Bs,0,none⟩),undef,.slice none 0 0,undef,sv,encStr x,undef,undef,undef,undef,undef],apAssign,apBody,by simpa [apRec] using run_yield (P:=Tryz.prog) (args:=#[encStr x]) h.L rfl,roundIn_of_wpIn hfn ?_⟩
  have hl:l < W.heap.size:=(Array.getElem?_eq_some_iff.1 h.L).1
  have hbr:=run_beginRound (P:=Tryz.prog) h.L rfl
  obtain ⟨W2,hW2⟩:∃ W2,W.putObj l (.loop { apRec fn sv Bs D .ready none with state:=.busy }) = W2:=⟨_,rfl⟩
  rw [hW2] at hbr
  have hg2:W.grownBy W2 (some l):=by rw [← hW2]; exact grownBy_putObj _ _ _
  have hk2:KeepsWalks W W2:=by rw [← hW2]; exact KeepsWalks.putObj _ h.L rfl
  have hv2:W2.heap[Bs]? = some (.cells #[v] 75 (0,0)):=by rw [← hW2]; exact (World.putObj_heap_other hBl).trans hv
  have hK2:W2.heap[D]? = some (.deferred (some [])):=by rw [← hW2]; exact (World.putObj_heap_other hDl).trans h.K
  have hL2:W2.heap[l]? = some (.loop { apRec fn sv Bs D .ready none with state:=.busy }):=by rw [← hW2]; exact World.putObj_heap_same hl
  have hrow2:W2.ownsRow w0.heap.size 9 1 v ss.length (ss.map encStr):=hrow.kept hg2 (ownsRow_ne hrow h.L (fun cur e=>by cases e))
  have hb2:Below w0.heap.size w0 W2:=h.below.grown hg2 h.below.size (fun k e=>by cases e; exact h0l)
  obtain ⟨hc2,hf2⟩:=cell_of_box hv2
  have hBlt:Bs < W2.heap.size:=(Array.getElem?_eq_some_iff.1 hv2).1
  have hl2:l < W2.heap.size:=(Array.getElem?_eq_some_iff.1 hL2).1
  have hDlt:D < W2.heap.size:=(Array.getElem?_eq_some_iff.1 hK2).1
  have ne_of:∀ {j:Nat} {o:Obj},W2.heap[j]? = some o → (∀ cur,o ≠ .cells cur 9 (0,0)) → some j ≠ v.ownBlock:=fun hj hno=>by
    rcases ownsRow_ne hrow2 hj hno with e | e
    · rw [e]; simp
    · exact fun e'=>e e'.symm
  clear hW2
  unfold apAssign
  gi_wp2_with (rw [Oper.semAt_eq _ _ _ (fun c h=>by cases h)]; go_simp; try go_bits)
  unfold apBody
  gi_wp2_with (first
    | (gi_at_builtin; refine wpListIn_append_own _ rfl _ _ 75 rfl w0.heap.size 9 i0 (.string ⟨#[]⟩) 1 16 Tryz.underlying75 hi hz0 hz1 hz2 rfl (by decide) _ _ _ rfl (hrow2.alloc _) ⟨W2.heap.size, 0, none⟩ 1 1 [encStr x] rfl rfl (cell_one_new _ _ _) (by simp [Value.oneCell', encStr]) (by omega) (by omega) (by have := hb2.size; simp; omega) ?_; intro v' w3 hown' hg3 hnil3
       have hv3:w3.heap[Bs]? = some (.cells #[v] 75 (0,0)):=(hg3.block Bs (by simp; omega) (ne_of hv2 (fun cur e=>by cases e))).trans ((Below.heap_alloc _ _ Bs hBlt).trans hv2)
       obtain ⟨hc3,hf3⟩:=cell_of_box hv3
       obtain ⟨g',cap',cur',rfl,hbase',hgb',hr1,hr2,hr3,hr4⟩:∃ g' cap' cur',v' = .slice (some ⟨g',0,none⟩) (ss.length + 1) cap' ∧ w0.heap.size ≤ g' ∧ w3.heap[g']? = some (.cells cur' 9 (0,0)) ∧ ss.length + 1 ≤ cap' ∧ cap' ≤ maxLen ∧ cur'.size = cap' * 1 ∧ cur'.toList.take ((ss.length + 1) * 1) = ss.map encStr ++ [encStr x]:=by
         rcases hown'.2 with ⟨_,h0⟩ | h'
         · exact absurd h0 (by omega)
         · exact h'
       go_frame)
    | (rw [Oper.semAt_eq _ _ _ (fun c h=>by cases h)]; go_simp; try go_bits))
  have hg3':(W2.alloc (.cells #[encStr x] 9)).grownBy w3 v.ownBlock:=hg3
  have hL3:w3.heap[l]? = some (.loop { apRec fn sv Bs D .ready none with state:=.busy }):=(hg3'.block l (by simp; omega) (ne_of hL2 (fun cur e=>by cases e))).trans ((Below.heap_alloc _ _ l hl2).trans hL2)
  have hK3:w3.heap[D]? = some (.deferred (some [])):=(hg3'.block D (by simp; omega) (ne_of hK2 (fun cur e=>by cases e))).trans ((Below.heap_alloc _ _ D hDlt).trans hK2)
  obtain ⟨w4,hw4⟩:∃ w4,w3.setCell ⟨Bs,0,none⟩ (.slice (some ⟨g',0,none⟩) (ss.length + 1) cap') = w4:=⟨_,rfl⟩
  rw [hw4]
  have hg4:w3.grownBy w4 (some Bs):=by rw [← hw4]; exact grownBy_setCell0 _ _ _
  have hv4:w4.heap[Bs]? = some (.cells #[.slice (some ⟨g',0,none⟩) (ss.length + 1) cap'] 75 (0,0)):=by rw [← hw4]; exact heap_setCell_box _ hv3
  have hL4:w4.heap[l]? = some (.loop { apRec fn sv Bs D .ready none with state:=.busy }):=(hg4.block l (Array.getElem?_eq_some_iff.1 hL3).1 (fun e=>hBl (by cases e; rfl))).trans hL3
  have hK4:w4.heap[D]? = some (.deferred (some [])):=(hg4.block D (Array.getElem?_eq_some_iff.1 hK3).1 (fun e=>hDB (by cases e; rfl))).trans hK3
  have hrow4:=hown'.kept hg4 (ownsRow_ne hown' hv3 (fun cur e=>by cases e))
  have hl4:l < w4.heap.size:=(Array.getElem?_eq_some_iff.1 hL4).1
  have hb3:Below w0.heap.size w0 w3:=(hb2.alloc hb2.size _).grown hg3' (by have:=hb2.size; simp; omega) (fun k e=>(hrow2.lt k e).1)
  have hb4:Below w0.heap.size w0 w4:=hb3.grown hg4 hb3.size (fun k e=>by cases e; exact h0B)
  have hk4:KeepsWalks W w4:=((hk2.trans (KeepsWalks.alloc _ _)).trans (KeepsWalks.of_grownBy hg3' (ownsRow_not_walk (hrow2.alloc _)))).trans (by rw [← hw4]; exact KeepsWalks.setCell _ _ _)
  clear hw4
  refine ⟨_,_,run_endRound none hL4,rfl,⟨⟨_,(World.putObj_heap_other hBl).trans hv4,?_,by simp⟩,World.putObj_heap_same hl4,(World.putObj_heap_other hDl).trans hK4,hb4.grown (grownBy_putObj _ _ _) hb4.size (fun k e=>by cases e; exact h0l)⟩,hk4.trans (KeepsWalks.putObj _ hL4 rfl)⟩
  have:=hrow4.kept (grownBy_putObj w4 l (.loop { { apRec fn sv Bs D .ready none with state:=.busy } with state:=if (none:Option Code).isNone then .ready else .done,pending:=none })) (ownsRow_ne hrow4 hL4 (fun cur e=>by cases e))
  simpa using this
set_option maxRecDepth 100000 in
set_option maxHeartbeats 2000000 in
/-- **slices.AppendSeq(nil, seq), AGAINST WHATEVER ITERATOR VALUE THAT 'SeqGives'**: it hands back a slice that owns, in a block of the call's own, JUST WHAT THE ITERATOR GAVE, IN THAT ORDER; nil JUST WHERE IT GAVE NOTHING (as Go: 'slices.Collect' of nothing is nil); nothing that lay before the call has turned. -/
theorem appendSeq_in (F : Fence) (n : Nat) (h11 : F.fn 94) (hro : F.round = none) (hn : 2 ≤ n) (g : Nat) (lb : Array Value) (hFg : F.fn g) (eg : ∀ args w, (callFunc g args).run Tryz.prog w = .ok (.enter g args) w)
    (S:List (List UInt8) → Prop) (N:Nat) (hN:N ≤ maxLen) (hNb:N * 16 ≤ 140737488355328) (w:World) (hseq:SeqGivesB F (n - 1) Tryz.prog g lb encStr S N w) :
    CallsIn F n Tryz.prog 94 #[.slice none 0 0,.func (.func g) #[] lb] w fun e w'=>∃ (v:Value) (ss:List (List UInt8)),e = .returned v ∧ S ss ∧ w'.ownsRow w.heap.size 9 1 v ss.length (ss.map encStr) ∧ (v = .slice none 0 0 ↔ ss = []) ∧ Below w.heap.size w w':=by
  have h1:1 ≤ n:=by omega
  refine callsIn_of_wp_marks Tryz.func94 rfl h11 ?_ hro
  simp only [Tryz.ntmps94,List.size_toArray,List.length_cons,List.length_nil,Nat.reduceAdd,Nat.reduceSub,Array.replicate_succ,Array.replicate_zero,List.push_toArray,List.append_toArray,List.nil_append,List.cons_append]
  gi_wp2
  refine wpIn_rangeFunc ?_
  intro fn hfn
  rw [hro]
  obtain ⟨W0,hW0⟩:∃ W0,w.alloc (.cells #[.slice none 0 0] 75) = W0:=⟨_,rfl⟩
  have hs0:W0.heap.size = w.heap.size + 1:=by rw [← hW0]; simp
  have hv0:W0.heap[w.heap.size]? = some (.cells #[.slice none 0 0] 75 (0,0)):=by rw [← hW0]; exact World.alloc_heap_new w _
  have hb0:Below w.heap.size w W0:=by rw [← hW0]; exact (Below.refl _ w).alloc (Nat.le_refl _) _
  rw [hW0]
  obtain ⟨W1,hW1⟩:∃ W1,(W0.alloc (.deferred (some []))).alloc (.loop (apRec fn (.func (.func g) #[] lb) w.heap.size W0.heap.size .ready none)) = W1:=⟨_,rfl⟩
  have hold:∀ k,k < W0.heap.size → W1.heap[k]? = W0.heap[k]?:=fun k hk=>by
    rw [← hW1]; exact (Below.heap_alloc _ _ k (by simp; omega)).trans (Below.heap_alloc _ _ k hk)
  have hb1:Below w.heap.size w W1:=by rw [← hW1]; exact (hb0.alloc hb0.size _).alloc (by have:=hb0.size; simp; omega) _
  have hs1:W1.heap.size = W0.heap.size + 2:=by rw [← hW1]; simp
  have hM:ApAt w fn (.func (.func g) #[] lb) w.heap.size (W0.heap.size + 1) W0.heap.size [] W1 :=
    ⟨⟨_,(hold w.heap.size (by omega)).trans hv0,⟨rfl,.inl ⟨rfl,rfl⟩⟩,by simp⟩,
     by rw [← hW1]; have:=World.alloc_heap_new (W0.alloc (.deferred (some []))) (.loop (apRec fn (.func (.func g) #[] lb) w.heap.size W0.heap.size .ready none)); rwa [World.size_alloc] at this,
     by rw [← hW1]; exact (Below.heap_alloc _ _ _ (by simp)).trans (World.alloc_heap_new W0 _),hb1⟩
  refine ⟨W0.heap.size + 1,[{ target:=.collected W0.heap.size,args:=#[] }],W1,{ target:=.fn (.func g) lb,args:=#[.func (.yield (W0.heap.size + 1)) #[] #[]] },W1,g,
    #[.func (.yield (W0.heap.size + 1)) #[] #[]] ++ lb,W1,?_,?_,?_,?_,fun _=>h1,?_⟩
  · rw [← hW1]; exact run_enterLoop_outer _ _ _ _ _
  · simp [resolve,go_sem]
  · intro f' hf'; simp [Target.leads] at hf'; subst hf'; exact hFg
  · simp [invoke,go_sem,eg]
  · refine (hseq (W0.heap.size + 1) (ApAt w fn (.func (.func g) #[] lb) w.heap.size (W0.heap.size + 1) W0.heap.size) W1 hb1 (fun ss W h => h.below)
      (fun pre x W hJ hl=>apYield F (n - 1 - 1) w fn hfn _ w.heap.size (W0.heap.size + 1) W0.heap.size (by omega) (by omega) (by omega) (Nat.le_refl _) (by omega) N hN hNb pre x W hJ hl) hM).mono ?_
    rintro e W2 ⟨⟨v0,rfl⟩,ss,hS,h2⟩
    obtain ⟨v,hv,hrow,hnil⟩:=h2.box
    have hend:=run_endLoop (P:=Tryz.prog) h2.L (by simp [apRec])
    obtain ⟨W3,hW3⟩:∃ W3,W2.putObj (W0.heap.size + 1) (.loop { apRec fn (.func (.func g) #[] lb) w.heap.size W0.heap.size .ready none with state:=.exhausted }) = W3:=⟨_,rfl⟩
    rw [hW3] at hend
    have hg3:W2.grownBy W3 (some (W0.heap.size + 1)):=by rw [← hW3]; exact grownBy_putObj _ _ _
    have hv3:W3.heap[w.heap.size]? = some (.cells #[v] 75 (0,0)):=by rw [← hW3]; exact (World.putObj_heap_other (by omega)).trans hv
    have hK3:W3.heap[W0.heap.size]? = some (.deferred (some [])):=by rw [← hW3]; exact (World.putObj_heap_other (by omega)).trans h2.K
    have hrow3:=hrow.kept hg3 (ownsRow_ne hrow h2.L (fun cur e=>by cases e))
    have hb3:Below w.heap.size w W3:=h2.below.grown hg3 h2.below.size (fun k e=>by cases e; omega)
    obtain ⟨hc3,hf3⟩:=cell_of_box hv3
    clear hW3
    refine ⟨none,W3,hend,?_⟩
    gi_wp2
    rw [← hs0]
    refine ⟨by simp,.inl ⟨_,_,rfl,run_takeDeferred hK3,?_⟩⟩
    exact ⟨_,results_tmp rfl _ _ _,v,ss,rfl,hS,hrow3.kept (grownBy_putObj _ _ _) (ownsRow_ne hrow3 hK3 (fun cur e=>by cases e)),hnil,hb3.grown (grownBy_putObj _ _ _) hb3.size (fun k e=>by cases e; omega)⟩
set_option maxHeartbeats 1000000 in
/-- **slices.Collect(seq), AGAINST WHATEVER ITERATOR VALUE.** -/
theorem collect_in (F : Fence) (n : Nat) (h8 : F.fn 79) (h11 : F.fn 94) (hro : F.round = none) (hn : 3 ≤ n) (g : Nat) (lb : Array Value) (hFg : F.fn g) (eg : ∀ args w, (callFunc g args).run Tryz.prog w = .ok (.enter g args) w)
    (S:List (List UInt8) → Prop) (N:Nat) (hN:N ≤ maxLen) (hNb:N * 16 ≤ 140737488355328) (w:World) (hseq:SeqGivesB F (n - 1 - 1) Tryz.prog g lb encStr S N w) :
    CallsIn F n Tryz.prog 79 #[.func (.func g) #[] lb] w fun e w'=>∃ (v:Value) (ss:List (List UInt8)),e = .returned v ∧ S ss ∧ w'.ownsRow w.heap.size 9 1 v ss.length (ss.map encStr) ∧ (v = .slice none 0 0 ↔ ss = []) ∧ Below w.heap.size w w':=by
  have h1:1 ≤ n:=by omega
  refine callsIn_of_wp Tryz.func79 rfl h8 ?_ hro
  simp only [Tryz.ntmps79,List.size_toArray,List.length_cons,List.length_nil,Nat.reduceAdd,Nat.reduceSub,Array.replicate_succ,Array.replicate_zero,List.push_toArray,List.append_toArray,List.nil_append,List.cons_append]
  gi_wp2_with (gi_at_call 94; refine (appendSeq_in F (n - 1) h11 hro (by omega) g lb hFg eg S N hN hNb _ hseq).mono ?_; rintro e w' ⟨v,ss,rfl,hS,hrow,hnil,hb⟩)
  go_ret
  exact ⟨v,ss,rfl,hS,hrow,hnil,hb⟩
/-- slices.Sort[[]K, K]'s two contracts, inside a fence: what slices.Sorted leans on. -/
def SortsIn (F:Fence) (m:Nat):Prop :=
  (∀ (blk off cap:Nat) (ss:List (List UInt8)) (W:World),Holds encStr W blk off ss.toArray → blk < W.heap.size → ss.length < 4611686018427387904 →
    CallsIn F m Tryz.prog 80 #[.slice (some ⟨blk,off,none⟩) ss.length cap] W fun e w'=>e = .returned (.tuple #[]) ∧ ∃ k os,w' = grow (putRow encStr (Sort.ahead W k) blk off (ss.mergeSort fun x y=>decide (x ≤ y)).toArray) os) ∧
  (∀ (p:Option Addr) (cap:Nat) (W:World),CallsIn F m Tryz.prog 80 #[.slice p 0 cap] W fun e w'=>e = .returned (.tuple #[]) ∧ w' = W)
set_option maxRecDepth 100000 in
set_option maxHeartbeats 2000000 in
/-- **slices.Sorted(seq), AGAINST WHATEVER ITERATOR VALUE**: a new slice that holds what the iterator gave, SORTED. -/
theorem sorted_in (F : Fence) (n : Nat) (h6 : F.fn 62) (h8 : F.fn 79) (h9 : F.fn 80) (h11 : F.fn 94) (hro : F.round = none) (hn : 4 ≤ n) (hsort : SortsIn F (n - 1)) (g : Nat) (lb : Array Value) (hFg : F.fn g) (eg : ∀ args w, (callFunc g args).run Tryz.prog w = .ok (.enter g args) w)
    (S:List (List UInt8) → Prop) (N:Nat) (hN:N ≤ maxLen) (hNb:N * 16 ≤ 140737488355328) (w:World) (hlS:∀ ss,S ss → ss.length ≤ N) (hseq:SeqGivesB F (n - 1 - 1 - 1) Tryz.prog g lb encStr S N w) :
    CallsIn F n Tryz.prog 62 #[.func (.func g) #[] lb] w fun e w'=>∃ (v:Value) (ss:List (List UInt8)),e = .returned v ∧ S ss ∧
      w'.ownsRow w.heap.size 9 1 v ss.length ((ss.mergeSort (fun x y=>decide (x ≤ y))).map encStr) ∧ (v = .slice none 0 0 ↔ ss = []) ∧ Below w.heap.size w w':=by
  have h1:1 ≤ n:=by omega
  refine callsIn_of_wp Tryz.func62 rfl h6 ?_ hro
  simp only [Tryz.ntmps62,List.size_toArray,List.length_cons,List.length_nil,Nat.reduceAdd,Nat.reduceSub,Array.replicate_succ,Array.replicate_zero,List.push_toArray,List.append_toArray,List.nil_append,List.cons_append]
  gi_wp2_with (gi_at_call 79; refine (collect_in F (n - 1) h8 h11 hro (by omega) g lb hFg eg _ N hN hNb _ hseq).mono ?_; rintro e W ⟨v,ss,rfl,hS,hrow,hnil,hb⟩; have hlen:=hlS ss hS)
  rcases hrow.2 with ⟨rfl,hz⟩ | ⟨gb,cap,cur,rfl,hbase,hgb,r1,r2,r3,r4⟩
  · -- nothing came: the nil slice is sorted and handed back
    have hss:ss = []:=List.eq_nil_of_length_eq_zero hz
    subst hss
    gi_wp2_with (gi_at_call 80; refine (hsort.2 none 0 W).mono ?_; rintro e w' ⟨rfl,rfl⟩)
    go_ret
    exact ⟨.slice none 0 0,[],rfl,hS,by simpa using hrow,by simp,hb⟩
  · have hH:Holds encStr W gb 0 ss.toArray:=holds_of_block hgb (by simpa using r4)
    have hgl:gb < W.heap.size:=(Array.getElem?_eq_some_iff.1 hgb).1
    have hsz:ss.length < 4611686018427387904:=by omega
    have cS:=hsort.1 gb 0 cap ss W hH hgl hsz
    gi_wp2_with (gi_at_call 80; refine cS.mono ?_; rintro e w' ⟨rfl,nn,os,rfl⟩)
    go_ret
    exact ⟨_,ss,rfl,hS,ownsRow_sorted (by simp) hbase hgb r1 r2 r3,hnil,hb.grown (grownBy_sorted _) hb.size (fun j hj=>by cases hj; exact hbase)⟩
/-- slices.Sort's contracts, laid at this program, at the fence that asks nothing. -/
theorem sorts_wide (m:Nat):SortsIn Fence.wide m :=
  ⟨fun blk off cap ss W hH hblk hsz=>callsIn_wide.2 (Tryz.slices_Sort_string blk off cap ss W hH hblk hsz),
   fun p cap W=>callsIn_wide.2 (Tryz.slices_Sort_string_none p cap W)⟩
/-- Whether no two are alike: as many are left when they are sorted and runs are cut. -/
def differ (zs:List (List UInt8)):Bool:=decide ((Lib.compact (zs.mergeSort fun x y=>decide (x ≤ y))).length = zs.length)
set_option maxRecDepth 100000 in
set_option maxHeartbeats 2000000 in
theorem areDiff_in (a : Option Addr) (cap : Nat) (zs : List (List UInt8)) (hreach : zs.length * 16 ≤ 140737488351232) (w : World) (hI : Strs w.heap.size w (.slice a zs.length cap) zs) :
    CallsIn Fence.wide 10 Tryz.prog 50 #[.slice a zs.length cap] w fun e w'=>e = .returned (.bool (differ zs)) ∧ Below w.heap.size w w':=by
  have hro:Fence.wide.round = none:=rfl
  have hf1:Fence.wide.fn 63:=trivial
  have hf2:Fence.wide.fn 62:=trivial
  have hf3:Fence.wide.fn 61:=trivial
  have h1:1 ≤ 10:=by omega
  have hseq:SeqGivesB Fence.wide 6 Tryz.prog 81 #[.pointer (some ⟨w.heap.size,0,none⟩)] encStr (fun ys=>ys = zs) zs.length (w.alloc (.cells #[.slice a zs.length cap] 75)) :=
    values_gives Fence.wide 6 trivial hro (by omega) w.heap.size _ zs hreach _ (by simp) (Boxed.new w 75 (.slice a zs.length cap)).cell (by
      have h1:=hI.below ((Below.refl _ w).alloc (Nat.le_refl _) (.cells #[.slice a zs.length cap] 75))
      rcases h1 with h1 | ⟨b,off,cap',e1,hb,hcs⟩
      · exact .inl h1
      · exact .inr ⟨b,off,cap',e1,by simp; omega,hcs⟩)
  refine callsIn_of_wp Tryz.func50 rfl trivial ?_ hro
  simp only [Tryz.ntmps50,List.size_toArray,List.length_cons,List.length_nil,Nat.reduceAdd,Nat.reduceSub,Array.replicate_succ,Array.replicate_zero,List.push_toArray,List.append_toArray,List.nil_append,List.cons_append]
  gi_wp2_with (first
    | (gi_at_call 63; refine (values_in Fence.wide 9 trivial hro _ _ _ _).mono ?_; rintro e w' ⟨rfl,rfl⟩)
    | (gi_at_call 62; refine (sorted_in Fence.wide 9 trivial trivial trivial trivial hro (by omega) (sorts_wide _) 81 _ trivial (enters_of Tryz.func81 (by kernel_rfl) rfl) _ zs.length (by have:maxLen = 9223372036854775807:=rfl; omega) (by omega) _ (fun ss hs=>Nat.le_of_eq (by rw [hs])) hseq).mono ?_; rintro e w' ⟨v,ss,rfl,rfl,hrow,hnil,hb⟩))
  have hB0:Below w.heap.size w (w.alloc (.cells #[.slice a ss.length cap] 75)):=(Below.refl _ w).alloc (Nat.le_refl _) _
  rcases hrow.2 with ⟨rfl,hz⟩ | ⟨gb,cp,cur,rfl,hbase,hgb,r1,r2,r3,r4⟩
  · have hss:ss = []:=List.eq_nil_of_length_eq_zero hz
    subst hss
    gi_wp2_with (gi_at_call 61; refine (callsIn_wide.2 (Tryz.slices_Compact_string_empty none 0 _)).mono ?_; rintro e w' ⟨rfl,rfl⟩)
    go_ret
    exact ⟨by simp [differ,Lib.compact,Lib.compactUpTo],hB0.trans (hb.mono (by simp))⟩
  · have hle:(ss.mergeSort fun x y=>decide (x ≤ y)).length = ss.length:=by simp
    have hc:=Tryz.slices_Compact_string gb 0 cp (ss.mergeSort fun x y=>decide (x ≤ y)) w' (holds_of_block hgb (by simpa using r4)) (by omega) (by omega)
    rw [hle] at hc
    gi_wp2_with (gi_at_call 61; refine (callsIn_wide.2 hc).mono ?_; rintro e w' ⟨rfl,q,rfl⟩)
    go_ret
    refine ⟨?_,(hB0.trans (hb.mono (by simp))).grown (row:=some gb) ?_ ?_ ?_⟩
    · have he : ((((Lib.compact (ss.mergeSort fun x y => decide (x ≤ y))).length : Nat) : Int) == ((ss.length : Nat) : Int)) = differ ss := by
        unfold differ
        rw [Bool.eq_iff_iff]
        simp
        omega
      exact congrArg (fun b=>Ending.returned (Value.bool b)) he
    · have e:∀ W:World,W = grow W #[]:=fun W=>by simp [grow]
      rw [e (putRow _ _ _ _ _)]
      exact grownBy_sorted _
    · have:=hb.size; simp at this; omega
    · intro k hk
      cases hk
      simp at hbase
      omega
theorem areDiff (a : Option Addr) (cap : Nat) (zs : List (List UInt8)) (hreach : zs.length * 16 ≤ 140737488351232) (w : World) (hI : Strs w.heap.size w (.slice a zs.length cap) zs) :
    Calls Tryz.prog 50 #[.slice a zs.length cap] w fun e w'=>e = .returned (.bool (differ zs)) ∧ Below w.heap.size w w':=callsIn_wide.1 (areDiff_in a cap zs hreach w hI)
end Go.Proofs.YtoclajfeeebbbadGreatDoor.Sq
