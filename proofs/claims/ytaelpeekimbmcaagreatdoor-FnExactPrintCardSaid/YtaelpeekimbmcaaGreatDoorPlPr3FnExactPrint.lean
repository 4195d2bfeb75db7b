/- Print: lines, statements, blocks. -/
import Derived.Test.YtaelpeekimbmcaaGreatDoorPlPr2FnExactPrint
set_option linter.unusedVariables false
set_option linter.unusedSimpArgs false
namespace Go.Proofs.YtaelpeekimbmcaaGreatDoor.T
open Go.RowKit Go.Proofs.YtaelpeekimbmcaaGreatDoor.E Go.Proofs.YtaelpeekimbmcaaGreatDoor.V
theorem yAs:(⟨#[32,58,61,32]⟩:ByteArray).size = 4:=rfl
theorem yRe:(⟨#[82,69,84,85,82,78]⟩:ByteArray).size = 6:=rfl
theorem yWr:(⟨#[87,82,73,84,69,40]⟩:ByteArray).size = 6:=rfl
theorem yRd:(⟨#[82,69,65,68,40]⟩:ByteArray).size = 5:=rfl
theorem yWh:(⟨#[87,72,73,76,69,32]⟩:ByteArray).size = 6:=rfl
theorem yDo:(⟨#[32,68,79]⟩:ByteArray).size = 3:=rfl
theorem yIf:(⟨#[73,70,32]⟩:ByteArray).size = 3:=rfl
theorem yTh:(⟨#[32,84,72,69,78]⟩:ByteArray).size = 5:=rfl
theorem yEl:(⟨#[69,76,83,69]⟩:ByteArray).size = 4:=rfl
theorem yEn:(⟨#[69,78,68]⟩:ByteArray).size = 3:=rfl
theorem yBe:(⟨#[66,69,71,73,78]⟩:ByteArray).size = 5:=rfl
theorem bytesOf_app (a b:ByteArray):bytesOf (a ++ b) = bytesOf a ++ bytesOf b:=by simp [bytesOf]
theorem bytesOf_rep:∀ d:Nat,bytesOf ⟨(Lib.repeatL [32,32] d).toArray⟩ = List.replicate (2 * d) 32
  | 0=>rfl
  | d + 1=>by
    have h:=bytesOf_rep d
    simp only [bytesOf] at h ⊢
    rw [Lib.repeatL,List.map_append,h,show 2 * (d + 1) = 2 + 2 * d by omega,← List.replicate_append_replicate]
    rfl
theorem app_nil (a:ByteArray):a ++ (⟨#[]⟩:ByteArray) = a:=by apply ba_ext; simp
theorem app_as (a b c:ByteArray):(a ++ b) ++ c = a ++ (b ++ c):=by apply ba_ext; simp
/-- A line. -/
def Ln (d:Nat) (t:ByteArray):List Int:=List.replicate (2 * d) 32 ++ (bytesOf t ++ [10])
theorem Ln_len (d:Nat) (t:ByteArray):(Ln d t).length = 2 * d + t.size + 1:=by
  simp only [Ln,List.length_append,List.length_replicate,bytesOf_length,List.length_cons,List.length_nil]; omega
theorem iline (k : Nat) {t : ByteArray} {b : Bool} {out : List Int} {d : Nat} (ht : t.size ≤ 1000000) (hd : d ≤ 2000) (ho : out.length ≤ 10000000000000) :
    impl_printer__line_1.f k t b out (d:Int) = some (true,out ++ Ln d t):=by
  have e:impl_printer__line_1.f k t b out (d:Int) = some (true,out ++ bytesOf (((⟨(Lib.repeatL [32,32] d).toArray⟩:ByteArray) ++ t) ++ (⟨#[10]⟩:ByteArray))):=by
    have hz:(⟨(Lib.repeatL [32,32] d).toArray⟩:ByteArray).size = 2 * d:=by
      rw [← bytesOf_length,bytesOf_rep,List.length_replicate]
    have z10:(⟨#[10]⟩:ByteArray).size = 1:=rfl
    have z22:(⟨#[32,32]⟩:ByteArray).size = 2:=rfl
    unfold impl_printer__line_1.f strings_Repeat.f
    rw [Int.toNat_natCast,if_pos ⟨by omega,by omega,by rw [z22]; omega⟩,Option.bind_some]
    rw [show (⟨(Lib.repeatL (⟨#[32,32]⟩:ByteArray).data.toList d).toArray⟩:ByteArray) = ⟨(Lib.repeatL [32,32] d).toArray⟩ from rfl]
    rw [if_pos (by omega),if_pos (by rw [ByteArray.size_append,z10]; omega)]
    unfold strings_Builder__WriteString_2.f
    have ec:strings_Builder__copyCheck_2.f k b out (d:Int) = some true:=by
      unfold strings_Builder__copyCheck_2.f
      cases b <;> simp
    rw [ec,Option.bind_some,if_pos ?_]
    · rfl
    · rw [List.length_append,bytesOf_length]
      simp only [ByteArray.size_append,z10]
      omega
  rw [e,bytesOf_app,bytesOf_app,bytesOf_rep,List.append_assoc]
  rfl
theorem sl_run (b0 : Sfffb48) (d : Nat) (hd : d ≤ 2000) (hb : b0.f1 = (d : Int)) (ho : b0.f0.length ≤ 10000000000000) : ∀ (m i k : Nat), i + m = d → m + 1 ≤ k →
    spec_l02Writer__line_2.l1 k b0 (i:Int) (b0.f0 ++ List.replicate (2 * i) 32) = some (b0.f0 ++ List.replicate (2 * d) 32):=by
  intro m
  induction m with
  | zero =>
    intro i k hi hk
    obtain ⟨k,rfl⟩:∃ j,k = j + 1:=⟨k - 1,by omega⟩
    obtain rfl:i = d:=by omega
    rw [spec_l02Writer__line_2.l1.eq_2,if_neg (by omega)]
  | succ m ih =>
    intro i k hi hk
    obtain ⟨k,rfl⟩:∃ j,k = j + 1:=⟨k - 1,by omega⟩
    rw [spec_l02Writer__line_2.l1.eq_2,if_pos (by omega),if_pos (by simp only [List.length_append,List.length_replicate,List.length_cons,List.length_nil]; omega),w64_next (by omega)]
    have e:(b0.f0 ++ List.replicate (2 * i) 32) ++ [32,32] = b0.f0 ++ List.replicate (2 * (i + 1)) (32:Int):=by
      rw [List.append_assoc,show 2 * (i + 1) = 2 * i + 2 by omega,← List.replicate_append_replicate]
      rfl
    rw [e]
    exact ih (i + 1) k (by omega) (by omega)
theorem sline {k : Nat} {t : ByteArray} {out : List Int} {d : Nat} (hk : d + 1 ≤ k) (ht : t.size ≤ 1000000) (hd : d ≤ 2000) (ho : out.length ≤ 10000000000000) :
    spec_l02Writer__line_2.f k t (⟨out,(d:Int)⟩:Sfffb48) = some (out ++ Ln d t):=by
  have h:=sl_run ⟨out,(d:Int)⟩ d hd rfl ho d 0 k (by omega) hk
  unfold spec_l02Writer__line_2.f spec_l02Writer__line_2.e2
  rw [show (out ++ List.replicate (2 * 0) 32:List Int) = out by simp] at h
  rw [show ((0:Nat):Int) = 0 from rfl] at h
  rw [h,Option.bind_some,if_pos (by simp only [List.length_append,List.length_replicate,bytesOf_length]; omega),if_pos (by simp only [List.length_append,List.length_replicate,bytesOf_length,List.length_cons,List.length_nil]; omega)]
  simp only [Ln,List.append_assoc]
/-! What statements and blocks come to. -/
def kid (x:SNode) (i:Nat):SNode:=x.f4.getD i ⟨0,0,⟨#[]⟩,⟨#[]⟩,[]⟩
def eT (more:Bool):ByteArray:=if more = true then (⟨#[59]⟩:ByteArray) else ⟨#[]⟩
theorem eT_size (more:Bool):(eT more).size ≤ 1:=by cases more <;> decide
theorem send (k:Nat) {t:ByteArray} (more:Bool) (ht:t.size ≤ 1000000):spec_l02End.f k t more = some (t ++ eT more):=by
  unfold spec_l02End.f
  cases more
  · rw [if_neg (by simp),eT,if_neg (by simp),app_nil]
  · rw [if_pos rfl,eT,if_pos rfl,if_pos (by first | omega | (simp only [ByteArray.size_append,z40,z41,z91,z93,z32,z44,z46,z59,z42,yAs,yRe,yWr,yRd,yWh,yDo,yIf,yTh,yEl,yEn,yBe] at *; omega))]
noncomputable def stm (x:SNode) (e:ByteArray) (d:Nat) (kb:List (List Int)):List Int :=
  if x.f0 = 11 then Ln d (((txT (kid x 0) ++ (⟨#[32,58,61,32]⟩:ByteArray)) ++ txT (kid x 1)) ++ e)
  else if x.f0 = 12 then Ln d (txT x ++ e)
  else if x.f0 = 15 then Ln d (if x.f4.isEmpty then (⟨#[82,69,84,85,82,78]⟩:ByteArray) ++ e else (⟨#[82,69,84,85,82,78]⟩:ByteArray) ++ (((⟨#[32]⟩:ByteArray) ++ txT (kid x 0)) ++ e))
  else if x.f0 = 16 then Ln d ((((⟨#[87,82,73,84,69,40]⟩:ByteArray) ++ txT (kid x 0)) ++ (⟨#[41]⟩:ByteArray)) ++ e)
  else if x.f0 = 17 then Ln d ((((⟨#[82,69,65,68,40]⟩:ByteArray) ++ txT (kid x 0)) ++ (⟨#[41]⟩:ByteArray)) ++ e)
  else if x.f0 = 14 then (Ln d (((⟨#[87,72,73,76,69,32]⟩:ByteArray) ++ txT (kid x 0)) ++ (⟨#[32,68,79]⟩:ByteArray)) ++ kb.getD 1 []) ++ Ln d ((⟨#[69,78,68]⟩:ByteArray) ++ e)
  else (Ln d (((⟨#[73,70,32]⟩:ByteArray) ++ txT (kid x 0)) ++ (⟨#[32,84,72,69,78]⟩:ByteArray)) ++ (kb.getD 1 [] ++ (if x.f4.length = 3 then Ln d (⟨#[69,76,83,69]⟩:ByteArray) ++ kb.getD 2 [] else []))) ++ Ln d ((⟨#[69,78,68]⟩:ByteArray) ++ e)
mutual
noncomputable def SV:SNode → Bool → Nat → List Int
  | ⟨a,b,c,f,l⟩,more,d=>stm ⟨a,b,c,f,l⟩ (eT more) d (KV l (d + 1))
noncomputable def BV:SNode → Nat → List Int
  | ⟨a,b,c,f,l⟩,d=>BL l d
noncomputable def BL:List SNode → Nat → List Int
  | [],d=>[]
  | y :: l,d=>SV y (!l.isEmpty) d ++ BL l d
noncomputable def KV:List SNode → Nat → List (List Int)
  | [],d=>[]
  | y :: l,d=>BV y d :: KV l d
end
theorem SV_eq (x:SNode) (more:Bool) (d:Nat):SV x more d = stm x (eT more) d (KV x.f4 (d + 1)):=by cases x; rw [SV]
theorem BV_eq (x:SNode) (d:Nat):BV x d = BL x.f4 d:=by cases x; rw [BV]
theorem KV_map (d:Nat):∀ l,KV l d = l.map fun y=>BV y d
  | []=>by rw [KV]; rfl
  | y :: l=>by rw [KV,KV_map d l]; rfl
theorem tx_size (x:SNode):(txT x).size ≤ 200 * wtV x:=by
  by_cases h:∃ s,ExOK x s
  · have:=(txT_ok h).1; omega
  · unfold txT
    rw [dif_neg h]
    exact Nat.zero_le _
theorem kid_none:wtV ⟨0,0,⟨#[]⟩,⟨#[]⟩,[]⟩ = 1:=rfl
theorem kid_wt (x:SNode):wtV (kid x 0) + wtV (kid x 1) ≤ wtL x.f4 + 2:=by
  unfold kid
  match x.f4 with
  | []=>simp only [List.getD_nil,wtL,kid_none]; omega
  | [a]=>simp only [List.getD_cons_zero,List.getD_cons_succ,List.getD_nil,wtL,kid_none]; omega
  | a :: b :: l=>simp only [List.getD_cons_zero,List.getD_cons_succ,wtL]; omega
theorem getD_len (ks:List (List Int)):(ks.getD 1 []).length + (ks.getD 2 []).length ≤ (ks.map List.length).sum:=by
  match ks with
  | []=>simp
  | [a]=>simp
  | [a,b]=>simp
  | a :: b :: c :: l=>simp; omega
theorem stm_len (x:SNode) (more:Bool) (d:Nat) (kb:List (List Int)) (hd:d + wtV x ≤ 2000) (hk:(kb.map List.length).sum ≤ 2000000 * wtL x.f4):(stm x (eT more) d kb).length ≤ 2000000 * wtV x:=by
  have hx:=wtV_eq x
  have h1:=tx_size (kid x 0)
  have h2:=tx_size (kid x 1)
  have h3:=kid_wt x
  have h4:=tx_size x
  have h5:=getD_len kb
  have h6:=eT_size more
  unfold stm
  repeat' split
  all_goals simp only [List.length_append,Ln_len,ByteArray.size_append,z41,z32,yAs,yRe,yWr,yRd,yWh,yDo,yIf,yTh,yEl,yEn,yBe,List.length_nil]
  all_goals omega
theorem len_ok:∀ (n:Nat) (x:SNode),wtV x ≤ n → ∀ d,d + wtV x ≤ 2000 → (BV x d).length ≤ 2000000 * wtL x.f4 ∧ ∀ more,(SV x more d).length ≤ 2000000 * wtV x
  | 0,x,h,d,hd=>by have:=wtV_eq x; omega
  | n + 1,x,h,d,hd=>by
    have hx:=wtV_eq x
    constructor
    · rw [BV_eq]
      have main:∀ l:List SNode,(∀ y,y ∈ l → y ∈ x.f4) → (BL l d).length ≤ 2000000 * wtL l:=by
        intro l
        induction l with
        | nil=>intro _; rw [BL,wtL]; simp
        | cons y l ih =>
          intro hl
          have hy:=wtL_mem (hl y (List.mem_cons_self ..))
          have h1:=(len_ok n y (by omega) d (by omega)).2 (!l.isEmpty)
          have h2:=ih fun z hz=>hl z (List.mem_cons_of_mem _ hz)
          rw [BL,wtL,List.length_append]
          omega
      exact main _ fun y hy=>hy
    · intro more
      rw [SV_eq]
      refine stm_len x more d _ hd ?_
      have main:∀ l:List SNode,(∀ y,y ∈ l → y ∈ x.f4) → ((KV l (d + 1)).map List.length).sum ≤ 2000000 * wtL l:=by
        intro l
        induction l with
        | nil=>intro _; rw [KV,wtL]; simp
        | cons y l ih =>
          intro hl
          have hy:=wtL_mem (hl y (List.mem_cons_self ..))
          have hyx:=wtV_eq y
          have h1:=(len_ok n y (by omega) (d + 1) (by omega)).1
          have h2:=ih fun z hz=>hl z (List.mem_cons_of_mem _ hz)
          rw [KV,wtL,List.map_cons,List.sum_cons]
          omega
      exact main _ fun y hy=>hy
/-- What the writers do with a statement (a block): K rounds are enough. -/
def Bg:Nat:=10000000000000
def HI (R:SNode → Bool → List Int → Int → Option (Bool × List Int × Int)) (x:SNode) (d:Nat):Prop :=
  ∀ y,y ∈ x.f4 → y.f0 = 10 → ∀ out:List Int,out.length + 2000000 * wtV y ≤ Bg → R y true out ((d + 1:Nat):Int) = some (true,out ++ BV y (d + 1),((d + 1:Nat):Int))
def HS (R:SNode → Sfffb48 → Option (List Int × Int)) (x:SNode) (d:Nat):Prop :=
  ∀ y,y ∈ x.f4 → y.f0 = 10 → ∀ out:List Int,out.length + 2000000 * wtV y ≤ Bg → R y ⟨out,(d:Int)⟩ = some (out ++ BV y (d + 1),(d:Int))
def StI (x:SNode) (K:Nat):Prop:=∀ k,K ≤ k → ∀ d:Nat,d + wtV x ≤ 2000 → ∀ (more:Bool) R,HI R x d → ∀ out:List Int,out.length + 2000000 * wtV x ≤ Bg →
  impl_printer__statement_4.f k R x (eT more) true out (d:Int) = some (true,out ++ SV x more d,(d:Int))
def StS (x:SNode) (K:Nat):Prop:=∀ k,K ≤ k → ∀ d:Nat,d + wtV x ≤ 2000 → ∀ (more:Bool) R,HS R x d → ∀ out:List Int,out.length + 2000000 * wtV x ≤ Bg →
  spec_l02Writer__statement_3.f k R x more ⟨out,(d:Int)⟩ = some (out ++ SV x more d,(d:Int))
theorem tx_k {x:SNode} (hx:Sm x) (ha:allV x = true) (he:exprB x = true) (hw:wtV x ≤ 2000):∃ K,∀ k,K ≤ k → impl_Node__text.f k x = some (txT x) ∧ spec_l02Expr.f k x 0 = some (txT x):=by
  obtain ⟨_,⟨K1,h1⟩,⟨K2,h2⟩⟩:=tx_ok hx ha he (by omega)
  exact ⟨max K1 K2,fun k hk=>⟨h1 k (by omega),h2 k (by omega)⟩⟩
theorem st_16 {x a:SNode} (h0:x.f0 = 16) (hk:x.f4 = [a]) (ha:∃ K,∀ k,K ≤ k → impl_Node__text.f k a = some (txT a) ∧ spec_l02Expr.f k a 0 = some (txT a)):∃ K,StI x K ∧ StS x K:=by
  obtain ⟨K,ha⟩:=ha
  have hx:=wtV_eq x
  rw [hk,wtL,wtL] at hx
  have hta:=tx_size a
  have g0:at? x.f4 0 = some a:=by rw [hk]; rfl
  have hv:∀ more d,SV x more d = Ln d ((((⟨#[87,82,73,84,69,40]⟩:ByteArray) ++ txT a) ++ (⟨#[41]⟩:ByteArray)) ++ eT more):=fun more d=>by
    rw [SV_eq,stm,if_neg (by omega),if_neg (by omega),if_neg (by omega),if_pos h0,show kid x 0 = a by rw [kid,hk]; rfl]
  refine ⟨max K 2002,fun k hk d hd more R hR out ho=>?_,fun k hk d hd more R hR out ho=>?_⟩
  · have he:=eT_size more
    unfold Bg at ho
    unfold impl_printer__statement_4.f
    rw [hv,if_neg (by omega),if_neg (by omega),if_neg (by omega),if_pos h0,g0,Option.bind_some,(ha k (by omega)).1,Option.bind_some,if_pos (by first | omega | (simp only [ByteArray.size_append,z40,z41,z91,z93,z32,z44,z46,z59,z42,yAs,yRe,yWr,yRd,yWh,yDo,yIf,yTh,yEl,yEn,yBe] at *; omega)),if_pos (by first | omega | (simp only [ByteArray.size_append,z40,z41,z91,z93,z32,z44,z46,z59,z42,yAs,yRe,yWr,yRd,yWh,yDo,yIf,yTh,yEl,yEn,yBe] at *; omega)),if_pos (by first | omega | (simp only [ByteArray.size_append,z40,z41,z91,z93,z32,z44,z46,z59,z42,yAs,yRe,yWr,yRd,yWh,yDo,yIf,yTh,yEl,yEn,yBe] at *; omega)),iline k (by first | omega | (simp only [ByteArray.size_append,z40,z41,z91,z93,z32,z44,z46,z59,z42,yAs,yRe,yWr,yRd,yWh,yDo,yIf,yTh,yEl,yEn,yBe] at *; omega)) (by omega) (by omega),Option.bind_some]
  · have he:=eT_size more
    unfold Bg at ho
    unfold spec_l02Writer__statement_3.f
    rw [hv,if_neg (by omega),if_neg (by omega),if_neg (by omega),if_pos h0,g0,Option.bind_some,(ha k (by omega)).2,Option.bind_some,if_pos (by first | omega | (simp only [ByteArray.size_append,z40,z41,z91,z93,z32,z44,z46,z59,z42,yAs,yRe,yWr,yRd,yWh,yDo,yIf,yTh,yEl,yEn,yBe] at *; omega)),if_pos (by first | omega | (simp only [ByteArray.size_append,z40,z41,z91,z93,z32,z44,z46,z59,z42,yAs,yRe,yWr,yRd,yWh,yDo,yIf,yTh,yEl,yEn,yBe] at *; omega)),send k more (by first | omega | (simp only [ByteArray.size_append,z40,z41,z91,z93,z32,z44,z46,z59,z42,yAs,yRe,yWr,yRd,yWh,yDo,yIf,yTh,yEl,yEn,yBe] at *; omega)),Option.bind_some,sline (out:=out) (d:=d) (by omega) (by first | omega | (simp only [ByteArray.size_append,z40,z41,z91,z93,z32,z44,z46,z59,z42,yAs,yRe,yWr,yRd,yWh,yDo,yIf,yTh,yEl,yEn,yBe] at *; omega)) (by omega) (by omega),Option.bind_some]
theorem st_17 {x a:SNode} (h0:x.f0 = 17) (hk:x.f4 = [a]) (ha:∃ K,∀ k,K ≤ k → impl_Node__text.f k a = some (txT a) ∧ spec_l02Expr.f k a 0 = some (txT a)):∃ K,StI x K ∧ StS x K:=by
  obtain ⟨K,ha⟩:=ha
  have hx:=wtV_eq x
  rw [hk,wtL,wtL] at hx
  have hta:=tx_size a
  have g0:at? x.f4 0 = some a:=by rw [hk]; rfl
  have hv:∀ more d,SV x more d = Ln d ((((⟨#[82,69,65,68,40]⟩:ByteArray) ++ txT a) ++ (⟨#[41]⟩:ByteArray)) ++ eT more):=fun more d=>by
    rw [SV_eq,stm,if_neg (by omega),if_neg (by omega),if_neg (by omega),if_neg (by omega),if_pos h0,show kid x 0 = a by rw [kid,hk]; rfl]
  refine ⟨max K 2002,fun k hk d hd more R hR out ho=>?_,fun k hk d hd more R hR out ho=>?_⟩
  · have he:=eT_size more
    unfold Bg at ho
    unfold impl_printer__statement_4.f
    rw [hv,if_neg (by omega),if_neg (by omega),if_neg (by omega),if_neg (by omega),if_pos h0,g0,Option.bind_some,(ha k (by omega)).1,Option.bind_some,if_pos (by first | omega | (simp only [ByteArray.size_append,z40,z41,z91,z93,z32,z44,z46,z59,z42,yAs,yRe,yWr,yRd,yWh,yDo,yIf,yTh,yEl,yEn,yBe] at *; omega)),if_pos (by first | omega | (simp only [ByteArray.size_append,z40,z41,z91,z93,z32,z44,z46,z59,z42,yAs,yRe,yWr,yRd,yWh,yDo,yIf,yTh,yEl,yEn,yBe] at *; omega)),if_pos (by first | omega | (simp only [ByteArray.size_append,z40,z41,z91,z93,z32,z44,z46,z59,z42,yAs,yRe,yWr,yRd,yWh,yDo,yIf,yTh,yEl,yEn,yBe] at *; omega)),iline k (by first | omega | (simp only [ByteArray.size_append,z40,z41,z91,z93,z32,z44,z46,z59,z42,yAs,yRe,yWr,yRd,yWh,yDo,yIf,yTh,yEl,yEn,yBe] at *; omega)) (by omega) (by omega),Option.bind_some]
  · have he:=eT_size more
    unfold Bg at ho
    unfold spec_l02Writer__statement_3.f
    rw [hv,if_neg (by omega),if_neg (by omega),if_neg (by omega),if_neg (by omega),if_pos h0,g0,Option.bind_some,(ha k (by omega)).2,Option.bind_some,if_pos (by first | omega | (simp only [ByteArray.size_append,z40,z41,z91,z93,z32,z44,z46,z59,z42,yAs,yRe,yWr,yRd,yWh,yDo,yIf,yTh,yEl,yEn,yBe] at *; omega)),if_pos (by first | omega | (simp only [ByteArray.size_append,z40,z41,z91,z93,z32,z44,z46,z59,z42,yAs,yRe,yWr,yRd,yWh,yDo,yIf,yTh,yEl,yEn,yBe] at *; omega)),send k more (by first | omega | (simp only [ByteArray.size_append,z40,z41,z91,z93,z32,z44,z46,z59,z42,yAs,yRe,yWr,yRd,yWh,yDo,yIf,yTh,yEl,yEn,yBe] at *; omega)),Option.bind_some,sline (out:=out) (d:=d) (by omega) (by first | omega | (simp only [ByteArray.size_append,z40,z41,z91,z93,z32,z44,z46,z59,z42,yAs,yRe,yWr,yRd,yWh,yDo,yIf,yTh,yEl,yEn,yBe] at *; omega)) (by omega) (by omega),Option.bind_some]
theorem st_11 {x a b:SNode} (h0:x.f0 = 11) (hk:x.f4 = [a,b]) (ha:∃ K,∀ k,K ≤ k → impl_Node__text.f k a = some (txT a) ∧ spec_l02Expr.f k a 0 = some (txT a)) (hb:∃ K,∀ k,K ≤ k → impl_Node__text.f k b = some (txT b) ∧ spec_l02Expr.f k b 0 = some (txT b)):∃ K,StI x K ∧ StS x K:=by
  obtain ⟨K1,ha⟩:=ha
  obtain ⟨K2,hb⟩:=hb
  have hx:=wtV_eq x
  rw [hk,wtL,wtL,wtL] at hx
  have hta:=tx_size a
  have htb:=tx_size b
  have g0:at? x.f4 0 = some a:=by rw [hk]; rfl
  have g1:at? x.f4 1 = some b:=by rw [hk]; rfl
  have hv:∀ more d,SV x more d = Ln d (((txT a ++ (⟨#[32,58,61,32]⟩:ByteArray)) ++ txT b) ++ eT more):=fun more d=>by
    rw [SV_eq,stm,if_pos h0,show kid x 0 = a by rw [kid,hk]; rfl,show kid x 1 = b by rw [kid,hk]; rfl]
  refine ⟨max (max K1 K2) 2002,fun k hk d hd more R hR out ho=>?_,fun k hk d hd more R hR out ho=>?_⟩
  · have he:=eT_size more
    unfold Bg at ho
    unfold impl_printer__statement_4.f
    rw [hv,if_pos h0,g0,Option.bind_some,(ha k (by omega)).1,Option.bind_some,if_pos (by first | omega | (simp only [ByteArray.size_append,z40,z41,z91,z93,z32,z44,z46,z59,z42,yAs,yRe,yWr,yRd,yWh,yDo,yIf,yTh,yEl,yEn,yBe] at *; omega)),g1,Option.bind_some,(hb k (by omega)).1,Option.bind_some,if_pos (by first | omega | (simp only [ByteArray.size_append,z40,z41,z91,z93,z32,z44,z46,z59,z42,yAs,yRe,yWr,yRd,yWh,yDo,yIf,yTh,yEl,yEn,yBe] at *; omega)),if_pos (by first | omega | (simp only [ByteArray.size_append,z40,z41,z91,z93,z32,z44,z46,z59,z42,yAs,yRe,yWr,yRd,yWh,yDo,yIf,yTh,yEl,yEn,yBe] at *; omega)),iline k (by first | omega | (simp only [ByteArray.size_append,z40,z41,z91,z93,z32,z44,z46,z59,z42,yAs,yRe,yWr,yRd,yWh,yDo,yIf,yTh,yEl,yEn,yBe] at *; omega)) (by omega) (by omega),Option.bind_some]
  · have he:=eT_size more
    unfold Bg at ho
    unfold spec_l02Writer__statement_3.f
    rw [hv,if_pos h0,g0,Option.bind_some,(ha k (by omega)).2,Option.bind_some,if_pos (by first | omega | (simp only [ByteArray.size_append,z40,z41,z91,z93,z32,z44,z46,z59,z42,yAs,yRe,yWr,yRd,yWh,yDo,yIf,yTh,yEl,yEn,yBe] at *; omega)),g1,Option.bind_some,(hb k (by omega)).2,Option.bind_some,if_pos (by first | omega | (simp only [ByteArray.size_append,z40,z41,z91,z93,z32,z44,z46,z59,z42,yAs,yRe,yWr,yRd,yWh,yDo,yIf,yTh,yEl,yEn,yBe] at *; omega)),send k more (by first | omega | (simp only [ByteArray.size_append,z40,z41,z91,z93,z32,z44,z46,z59,z42,yAs,yRe,yWr,yRd,yWh,yDo,yIf,yTh,yEl,yEn,yBe] at *; omega)),Option.bind_some,sline (out:=out) (d:=d) (by omega) (by first | omega | (simp only [ByteArray.size_append,z40,z41,z91,z93,z32,z44,z46,z59,z42,yAs,yRe,yWr,yRd,yWh,yDo,yIf,yTh,yEl,yEn,yBe] at *; omega)) (by omega) (by omega),Option.bind_some]
theorem st_12 {x:SNode} (h0:x.f0 = 12) (ha:∃ K,∀ k,K ≤ k → impl_Node__text.f k x = some (txT x) ∧ spec_l02Expr.f k x 0 = some (txT x)):∃ K,StI x K ∧ StS x K:=by
  obtain ⟨K1,ha⟩:=ha
  have hx:=wtV_eq x
  have hta:=tx_size x
  have hv:∀ more d,SV x more d = Ln d (txT x ++ eT more):=fun more d=>by
    rw [SV_eq,stm,if_neg (by omega),if_pos h0]
  refine ⟨max K1 2002,fun k hk d hd more R hR out ho=>?_,fun k hk d hd more R hR out ho=>?_⟩
  · have he:=eT_size more
    unfold Bg at ho
    unfold impl_printer__statement_4.f
    rw [hv,if_neg (by omega),if_pos h0,(ha k (by omega)).1,Option.bind_some,if_pos (by first | omega | (simp only [ByteArray.size_append,z40,z41,z91,z93,z32,z44,z46,z59,z42,yAs,yRe,yWr,yRd,yWh,yDo,yIf,yTh,yEl,yEn,yBe] at *; omega)),iline k (by first | omega | (simp only [ByteArray.size_append,z40,z41,z91,z93,z32,z44,z46,z59,z42,yAs,yRe,yWr,yRd,yWh,yDo,yIf,yTh,yEl,yEn,yBe] at *; omega)) (by omega) (by omega),Option.bind_some]
  · have he:=eT_size more
    unfold Bg at ho
    unfold spec_l02Writer__statement_3.f
    rw [hv,if_neg (by omega),if_pos h0,(ha k (by omega)).2,Option.bind_some,send k more (by first | omega | (simp only [ByteArray.size_append,z40,z41,z91,z93,z32,z44,z46,z59,z42,yAs,yRe,yWr,yRd,yWh,yDo,yIf,yTh,yEl,yEn,yBe] at *; omega)),Option.bind_some,sline (out:=out) (d:=d) (by omega) (by first | omega | (simp only [ByteArray.size_append,z40,z41,z91,z93,z32,z44,z46,z59,z42,yAs,yRe,yWr,yRd,yWh,yDo,yIf,yTh,yEl,yEn,yBe] at *; omega)) (by omega) (by omega),Option.bind_some]
theorem st_15a {x:SNode} (h0:x.f0 = 15) (hk:x.f4 = []):∃ K,StI x K ∧ StS x K:=by
  have hx:=wtV_eq x
  have hl:¬ (0:Int) < (x.f4.length:Int):=by rw [hk]; decide
  have hv:∀ more d,SV x more d = Ln d ((⟨#[82,69,84,85,82,78]⟩:ByteArray) ++ eT more):=fun more d=>by
    rw [SV_eq,stm,if_neg (by omega),if_neg (by omega),if_pos h0,if_pos (by rw [hk]; rfl)]
  refine ⟨2002,fun k hk d hd more R hR out ho=>?_,fun k hk d hd more R hR out ho=>?_⟩
  · have he:=eT_size more
    unfold Bg at ho
    unfold impl_printer__statement_4.f impl_printer__statement_4.e1
    rw [hv,if_neg (by omega),if_neg (by omega),if_pos h0,if_neg hl,Option.bind_some,if_pos (by first | omega | (simp only [ByteArray.size_append,z40,z41,z91,z93,z32,z44,z46,z59,z42,yAs,yRe,yWr,yRd,yWh,yDo,yIf,yTh,yEl,yEn,yBe] at *; omega)),iline k (by first | omega | (simp only [ByteArray.size_append,z40,z41,z91,z93,z32,z44,z46,z59,z42,yAs,yRe,yWr,yRd,yWh,yDo,yIf,yTh,yEl,yEn,yBe] at *; omega)) (by omega) (by omega),Option.bind_some]
  · have he:=eT_size more
    unfold Bg at ho
    unfold spec_l02Writer__statement_3.f spec_l02Writer__statement_3.e1
    rw [hv,if_neg (by omega),if_neg (by omega),if_pos h0,if_neg hl,Option.bind_some,send k more (by first | omega | (simp only [ByteArray.size_append,z40,z41,z91,z93,z32,z44,z46,z59,z42,yAs,yRe,yWr,yRd,yWh,yDo,yIf,yTh,yEl,yEn,yBe] at *; omega)),Option.bind_some,sline (out:=out) (d:=d) (by omega) (by first | omega | (simp only [ByteArray.size_append,z40,z41,z91,z93,z32,z44,z46,z59,z42,yAs,yRe,yWr,yRd,yWh,yDo,yIf,yTh,yEl,yEn,yBe] at *; omega)) (by omega) (by omega),Option.bind_some]
theorem st_15b {x a:SNode} (h0:x.f0 = 15) (hk:x.f4 = [a]) (ha:∃ K,∀ k,K ≤ k → impl_Node__text.f k a = some (txT a) ∧ spec_l02Expr.f k a 0 = some (txT a)):∃ K,StI x K ∧ StS x K:=by
  obtain ⟨K1,ha⟩:=ha
  have hx:=wtV_eq x
  rw [hk,wtL,wtL] at hx
  have hta:=tx_size a
  have g0:at? x.f4 0 = some a:=by rw [hk]; rfl
  have hl:(0:Int) < (x.f4.length:Int):=by rw [hk]; simp
  have hv:∀ more d,SV x more d = Ln d ((⟨#[82,69,84,85,82,78]⟩:ByteArray) ++ (((⟨#[32]⟩:ByteArray) ++ txT a) ++ eT more)):=fun more d=>by
    rw [SV_eq,stm,if_neg (by omega),if_neg (by omega),if_pos h0,if_neg (by rw [hk]; simp),show kid x 0 = a by rw [kid,hk]; rfl]
  refine ⟨max K1 2002,fun k hk d hd more R hR out ho=>?_,fun k hk d hd more R hR out ho=>?_⟩
  · have he:=eT_size more
    unfold Bg at ho
    unfold impl_printer__statement_4.f impl_printer__statement_4.e1
    rw [hv,if_neg (by omega),if_neg (by omega),if_pos h0,if_pos hl,g0,Option.bind_some,(ha k (by omega)).1,Option.bind_some,if_pos (by first | omega | (simp only [ByteArray.size_append,z40,z41,z91,z93,z32,z44,z46,z59,z42,yAs,yRe,yWr,yRd,yWh,yDo,yIf,yTh,yEl,yEn,yBe] at *; omega)),if_pos (by first | omega | (simp only [ByteArray.size_append,z40,z41,z91,z93,z32,z44,z46,z59,z42,yAs,yRe,yWr,yRd,yWh,yDo,yIf,yTh,yEl,yEn,yBe] at *; omega)),Option.bind_some,if_pos (by first | omega | (simp only [ByteArray.size_append,z40,z41,z91,z93,z32,z44,z46,z59,z42,yAs,yRe,yWr,yRd,yWh,yDo,yIf,yTh,yEl,yEn,yBe] at *; omega)),iline k (by first | omega | (simp only [ByteArray.size_append,z40,z41,z91,z93,z32,z44,z46,z59,z42,yAs,yRe,yWr,yRd,yWh,yDo,yIf,yTh,yEl,yEn,yBe] at *; omega)) (by omega) (by omega),Option.bind_some]
  · have he:=eT_size more
    unfold Bg at ho
    unfold spec_l02Writer__statement_3.f spec_l02Writer__statement_3.e1
    rw [hv,if_neg (by omega),if_neg (by omega),if_pos h0,if_pos hl,g0,Option.bind_some,(ha k (by omega)).2,Option.bind_some,if_pos (by first | omega | (simp only [ByteArray.size_append,z40,z41,z91,z93,z32,z44,z46,z59,z42,yAs,yRe,yWr,yRd,yWh,yDo,yIf,yTh,yEl,yEn,yBe] at *; omega)),if_pos (by first | omega | (simp only [ByteArray.size_append,z40,z41,z91,z93,z32,z44,z46,z59,z42,yAs,yRe,yWr,yRd,yWh,yDo,yIf,yTh,yEl,yEn,yBe] at *; omega)),Option.bind_some,send k more (by first | omega | (simp only [ByteArray.size_append,z40,z41,z91,z93,z32,z44,z46,z59,z42,yAs,yRe,yWr,yRd,yWh,yDo,yIf,yTh,yEl,yEn,yBe] at *; omega)),Option.bind_some,← app_as,sline (out:=out) (d:=d) (by omega) (by first | omega | (simp only [ByteArray.size_append,z40,z41,z91,z93,z32,z44,z46,z59,z42,yAs,yRe,yWr,yRd,yWh,yDo,yIf,yTh,yEl,yEn,yBe] at *; omega)) (by omega) (by omega),Option.bind_some]
    simp only [app_as]
theorem deep3 {k:Nat} {R} {x b:SNode} {d:Nat} (hR:HI R x d) (hm:at? x.f4 1 = some b) (h10:b.f0 = 10) {out:List Int} (hd:d ≤ 2000) (ho:out.length + 2000000 * wtV b ≤ Bg):impl_printer__deeper_13.f k R true out (d:Int) x = some (true,out ++ BV b (d + 1),(d:Int)):=by
  have hb:b ∈ x.f4:=by
    unfold at? at hm
    rw [if_pos (by decide)] at hm
    exact List.mem_of_getElem? hm
  unfold impl_printer__deeper_13.f impl_printer__statement_1_3.f
  rw [hm,Option.bind_some,w64_next (by omega),hR b hb h10 out ho,Option.bind_some,Option.bind_some]
  rw [show w64 ((((d + 1:Nat):Int)) - 1) = (d:Int) by rw [w64_id (by omega) (by omega)]; omega]
theorem deep4 {k:Nat} {R} {x b:SNode} {d:Nat} (hR:HI R x d) (hm:at? x.f4 1 = some b) (h10:b.f0 = 10) {out:List Int} (hd:d ≤ 2000) (ho:out.length + 2000000 * wtV b ≤ Bg):impl_printer__deeper_14.f k R true out (d:Int) x = some (true,out ++ BV b (d + 1),(d:Int)):=by
  have hb:b ∈ x.f4:=by
    unfold at? at hm
    rw [if_pos (by decide)] at hm
    exact List.mem_of_getElem? hm
  unfold impl_printer__deeper_14.f impl_printer__statement_2_3.f
  rw [hm,Option.bind_some,w64_next (by omega),hR b hb h10 out ho,Option.bind_some,Option.bind_some]
  rw [show w64 ((((d + 1:Nat):Int)) - 1) = (d:Int) by rw [w64_id (by omega) (by omega)]; omega]
theorem deep5 {k:Nat} {R} {x b:SNode} {d:Nat} (hR:HI R x d) (hm:at? x.f4 2 = some b) (h10:b.f0 = 10) {out:List Int} (hd:d ≤ 2000) (ho:out.length + 2000000 * wtV b ≤ Bg):impl_printer__deeper_15.f k R true out (d:Int) x = some (true,out ++ BV b (d + 1),(d:Int)):=by
  have hb:b ∈ x.f4:=by
    unfold at? at hm
    rw [if_pos (by decide)] at hm
    exact List.mem_of_getElem? hm
  unfold impl_printer__deeper_15.f impl_printer__statement_3_3.f
  rw [hm,Option.bind_some,w64_next (by omega),hR b hb h10 out ho,Option.bind_some,Option.bind_some]
  rw [show w64 ((((d + 1:Nat):Int)) - 1) = (d:Int) by rw [w64_id (by omega) (by omega)]; omega]
theorem st_14 {x a b:SNode} (h0:x.f0 = 14) (hk:x.f4 = [a,b]) (h10:b.f0 = 10) (ha:∃ K,∀ k,K ≤ k → impl_Node__text.f k a = some (txT a) ∧ spec_l02Expr.f k a 0 = some (txT a)):∃ K,StI x K ∧ StS x K:=by
  obtain ⟨K1,ha⟩:=ha
  have hx:=wtV_eq x
  rw [hk,wtL,wtL,wtL] at hx
  have hta:=tx_size a
  have hbx:=wtV_eq b
  have g0:at? x.f4 0 = some a:=by rw [hk]; rfl
  have g1:at? x.f4 1 = some b:=by rw [hk]; rfl
  have mb:b ∈ x.f4:=by rw [hk]; simp
  have hv:∀ more d,SV x more d = (Ln d (((⟨#[87,72,73,76,69,32]⟩:ByteArray) ++ txT a) ++ (⟨#[32,68,79]⟩:ByteArray)) ++ BV b (d + 1)) ++ Ln d ((⟨#[69,78,68]⟩:ByteArray) ++ eT more):=fun more d=>by
    rw [SV_eq,stm,if_neg (by omega),if_neg (by omega),if_neg (by omega),if_neg (by omega),if_neg (by omega),if_pos h0,show kid x 0 = a by rw [kid,hk]; rfl,KV_map,hk]
    rfl
  refine ⟨max K1 2002,fun k hk d hd more R hR out ho=>?_,fun k hk d hd more R hR out ho=>?_⟩
  · have he:=eT_size more
    unfold Bg at ho
    have hbl:=(len_ok _ b (Nat.le_refl _) (d + 1) (by omega)).1
    have ll:=Ln_len d (((⟨#[87,72,73,76,69,32]⟩:ByteArray) ++ txT a) ++ (⟨#[32,68,79]⟩:ByteArray))
    simp only [ByteArray.size_append,yAs,yRe,yWr,yRd,yWh,yDo,yIf,yTh,yEl,yEn,yBe] at ll
    unfold impl_printer__statement_4.f
    rw [hv,if_neg (by omega),if_neg (by omega),if_neg (by omega),if_neg (by omega),if_neg (by omega),if_pos h0,g0,Option.bind_some,(ha k (by omega)).1,Option.bind_some,if_pos (by first | omega | (simp only [ByteArray.size_append,z40,z41,z91,z93,z32,z44,z46,z59,z42,yAs,yRe,yWr,yRd,yWh,yDo,yIf,yTh,yEl,yEn,yBe] at *; omega)),if_pos (by first | omega | (simp only [ByteArray.size_append,z40,z41,z91,z93,z32,z44,z46,z59,z42,yAs,yRe,yWr,yRd,yWh,yDo,yIf,yTh,yEl,yEn,yBe] at *; omega)),iline k (by first | omega | (simp only [ByteArray.size_append,z40,z41,z91,z93,z32,z44,z46,z59,z42,yAs,yRe,yWr,yRd,yWh,yDo,yIf,yTh,yEl,yEn,yBe] at *; omega)) (by omega) (by omega),Option.bind_some]
    rw [deep3 hR g1 h10 (by omega) (by unfold Bg; rw [List.length_append]; omega),Option.bind_some,if_pos (by first | omega | (simp only [ByteArray.size_append,z40,z41,z91,z93,z32,z44,z46,z59,z42,yAs,yRe,yWr,yRd,yWh,yDo,yIf,yTh,yEl,yEn,yBe] at *; omega)),iline k (by first | omega | (simp only [ByteArray.size_append,z40,z41,z91,z93,z32,z44,z46,z59,z42,yAs,yRe,yWr,yRd,yWh,yDo,yIf,yTh,yEl,yEn,yBe] at *; omega)) (by omega) (by simp only [List.length_append]; omega),Option.bind_some]
    simp only [List.append_assoc]
  · have he:=eT_size more
    unfold Bg at ho
    have hbl:=(len_ok _ b (Nat.le_refl _) (d + 1) (by omega)).1
    have ll:=Ln_len d (((⟨#[87,72,73,76,69,32]⟩:ByteArray) ++ txT a) ++ (⟨#[32,68,79]⟩:ByteArray))
    simp only [ByteArray.size_append,yAs,yRe,yWr,yRd,yWh,yDo,yIf,yTh,yEl,yEn,yBe] at ll
    unfold spec_l02Writer__statement_3.f
    rw [hv,if_neg (by omega),if_neg (by omega),if_neg (by omega),if_neg (by omega),if_neg (by omega),if_pos h0,g0,Option.bind_some,(ha k (by omega)).2,Option.bind_some,if_pos (by first | omega | (simp only [ByteArray.size_append,z40,z41,z91,z93,z32,z44,z46,z59,z42,yAs,yRe,yWr,yRd,yWh,yDo,yIf,yTh,yEl,yEn,yBe] at *; omega)),if_pos (by first | omega | (simp only [ByteArray.size_append,z40,z41,z91,z93,z32,z44,z46,z59,z42,yAs,yRe,yWr,yRd,yWh,yDo,yIf,yTh,yEl,yEn,yBe] at *; omega)),sline (out:=out) (d:=d) (by omega) (by first | omega | (simp only [ByteArray.size_append,z40,z41,z91,z93,z32,z44,z46,z59,z42,yAs,yRe,yWr,yRd,yWh,yDo,yIf,yTh,yEl,yEn,yBe] at *; omega)) (by omega) (by omega),Option.bind_some,g1,Option.bind_some]
    rw [hR b mb h10 _ (by unfold Bg; rw [List.length_append]; omega),Option.bind_some,send k more (by first | omega | (simp only [ByteArray.size_append,z40,z41,z91,z93,z32,z44,z46,z59,z42,yAs,yRe,yWr,yRd,yWh,yDo,yIf,yTh,yEl,yEn,yBe] at *; omega)),Option.bind_some,sline (out:=(out ++ Ln d (((⟨#[87,72,73,76,69,32]⟩:ByteArray) ++ txT a) ++ (⟨#[32,68,79]⟩:ByteArray))) ++ BV b (d + 1)) (d:=d) (by omega) (by first | omega | (simp only [ByteArray.size_append,z40,z41,z91,z93,z32,z44,z46,z59,z42,yAs,yRe,yWr,yRd,yWh,yDo,yIf,yTh,yEl,yEn,yBe] at *; omega)) (by omega) (by simp only [List.length_append]; omega),Option.bind_some]
    simp only [List.append_assoc]
theorem st_13 {x a b:SNode} {cs:List SNode} (h0:x.f0 = 13) (hk:x.f4 = a :: b :: cs) (h10:b.f0 = 10) (hcs:cs = [] ∨ ∃ c,cs = [c] ∧ c.f0 = 10) (ha:∃ K,∀ k,K ≤ k → impl_Node__text.f k a = some (txT a) ∧ spec_l02Expr.f k a 0 = some (txT a)):∃ K,StI x K ∧ StS x K:=by
  obtain ⟨K1,ha⟩:=ha
  have hx:=wtV_eq x
  rw [hk,wtL,wtL] at hx
  have hta:=tx_size a
  have hbx:=wtV_eq b
  have g0:at? x.f4 0 = some a:=by rw [hk]; rfl
  have g1:at? x.f4 1 = some b:=by rw [hk]; rfl
  have mb:b ∈ x.f4:=by rw [hk]; simp
  have hv:∀ more d,SV x more d = (Ln d (((⟨#[73,70,32]⟩:ByteArray) ++ txT a) ++ (⟨#[32,84,72,69,78]⟩:ByteArray)) ++ (BV b (d + 1) ++ (if x.f4.length = 3 then Ln d (⟨#[69,76,83,69]⟩:ByteArray) ++ BV (kid x 2) (d + 1) else []))) ++ Ln d ((⟨#[69,78,68]⟩:ByteArray) ++ eT more):=fun more d=>by
    rw [SV_eq,stm,if_neg (by omega),if_neg (by omega),if_neg (by omega),if_neg (by omega),if_neg (by omega),if_neg (by omega),show kid x 0 = a by rw [kid,hk]; rfl,KV_map]
    have e1:(x.f4.map fun y=>BV y (d + 1)).getD 1 [] = BV b (d + 1):=by rw [hk]; rfl
    rw [e1]
    by_cases h3:x.f4.length = 3
    · have e2 : (x.f4.map fun y => BV y (d + 1)).getD 2 [] = BV (kid x 2) (d + 1) := by
        rcases hcs with hc | ⟨c,hc,_⟩
        · rw [hk,hc] at h3; cases h3
        · rw [kid,hk,hc]; rfl
      rw [e2]
    · rw [if_neg h3,if_neg h3]
  have ye:(⟨#[69,76,83,69]⟩:ByteArray).size = 4:=rfl
  refine ⟨max K1 2002,fun k hk2 d hd more R hR out ho=>?_,fun k hk2 d hd more R hR out ho=>?_⟩
  · have he:=eT_size more
    unfold Bg at ho
    have hbl:=(len_ok _ b (Nat.le_refl _) (d + 1) (by omega)).1
    have ll:=Ln_len d (((⟨#[73,70,32]⟩:ByteArray) ++ txT a) ++ (⟨#[32,84,72,69,78]⟩:ByteArray))
    simp only [ByteArray.size_append,yAs,yRe,yWr,yRd,yWh,yDo,yIf,yTh,yEl,yEn,yBe] at ll
    have l2:=Ln_len d (⟨#[69,76,83,69]⟩:ByteArray)
    rw [ye] at l2
    unfold impl_printer__statement_4.f
    rw [hv,if_neg (by omega),if_neg (by omega),if_neg (by omega),if_neg (by omega),if_neg (by omega),if_neg (by omega),g0,Option.bind_some,(ha k (by omega)).1,Option.bind_some,if_pos (by first | omega | (simp only [ByteArray.size_append,z40,z41,z91,z93,z32,z44,z46,z59,z42,yAs,yRe,yWr,yRd,yWh,yDo,yIf,yTh,yEl,yEn,yBe] at *; omega)),if_pos (by first | omega | (simp only [ByteArray.size_append,z40,z41,z91,z93,z32,z44,z46,z59,z42,yAs,yRe,yWr,yRd,yWh,yDo,yIf,yTh,yEl,yEn,yBe] at *; omega)),iline k (by first | omega | (simp only [ByteArray.size_append,z40,z41,z91,z93,z32,z44,z46,z59,z42,yAs,yRe,yWr,yRd,yWh,yDo,yIf,yTh,yEl,yEn,yBe] at *; omega)) (by omega) (by omega),Option.bind_some]
    rw [deep4 hR g1 h10 (by omega) (by unfold Bg; rw [List.length_append]; omega),Option.bind_some]
    have ee:∃ L:List Int,L.length ≤ 2000000 * wtL cs + 5000 ∧ L = (if x.f4.length = 3 then Ln d (⟨#[69,76,83,69]⟩:ByteArray) ++ BV (kid x 2) (d + 1) else []) ∧ impl_printer__statement_4.e2 k x R (true,(out ++ Ln d (((⟨#[73,70,32]⟩:ByteArray) ++ txT a) ++ (⟨#[32,84,72,69,78]⟩:ByteArray))) ++ BV b (d + 1),(d:Int)) = some (true,((out ++ Ln d (((⟨#[73,70,32]⟩:ByteArray) ++ txT a) ++ (⟨#[32,84,72,69,78]⟩:ByteArray))) ++ BV b (d + 1)) ++ L,(d:Int)):=by
      unfold impl_printer__statement_4.e2
      rcases hcs with hc | ⟨c,hc,c10⟩
      · refine ⟨[],by simp,?_,?_⟩
        · rw [hk,hc]; rfl
        · rw [if_neg (by rw [hk,hc]; simp only [List.length_cons,List.length_nil]; omega),List.append_nil]
      · have hcx:=wtV_eq c
        rw [hc,wtL,wtL] at hx
        have hcl:=(len_ok _ c (Nat.le_refl _) (d + 1) (by omega)).1
        have g2:at? x.f4 2 = some c:=by rw [hk,hc]; rfl
        have ek:kid x 2 = c:=by rw [kid,hk,hc]; rfl
        refine ⟨Ln d (⟨#[69,76,83,69]⟩:ByteArray) ++ BV c (d + 1),?_,?_,?_⟩
        · rw [hc,wtL,wtL,List.length_append]; omega
        · rw [if_pos (show x.f4.length = 3 by rw [hk,hc]; rfl),ek]
        · rw [if_pos (by rw [hk,hc]; simp only [List.length_cons,List.length_nil]; omega),iline k (by first | omega | (simp only [ByteArray.size_append,z40,z41,z91,z93,z32,z44,z46,z59,z42,yAs,yRe,yWr,yRd,yWh,yDo,yIf,yTh,yEl,yEn,yBe] at *; omega)) (by omega) (by simp only [List.length_append]; omega),Option.bind_some]
          rw [deep5 hR g2 c10 (by omega) (by unfold Bg; simp only [List.length_append]; omega),Option.bind_some]
          simp only [List.append_assoc]
    obtain ⟨L,hL,eL,hee⟩:=ee
    rw [hee,Option.bind_some,← eL]
    show (if _ then _ else _) = _
    rw [if_pos (by first | omega | (simp only [ByteArray.size_append,z40,z41,z91,z93,z32,z44,z46,z59,z42,yAs,yRe,yWr,yRd,yWh,yDo,yIf,yTh,yEl,yEn,yBe] at *; omega)),iline k (by first | omega | (simp only [ByteArray.size_append,z40,z41,z91,z93,z32,z44,z46,z59,z42,yAs,yRe,yWr,yRd,yWh,yDo,yIf,yTh,yEl,yEn,yBe] at *; omega)) (by omega) (by simp only [List.length_append]; omega),Option.bind_some]
    simp only [List.append_assoc]
  · have he:=eT_size more
    unfold Bg at ho
    have hbl:=(len_ok _ b (Nat.le_refl _) (d + 1) (by omega)).1
    have ll:=Ln_len d (((⟨#[73,70,32]⟩:ByteArray) ++ txT a) ++ (⟨#[32,84,72,69,78]⟩:ByteArray))
    simp only [ByteArray.size_append,yAs,yRe,yWr,yRd,yWh,yDo,yIf,yTh,yEl,yEn,yBe] at ll
    have l2:=Ln_len d (⟨#[69,76,83,69]⟩:ByteArray)
    rw [ye] at l2
    unfold spec_l02Writer__statement_3.f
    rw [hv,if_neg (by omega),if_neg (by omega),if_neg (by omega),if_neg (by omega),if_neg (by omega),if_neg (by omega),g0,Option.bind_some,(ha k (by omega)).2,Option.bind_some,if_pos (by first | omega | (simp only [ByteArray.size_append,z40,z41,z91,z93,z32,z44,z46,z59,z42,yAs,yRe,yWr,yRd,yWh,yDo,yIf,yTh,yEl,yEn,yBe] at *; omega)),if_pos (by first | omega | (simp only [ByteArray.size_append,z40,z41,z91,z93,z32,z44,z46,z59,z42,yAs,yRe,yWr,yRd,yWh,yDo,yIf,yTh,yEl,yEn,yBe] at *; omega)),sline (out:=out) (d:=d) (by omega) (by first | omega | (simp only [ByteArray.size_append,z40,z41,z91,z93,z32,z44,z46,z59,z42,yAs,yRe,yWr,yRd,yWh,yDo,yIf,yTh,yEl,yEn,yBe] at *; omega)) (by omega) (by omega),Option.bind_some,g1,Option.bind_some]
    rw [hR b mb h10 _ (by unfold Bg; rw [List.length_append]; omega),Option.bind_some]
    have ee:∃ L:List Int,L.length ≤ 2000000 * wtL cs + 5000 ∧ L = (if x.f4.length = 3 then Ln d (⟨#[69,76,83,69]⟩:ByteArray) ++ BV (kid x 2) (d + 1) else []) ∧ spec_l02Writer__statement_3.e2 k x R ((out ++ Ln d (((⟨#[73,70,32]⟩:ByteArray) ++ txT a) ++ (⟨#[32,84,72,69,78]⟩:ByteArray))) ++ BV b (d + 1),(d:Int)) = some (((out ++ Ln d (((⟨#[73,70,32]⟩:ByteArray) ++ txT a) ++ (⟨#[32,84,72,69,78]⟩:ByteArray))) ++ BV b (d + 1)) ++ L,(d:Int)):=by
      unfold spec_l02Writer__statement_3.e2
      rcases hcs with hc | ⟨c,hc,c10⟩
      · refine ⟨[],by simp,?_,?_⟩
        · rw [hk,hc]; rfl
        · rw [if_neg (by rw [hk,hc]; simp only [List.length_cons,List.length_nil]; omega),List.append_nil]
      · have hcx:=wtV_eq c
        rw [hc,wtL,wtL] at hx
        have hcl:=(len_ok _ c (Nat.le_refl _) (d + 1) (by omega)).1
        have g2:at? x.f4 2 = some c:=by rw [hk,hc]; rfl
        have mc:c ∈ x.f4:=by rw [hk,hc]; simp
        have ek:kid x 2 = c:=by rw [kid,hk,hc]; rfl
        refine ⟨Ln d (⟨#[69,76,83,69]⟩:ByteArray) ++ BV c (d + 1),?_,?_,?_⟩
        · rw [hc,wtL,wtL,List.length_append]; omega
        · rw [if_pos (show x.f4.length = 3 by rw [hk,hc]; rfl),ek]
        · rw [if_pos (by rw [hk,hc]; simp only [List.length_cons,List.length_nil]; omega),sline (out:=(out ++ Ln d (((⟨#[73,70,32]⟩:ByteArray) ++ txT a) ++ (⟨#[32,84,72,69,78]⟩:ByteArray))) ++ BV b (d + 1)) (d:=d) (by omega) (by first | omega | (simp only [ByteArray.size_append,z40,z41,z91,z93,z32,z44,z46,z59,z42,yAs,yRe,yWr,yRd,yWh,yDo,yIf,yTh,yEl,yEn,yBe] at *; omega)) (by omega) (by simp only [List.length_append]; omega),Option.bind_some,g2,Option.bind_some]
          rw [hR c mc c10 _ (by unfold Bg; simp only [List.length_append]; omega),Option.bind_some]
          simp only [List.append_assoc]
    obtain ⟨L,hL,eL,hee⟩:=ee
    rw [hee,Option.bind_some,← eL]
    show Option.bind _ _ = _
    rw [send k more (by first | omega | (simp only [ByteArray.size_append,z40,z41,z91,z93,z32,z44,z46,z59,z42,yAs,yRe,yWr,yRd,yWh,yDo,yIf,yTh,yEl,yEn,yBe] at *; omega)),Option.bind_some,sline (out:=((out ++ Ln d (((⟨#[73,70,32]⟩:ByteArray) ++ txT a) ++ (⟨#[32,84,72,69,78]⟩:ByteArray))) ++ BV b (d + 1)) ++ L) (d:=d) (by omega) (by first | omega | (simp only [ByteArray.size_append,z40,z41,z91,z93,z32,z44,z46,z59,z42,yAs,yRe,yWr,yRd,yWh,yDo,yIf,yTh,yEl,yEn,yBe] at *; omega)) (by omega) (by simp only [List.length_append]; omega),Option.bind_some]
    simp only [List.append_assoc]
end Go.Proofs.YtaelpeekimbmcaaGreatDoor.T
