/- Print: types, names with a star, joined texts, groups of lines. -/
import Derived.Test.YtaelpeekimbmcaaGreatDoorPlPr4FnExactPrint
set_option linter.unusedVariables false
set_option linter.unusedSimpArgs false
namespace Go.Proofs.YtaelpeekimbmcaaGreatDoor.T
open Go.RowKit Go.Proofs.YtaelpeekimbmcaaGreatDoor.E Go.Proofs.YtaelpeekimbmcaaGreatDoor.V
theorem xAr:(⟨#[65,82,82,65,89,32]⟩:ByteArray).size = 6:=rfl
theorem xOf:(⟨#[32,79,70,32]⟩:ByteArray).size = 4:=rfl
theorem xCo:(⟨#[58,32]⟩:ByteArray).size = 2:=rfl
theorem xEq:(⟨#[32,61,32]⟩:ByteArray).size = 3:=rfl
theorem xVr:(⟨#[86,65,82,32]⟩:ByteArray).size = 4:=rfl
theorem xSp:(⟨#[32,32]⟩:ByteArray).size = 2:=rfl
theorem xSe:(⟨#[59,32]⟩:ByteArray).size = 2:=rfl
/-! Types. -/
def words:List ByteArray:=[(⟨#[]⟩:ByteArray),(⟨#[73,78,84,69,71,69,82]⟩:ByteArray),(⟨#[66,79,79,76,69,65,78]⟩:ByteArray),(⟨#[67,72,65,82]⟩:ByteArray)]
def baseT (n:Int):ByteArray:=words.getD n.toNat ⟨#[]⟩
theorem base_at {n:Int} (h:0 ≤ n ∧ n ≤ 3):at? words n = some (baseT n) ∧ (baseT n).size ≤ 7:=by
  have:n = 0 ∨ n = 1 ∨ n = 2 ∨ n = 3:=by omega
  rcases this with rfl | rfl | rfl | rfl <;> exact ⟨rfl,by decide⟩
theorem sbase (k:Nat) {n:Int} (h:0 ≤ n ∧ n ≤ 3):spec_l02Base.f k n = some (baseT n):=by
  unfold spec_l02Base.f
  rw [show at? ([(⟨#[]⟩:ByteArray),(⟨#[73,78,84,69,71,69,82]⟩:ByteArray),(⟨#[66,79,79,76,69,65,78]⟩:ByteArray),(⟨#[67,72,65,82]⟩:ByteArray)]:List ByteArray) n = at? words n from rfl,(base_at h).1,Option.bind_some]
theorem iwords (k:Nat):impl_typeWords.f k = some words:=rfl
def tyT (y:SNode):ByteArray:=if y.f0 = 9 then (((⟨#[65,82,82,65,89,32]⟩:ByteArray) ++ G.itoaB y.f1) ++ (⟨#[32,79,70,32]⟩:ByteArray)) ++ baseT (kid y 0).f1 else baseT y.f1
theorem ty8 {y:SNode} (ha:allV y = true) (h0:y.f0 = 8):0 ≤ y.f1 ∧ y.f1 ≤ 3:=by
  have:=(num_in (all_ok ha).2.1).2.2.2.2.1 h0
  omega
theorem ity8 (k:Nat) {y:SNode} (ha:allV y = true) (h0:y.f0 = 8):impl_typeText.f (k + 1) y = some (baseT y.f1):=by
  rw [impl_typeText.f.eq_2,if_neg (by omega),iwords,Option.bind_some,(base_at (ty8 ha h0)).1,Option.bind_some]
theorem ty_k {y:SNode} (ha:allV y = true) (h:varB y = true):(tyT y).size ≤ 60 ∧ ∃ K,∀ k,K ≤ k → impl_typeText.f k y = some (tyT y) ∧ spec_l02Type.f k y = some (tyT y):=by
  unfold varB at h
  simp only [Bool.or_eq_true,decide_eq_true_eq] at h
  rcases h with h0 | h0
  · have hb:=base_at (ty8 ha h0)
    have e:tyT y = baseT y.f1:=by unfold tyT; rw [if_neg (by omega)]
    rw [e]
    refine ⟨by omega,1,fun k hk=>?_⟩
    obtain ⟨k,rfl⟩:∃ j,k = j + 1:=⟨k - 1,by omega⟩
    refine ⟨ity8 k ha h0,?_⟩
    unfold spec_l02Type.f
    rw [if_neg (by omega),sbase _ (ty8 ha h0),Option.bind_some]
  · obtain ⟨hn,hnum,hkb,hall⟩:=all_ok ha
    have h1:=(num_in hnum).2.2.2.2.2 h0
    unfold kidsB at hkb
    rw [h0] at hkb
    have hke:k1 (ofB 8) y.f4 = true:=hkb
    obtain ⟨c,hc,p⟩:=kids_1 hke
    have c0:c.f0 = 8:=of_decide_eq_true p
    have hac:=hall c (by rw [hc]; simp)
    have hb:=base_at (ty8 hac c0)
    have hi:G.i64B y.f1:=⟨by omega,by omega⟩
    have hs:=G.itoaB_size hi
    have g0:at? y.f4 0 = some c:=by rw [hc]; rfl
    have e:tyT y = (((⟨#[65,82,82,65,89,32]⟩:ByteArray) ++ G.itoaB y.f1) ++ (⟨#[32,79,70,32]⟩:ByteArray)) ++ baseT c.f1:=by
      unfold tyT
      rw [if_pos h0,show kid y 0 = c by rw [kid,hc]; rfl]
    rw [e]
    obtain ⟨K,hK0⟩:=G.digits_ev hi
    have hK:∀ k,K ≤ k → spec_l00Digits.f k y.f1 = some (G.itoaB y.f1):=hK0
    have hsz:=hb.2
    refine ⟨(by first | omega | (simp only [ByteArray.size_append,z40,z41,z32,z44,z46,z59,z42,xAr,xOf,xCo,xEq,xVr,xSp,xSe] at *; omega)),max K 2,fun k hk=>⟨?_,?_⟩⟩
    · obtain ⟨k,rfl⟩:∃ j,k = j + 1 + 1:=⟨k - 2,by omega⟩
      rw [impl_typeText.f.eq_2,if_pos h0,G.itoa_f _ hi,Option.bind_some,if_pos (by first | omega | (simp only [ByteArray.size_append,z40,z41,z32,z44,z46,z59,z42,xAr,xOf,xCo,xEq,xVr,xSp,xSe] at *; omega)),if_pos (by first | omega | (simp only [ByteArray.size_append,z40,z41,z32,z44,z46,z59,z42,xAr,xOf,xCo,xEq,xVr,xSp,xSe] at *; omega)),g0,Option.bind_some,ity8 k hac c0,Option.bind_some,if_pos (by first | omega | (simp only [ByteArray.size_append,z40,z41,z32,z44,z46,z59,z42,xAr,xOf,xCo,xEq,xVr,xSp,xSe] at *; omega))]
    · unfold spec_l02Type.f
      rw [if_pos h0,hK k (by omega),Option.bind_some,if_pos (by first | omega | (simp only [ByteArray.size_append,z40,z41,z32,z44,z46,z59,z42,xAr,xOf,xCo,xEq,xVr,xSp,xSe] at *; omega)),if_pos (by first | omega | (simp only [ByteArray.size_append,z40,z41,z32,z44,z46,z59,z42,xAr,xOf,xCo,xEq,xVr,xSp,xSe] at *; omega)),g0,Option.bind_some,sbase _ (ty8 hac c0),Option.bind_some,if_pos (by first | omega | (simp only [ByteArray.size_append,z40,z41,z32,z44,z46,z59,z42,xAr,xOf,xCo,xEq,xVr,xSp,xSe] at *; omega))]
/-! Names. -/
theorem nm_size {y:SNode} (h:namesB y = true) (h0:y.f0 = 1 ∨ y.f0 = 2 ∨ y.f0 = 3 ∨ y.f0 = 4 ∨ y.f0 = 5 ∨ y.f0 = 6):1 ≤ y.f2.size ∧ y.f2.size ≤ 40:=by
  unfold namesB at h
  rw [if_pos (show isIn [1,2,3,4,5,6] y.f0 = true by rcases h0 with e | e | e | e | e | e <;> (rw [e]; rfl))] at h
  simp only [Bool.and_eq_true] at h
  exact mod_size h.1
def star (y:SNode):ByteArray:=if y.f1 = 1 then y.f2 ++ (⟨#[42]⟩:ByteArray) else y.f2
theorem star_size (y:SNode):(star y).size ≤ y.f2.size + 1:=by
  unfold star
  split
  · exact (by first | omega | (simp only [ByteArray.size_append,z40,z41,z32,z44,z46,z59,z42,xAr,xOf,xCo,xEq,xVr,xSp,xSe] at *; omega))
  · omega
theorem sstar (k:Nat) {y:SNode} (h:y.f2.size ≤ 40):spec_l02Star.f k y = some (star y):=by
  unfold spec_l02Star.f star
  by_cases h1:y.f1 = 1
  · rw [if_pos h1,if_pos h1,if_pos (by first | omega | (simp only [ByteArray.size_append,z40,z41,z32,z44,z46,z59,z42,xAr,xOf,xCo,xEq,xVr,xSp,xSe] at *; omega))]
  · rw [if_neg h1,if_neg h1]
theorem istar (k:Nat) {y:SNode} (h:y.f2.size ≤ 40):impl_Node__starred.f k y = some (star y):=sstar k h
/-! Joined texts, one after the other. -/
def J (s:ByteArray):Bool → List ByteArray → ByteArray
  | _,[]=>⟨#[]⟩
  | f,t :: r=>(if f = true then t else s ++ t) ++ J s false r
theorem nil_app (a:ByteArray):(⟨#[]⟩:ByteArray) ++ a = a:=by apply ba_ext; simp
theorem J_tail (s:ByteArray):∀ l:List ByteArray,(J s false l).data.toList = Lib.joinTail s.data.toList (l.map (·.data.toList))
  | []=>rfl
  | t :: r=>by
    rw [J,if_neg (by simp),ByteArray.data_append,ByteArray.data_append,Array.toList_append,Array.toList_append,J_tail s r]
    simp [Lib.joinTail]
theorem join_J (s:ByteArray) (l:List ByteArray):joinOf l s = J s true l:=by
  apply ba_ext
  cases l with
  | nil=>rfl
  | cons t r =>
    rw [J,if_pos rfl,ByteArray.data_append,Array.toList_append,J_tail]
    show (Lib.join (List.map _ (t :: r)) s.data.toList).toArray.toList = _
    rw [List.map_cons,Lib.join_cons]
def jsz (l:List ByteArray):Nat:=(l.map fun t=>t.size + 2).sum
theorem J_size {s:ByteArray} (hs:s.size = 2):∀ (l:List ByteArray) (f:Bool),(J s f l).size ≤ jsz l
  | [],f=>Nat.zero_le _
  | t :: r,f=>by
    have:=J_size hs r false
    simp only [jsz,List.map_cons,List.sum_cons] at this ⊢
    rw [J,ByteArray.size_append]
    split
    · omega
    · rw [ByteArray.size_append]; omega
theorem jsz_le (p:SNode → Bool) (g:SNode → ByteArray):∀ l:List SNode,(∀ y,y ∈ l → p y = true → (g y).size + 2 ≤ 1000 * wtV y) → jsz ((l.filter p).map g) ≤ 1000 * wtL l
  | [],_=>Nat.zero_le _
  | y :: l,h=>by
    have h1:=jsz_le p g l fun z hz=>h z (List.mem_cons_of_mem _ hz)
    rw [wtL,List.filter_cons]
    split
    · rename_i hp
      have h2:=h y (List.mem_cons_self ..) hp
      simp only [jsz,List.map_cons,List.sum_cons] at h1 ⊢
      omega
    · omega
/-! Groups of lines. -/
noncomputable def lnT (a:Int) (y:SNode):ByteArray :=
  if a = 3 then ((star y ++ (⟨#[32,61,32]⟩:ByteArray)) ++ txT (kid y 0)) ++ (⟨#[59]⟩:ByteArray)
  else if a = 4 then ((star y ++ (⟨#[58,32]⟩:ByteArray)) ++ tyT (kid y 0)) ++ (⟨#[59]⟩:ByteArray)
  else y.f2
noncomputable def lns (a:Int) (l:List SNode):List ByteArray:=(l.filter (ofB a)).map (lnT a)
def GF (d:Nat):List ByteArray → List Int
  | []=>[]
  | t :: r=>Ln d t ++ GF d r
def GR (w:ByteArray) (d:Nat) (f:Bool) (l:List ByteArray):List Int:=(if f = true ∧ l ≠ [] then Ln d w else []) ++ GF (d + 1) l
theorem GF_len (d:Nat):∀ l:List ByteArray,(GF d l).length ≤ jsz l + 2 * d * l.length
  | []=>Nat.zero_le _
  | t :: r=>by
    have:=GF_len d r
    rw [GF,List.length_append,Ln_len]
    simp only [jsz,List.map_cons,List.sum_cons,List.length_cons,Nat.mul_add] at this ⊢
    omega
theorem ofB_iff {a:Int} {y:SNode}:ofB a y = true ↔ y.f0 = a:=decide_eq_true_iff
/-- What is to hold of a kid, from k rounds on. -/
def KF (y:SNode) (k:Nat):Prop :=
  (y.f0 = 3 → at? y.f4 0 = some (kid y 0) ∧ (txT (kid y 0)).size ≤ 200 * wtV y ∧ impl_Node__text.f k (kid y 0) = some (txT (kid y 0)) ∧ spec_l02Expr.f k (kid y 0) 0 = some (txT (kid y 0))) ∧
  (y.f0 = 4 → at? y.f4 0 = some (kid y 0) ∧ (tyT (kid y 0)).size ≤ 60 ∧ impl_typeText.f k (kid y 0) = some (tyT (kid y 0)) ∧ spec_l02Type.f k (kid y 0) = some (tyT (kid y 0))) ∧
  (y.f0 = 6 → at? y.f4 0 = some (kid y 0) ∧ (baseT (kid y 0).f1).size ≤ 7 ∧ impl_typeText.f k (kid y 0) = some (baseT (kid y 0).f1) ∧ spec_l02Base.f k (kid y 0).f1 = some (baseT (kid y 0).f1)) ∧
  (y.f0 = 2 ∨ y.f0 = 3 ∨ y.f0 = 4 ∨ y.f0 = 5 ∨ y.f0 = 6 → 1 ≤ y.f2.size ∧ y.f2.size ≤ 40) ∧
  (y.f0 = 7 → 0 ≤ y.f1 ∧ y.f1 ≤ 3)
theorem kf_ok {y:SNode} (hx:Sm y) (ha:allV y = true) (hw:wtV y ≤ 2000):∃ K,∀ k,K ≤ k → KF y k:=by
  obtain ⟨hn,hnum,hkb,hall⟩:=all_ok ha
  have hsm:∀ z,z ∈ y.f4 → Sm z:=by cases hx with | mk h2 h3 h4 k=>exact k
  have hnm:y.f0 = 2 ∨ y.f0 = 3 ∨ y.f0 = 4 ∨ y.f0 = 5 ∨ y.f0 = 6 → 1 ≤ y.f2.size ∧ y.f2.size ≤ 40:=fun h=>nm_size hn (.inr h)
  have h7:y.f0 = 7 → 0 ≤ y.f1 ∧ y.f1 ≤ 3:=fun h=>(num_in hnum).2.2.2.1 h
  unfold kidsB at hkb
  by_cases h3:y.f0 = 3
  · rw [h3] at hkb
    have hke:k1 exprB y.f4 = true:=hkb
    obtain ⟨c,hc,p⟩:=kids_1 hke
    have mc:c ∈ y.f4:=by rw [hc]; simp
    have e:kid y 0 = c:=by rw [kid,hc]; rfl
    have hwc:=wt_kid mc
    have hs:=tx_size c
    obtain ⟨K,hK⟩:=tx_k (hsm c mc) (hall c mc) p (by omega)
    refine ⟨K,fun k hk=>⟨fun _=>?_,fun h=>by omega,fun h=>by omega,hnm,h7⟩⟩
    rw [e]
    exact ⟨by rw [hc]; rfl,by omega,hK k hk⟩
  · by_cases h4:y.f0 = 4
    · rw [h4] at hkb
      have hke:k1 varB y.f4 = true:=hkb
      obtain ⟨c,hc,p⟩:=kids_1 hke
      have mc:c ∈ y.f4:=by rw [hc]; simp
      have e:kid y 0 = c:=by rw [kid,hc]; rfl
      obtain ⟨hs,K,hK⟩:=ty_k (hall c mc) p
      refine ⟨K,fun k hk=>⟨fun h=>absurd h h3,fun _=>?_,fun h=>by omega,hnm,h7⟩⟩
      rw [e]
      exact ⟨by rw [hc]; rfl,hs,hK k hk⟩
    · by_cases h6:y.f0 = 6
      · rw [h6] at hkb
        have hke:k1 (ofB 8) y.f4 = true:=hkb
        obtain ⟨c,hc,p⟩:=kids_1 hke
        have mc:c ∈ y.f4:=by rw [hc]; simp
        have c0:c.f0 = 8:=of_decide_eq_true p
        have e:kid y 0 = c:=by rw [kid,hc]; rfl
        have hb:=base_at (ty8 (hall c mc) c0)
        refine ⟨1,fun k hk=>⟨fun h=>absurd h h3,fun h=>absurd h h4,fun _=>?_,hnm,h7⟩⟩
        obtain ⟨k,rfl⟩:∃ j,k = j + 1:=⟨k - 1,by omega⟩
        rw [e]
        exact ⟨by rw [hc]; rfl,hb.2,ity8 k (hall c mc) c0,sbase _ (ty8 (hall c mc) c0)⟩
      · exact ⟨0,fun k hk=>⟨fun h=>absurd h h3,fun h=>absurd h h4,fun h=>absurd h h6,hnm,h7⟩⟩
theorem lnT_size {a:Int} {y:SNode} {k:Nat} (h:KF y k) (h0:y.f0 = a) (ha:a = 2 ∨ a = 3 ∨ a = 4):(lnT a y).size ≤ 200 * wtV y + 150:=by
  have hw:=wtV_eq y
  have hs:=star_size y
  obtain ⟨p3,p4,p6,pn,p7⟩:=h
  have hn:=pn (by omega)
  unfold lnT
  rcases ha with rfl | rfl | rfl
  · rw [if_neg (by decide),if_neg (by decide)]; omega
  · rw [if_pos rfl]
    have:=(p3 h0).2.1
    exact (by first | omega | (simp only [ByteArray.size_append,z40,z41,z32,z44,z46,z59,z42,xAr,xOf,xCo,xEq,xVr,xSp,xSe] at *; omega))
  · rw [if_neg (by decide),if_pos rfl]
    have:=(p4 h0).2.1
    exact (by first | omega | (simp only [ByteArray.size_append,z40,z41,z32,z44,z46,z59,z42,xAr,xOf,xCo,xEq,xVr,xSp,xSe] at *; omega))
theorem lns_cons {a:Int} {l:List SNode} {i:Nat} (h:i < l.length):lns a (l.drop i) = if l[i].f0 = a then lnT a l[i] :: lns a (l.drop (i + 1)) else lns a (l.drop (i + 1)):=by
  unfold lns
  rw [List.drop_eq_getElem_cons h,List.filter_cons]
  by_cases h0:l[i].f0 = a
  · rw [if_pos (ofB_iff.2 h0),if_pos h0,List.map_cons]
  · rw [if_neg (fun e=>h0 (ofB_iff.1 e)),if_neg h0]
theorem lines_run (x : SNode) (a : Int) (ha : a = 2 ∨ a = 3 ∨ a = 4) (hn : x.f4.length ≤ 1048576) (hw : wtV x ≤ 2000) (K : Nat) (hK : ∀ y, y ∈ x.f4 → ∀ k, K ≤ k → KF y k) :
    ∀ (m i k:Nat) (z:List ByteArray),i + m = x.f4.length → K + m + 1 ≤ k → z.length ≤ i → impl_Node__linesOf.l2 k x a z (i:Int) = some (z ++ lns a (x.f4.drop i)):=by
  intro m
  induction m with
  | zero =>
    intro i k z hi hk hz
    obtain ⟨k,rfl⟩:∃ j,k = j + 1:=⟨k - 1,by omega⟩
    rw [impl_Node__linesOf.l2.eq_2,if_neg (by omega),List.drop_eq_nil_of_le (by omega)]
    simp [lns]
  | succ m ih =>
    intro i k z hi hk hz
    obtain ⟨k,rfl⟩:∃ j,k = j + 1:=⟨k - 1,by omega⟩
    have hlt:i < x.f4.length:=by omega
    have hmem:=List.getElem_mem hlt
    have hwy:=wt_kid hmem
    have hkf:=hK _ hmem k (by omega)
    have he:impl_Node__linesOf.e1 k x a z (i:Int) = some (if x.f4[i].f0 = a then z ++ [lnT a x.f4[i]] else z):=by
      unfold impl_Node__linesOf.e1
      rw [at?_nat hlt,Option.bind_some]
      generalize x.f4[i] = y at hkf hwy
      by_cases h0:y.f0 = a
      · obtain ⟨p3,p4,p6,pn,p7⟩:=hkf
        have hn2:=pn (by omega)
        have hs:=star_size y
        rw [if_pos h0,if_pos h0]
        unfold lnT
        rcases ha with rfl | rfl | rfl
        · simp only [show ((2:Int) = 3) = False by simp,show ((2:Int) = 4) = False by simp,if_false]
          rw [if_pos (by simp only [List.length_append,List.length_cons,List.length_nil]; omega)]
        · obtain ⟨q1,q2,q3,q4⟩:=p3 h0
          simp only [if_true]
          rw [istar k hn2.2,Option.bind_some,if_pos (by first | omega | (simp only [ByteArray.size_append,z40,z41,z32,z44,z46,z59,z42,xAr,xOf,xCo,xEq,xVr,xSp,xSe] at *; omega)),q1,Option.bind_some,q3,Option.bind_some,if_pos (by first | omega | (simp only [ByteArray.size_append,z40,z41,z32,z44,z46,z59,z42,xAr,xOf,xCo,xEq,xVr,xSp,xSe] at *; omega)),if_pos (by first | omega | (simp only [ByteArray.size_append,z40,z41,z32,z44,z46,z59,z42,xAr,xOf,xCo,xEq,xVr,xSp,xSe] at *; omega)),if_pos (by simp only [List.length_append,List.length_cons,List.length_nil]; omega)]
        · obtain ⟨q1,q2,q3,q4⟩:=p4 h0
          simp only [show ((4:Int) = 3) = False by simp,if_false,if_true]
          rw [istar k hn2.2,Option.bind_some,if_pos (by first | omega | (simp only [ByteArray.size_append,z40,z41,z32,z44,z46,z59,z42,xAr,xOf,xCo,xEq,xVr,xSp,xSe] at *; omega)),q1,Option.bind_some,q3,Option.bind_some,if_pos (by first | omega | (simp only [ByteArray.size_append,z40,z41,z32,z44,z46,z59,z42,xAr,xOf,xCo,xEq,xVr,xSp,xSe] at *; omega)),if_pos (by first | omega | (simp only [ByteArray.size_append,z40,z41,z32,z44,z46,z59,z42,xAr,xOf,xCo,xEq,xVr,xSp,xSe] at *; omega)),if_pos (by simp only [List.length_append,List.length_cons,List.length_nil]; omega)]
      · rw [if_neg h0,if_neg h0]
    rw [impl_Node__linesOf.l2.eq_2,if_pos (by omega),he,Option.bind_some,w64_next (by omega),lns_cons hlt]
    by_cases h0:x.f4[i].f0 = a
    · rw [if_pos h0,if_pos h0,ih (i + 1) k _ (by omega) (by omega) (by simp only [List.length_append,List.length_cons,List.length_nil]; omega),List.append_assoc]
      rfl
    · rw [if_neg h0,if_neg h0,ih (i + 1) k _ (by omega) (by omega) (by omega)]
theorem lines_ok {x:SNode} {a:Int} (ha:a = 2 ∨ a = 3 ∨ a = 4) (hn:x.f4.length ≤ 1048576) (hw:wtV x ≤ 2000) {K:Nat} (hK:∀ y,y ∈ x.f4 → ∀ k,K ≤ k → KF y k) {k:Nat} (hk:K + x.f4.length + 1 ≤ k):impl_Node__linesOf.f k x a = some (lns a x.f4):=by
  unfold impl_Node__linesOf.f impl_Node__linesOf.e3
  have h:=lines_run x a ha hn hw K hK x.f4.length 0 k [] (by omega) (by omega) (by simp)
  rw [List.drop_zero,List.nil_append] at h
  rw [show (0:Int) = ((0:Nat):Int) from rfl,h,Option.bind_some]
theorem lns_mem {a:Int} (ha:a = 2 ∨ a = 3 ∨ a = 4) {x:SNode} {K:Nat} (hK:∀ y,y ∈ x.f4 → ∀ k,K ≤ k → KF y k):jsz (lns a x.f4) ≤ 1000 * wtL x.f4 ∧ (∀ t,t ∈ lns a x.f4 → t.size ≤ 200 * wtL x.f4 + 150) ∧ (lns a x.f4).length ≤ wtL x.f4:=by
  refine ⟨jsz_le _ _ _ fun y hy h=>?_,fun t ht=>?_,?_⟩
  · have:=lnT_size (hK y hy K (Nat.le_refl _)) (ofB_iff.1 h) ha
    have:=wtV_eq y
    omega
  · obtain ⟨y,hy,rfl⟩:=List.mem_map.1 ht
    have h2:=List.mem_filter.1 hy
    have:=lnT_size (hK y h2.1 K (Nat.le_refl _)) (ofB_iff.1 h2.2) ha
    have:=wtL_mem h2.1
    omega
  · have:=wtL_len x.f4
    have h:=List.length_filter_le (ofB a) x.f4
    unfold lns
    rw [List.length_map]
    omega
theorem g1_run (ls : List ByteArray) (d : Nat) (hd : d ≤ 2000) (hl : ls.length ≤ 2000) (hs : ∀ t, t ∈ ls → t.size ≤ 1000000) : ∀ (m i k : Nat) (b : Bool) (out : List Int), i + m = ls.length → m + 1 ≤ k → out.length + 1000000000 + 2000000 * m ≤ Bg →
    impl_printer__group_1_2.l1 k ls (d:Int) (i:Int) true out = some (true,out ++ GF d (ls.drop i)):=by
  intro m
  induction m with
  | zero =>
    intro i k b out hi hk ho
    obtain ⟨k,rfl⟩:∃ j,k = j + 1:=⟨k - 1,by omega⟩
    rw [impl_printer__group_1_2.l1.eq_2,if_neg (by omega),List.drop_eq_nil_of_le (by omega),GF,List.append_nil]
  | succ m ih =>
    intro i k b out hi hk ho
    obtain ⟨k,rfl⟩:∃ j,k = j + 1:=⟨k - 1,by omega⟩
    have hlt:i < ls.length:=by omega
    have hz:=hs _ (List.getElem_mem hlt)
    have hL:=Ln_len d ls[i]
    unfold Bg at ho
    rw [impl_printer__group_1_2.l1.eq_2,if_pos (by omega),at?_nat hlt,Option.bind_some,iline k hz (by omega) (by omega),Option.bind_some,w64_next (by omega)]
    rw [ih (i + 1) k true _ (by omega) (by omega) (by unfold Bg; rw [List.length_append]; omega),List.drop_eq_getElem_cons hlt,GF,List.append_assoc]
theorem igroup {k : Nat} {w : ByteArray} (hw : w.size ≤ 100) {ls : List ByteArray} {d : Nat} (hd : d ≤ 1000) (hl : ls.length ≤ 2000) (hs : ∀ t, t ∈ ls → t.size ≤ 1000000) (hk : ls.length + 1 ≤ k) {out : List Int} (ho : out.length ≤ 9000000000000) :
    impl_printer__group_2.f k w ls true out (d:Int) = some (true,out ++ GR w d true ls,(d:Int)):=by
  unfold impl_printer__group_2.f GR
  by_cases h:ls = []
  · subst h
    rw [if_pos (show (([]:List ByteArray).length:Int) = 0 from rfl),if_neg (fun h=>h.2 rfl),GF]
    simp
  · have hp:=List.length_pos_iff.2 h
    have hL:=Ln_len d w
    rw [if_neg (by omega),if_pos ⟨rfl,h⟩,iline k (by omega) (by omega) (by omega),Option.bind_some]
    unfold impl_printer__deeper_2.f impl_printer__group_1_2.f
    have hr:=g1_run ls (d + 1) (by omega) hl hs ls.length 0 k true (out ++ Ln d w) (by omega) (by omega) (by unfold Bg; rw [List.length_append]; omega)
    rw [w64_next (by omega)]
    rw [show (0:Int) = ((0:Nat):Int) from rfl,hr,Option.bind_some,Option.bind_some]
    rw [show w64 ((((d + 1:Nat):Int)) - 1) = (d:Int) by rw [w64_id (by omega) (by omega)]; omega,List.drop_zero,List.append_assoc]
/-- The reference's lines: two blanks more. -/
theorem Ln_sp (d:Nat) (t:ByteArray):Ln d ((⟨#[32,32]⟩:ByteArray) ++ t) = Ln (d + 1) t:=by
  unfold Ln
  rw [bytesOf_app,show 2 * (d + 1) = 2 * d + 2 by omega,← List.replicate_append_replicate]
  simp only [List.append_assoc]
  rfl
theorem GR_cons (w:ByteArray) (d:Nat) (f:Bool) (t:ByteArray) (r:List ByteArray):GR w d f (t :: r) = (if f = true then Ln d w else []) ++ (Ln (d + 1) t ++ GR w d false r):=by
  unfold GR
  rw [GF]
  cases f <;> simp
theorem svars_run (l : List SNode) (d : Nat) (hd : d ≤ 1000) (hn : l.length ≤ 2000) (hwl : wtL l ≤ 2000) (b0 : Sfffb48) (hb : b0.f1 = (d : Int)) (K : Nat) (h2 : 2002 ≤ K) (hK : ∀ y, y ∈ l → ∀ k, K ≤ k → KF y k) :
    ∀ (m i k:Nat) (f:Bool) (out:List Int),i + m = l.length → K + m + 1 ≤ k → out.length + 1000000000 + 2000000 * m ≤ Bg → spec_l02Writer__vars_2.l3 k l b0 f (i:Int) out = some (out ++ GR (⟨#[86,65,82]⟩:ByteArray) d f (lns 4 (l.drop i))):=by
  intro m
  induction m with
  | zero =>
    intro i k f out hi hk ho
    obtain ⟨k,rfl⟩:∃ j,k = j + 1:=⟨k - 1,by omega⟩
    rw [spec_l02Writer__vars_2.l3.eq_2,if_neg (by omega),List.drop_eq_nil_of_le (by omega)]
    simp [lns,GR,GF]
  | succ m ih =>
    intro i k f out hi hk ho
    obtain ⟨k,rfl⟩:∃ j,k = j + 1:=⟨k - 1,by omega⟩
    have hlt:i < l.length:=by omega
    have hmem:=List.getElem_mem hlt
    have hwy:=wtL_mem hmem
    have hkf:=hK _ hmem k (by omega)
    unfold Bg at ho
    have zv:(⟨#[86,65,82]⟩:ByteArray).size = 3:=rfl
    have hLv:=Ln_len d (⟨#[86,65,82]⟩:ByteArray)
    rw [spec_l02Writer__vars_2.l3.eq_2,if_pos (by omega),lns_cons hlt]
    unfold spec_l02Writer__vars_2.e2
    rw [at?_nat hlt,Option.bind_some]
    by_cases h0:l[i].f0 = 4
    · have hz:=lnT_size hkf h0 (.inr (.inr rfl))
      have hL:=Ln_len (d + 1) (lnT 4 l[i])
      rw [if_pos h0,if_pos h0,GR_cons]
      have e1:spec_l02Writer__vars_2.e1 k b0 f out = some (false,out ++ (if f = true then Ln d (⟨#[86,65,82]⟩:ByteArray) else [])):=by
        unfold spec_l02Writer__vars_2.e1
        rw [hb]
        cases f
        · rw [if_neg (by simp),if_neg (by simp),List.append_nil]
        · rw [if_pos rfl,if_pos rfl,sline (by omega) (by omega) (by omega) (by omega),Option.bind_some]
      obtain ⟨o2,ho2⟩:∃ o2,o2 = out ++ (if f = true then Ln d (⟨#[86,65,82]⟩:ByteArray) else []):=⟨_,rfl⟩
      have ho3:o2.length ≤ out.length + 5000:=by
        rw [ho2,List.length_append]
        split
        · omega
        · simp
      rw [← ho2] at e1
      have e3:lnT 4 l[i] = ((star l[i] ++ (⟨#[58,32]⟩:ByteArray)) ++ tyT (kid l[i] 0)) ++ (⟨#[59]⟩:ByteArray):=by unfold lnT; rw [if_neg (by decide),if_pos rfl]
      generalize l[i] = y at *
      obtain ⟨p3,p4,p6,pn,p7⟩:=hkf
      obtain ⟨q1,q2,q3,q4⟩:=p4 h0
      have hn2:=pn (by omega)
      have hs:=star_size y
      rw [e1,Option.bind_some]
      show Option.bind (Option.bind _ _) _ = _
      rw [sstar k hn2.2,Option.bind_some,if_pos (by first | omega | (simp only [ByteArray.size_append,z40,z41,z32,z44,z46,z59,z42,xAr,xOf,xCo,xEq,xVr,xSp,xSe] at *; omega)),if_pos (by first | omega | (simp only [ByteArray.size_append,z40,z41,z32,z44,z46,z59,z42,xAr,xOf,xCo,xEq,xVr,xSp,xSe] at *; omega)),q1,Option.bind_some,q4,Option.bind_some,if_pos (by first | omega | (simp only [ByteArray.size_append,z40,z41,z32,z44,z46,z59,z42,xAr,xOf,xCo,xEq,xVr,xSp,xSe] at *; omega)),if_pos (by first | omega | (simp only [ByteArray.size_append,z40,z41,z32,z44,z46,z59,z42,xAr,xOf,xCo,xEq,xVr,xSp,xSe] at *; omega)),hb]
      have e2:((((⟨#[32,32]⟩:ByteArray) ++ star y) ++ (⟨#[58,32]⟩:ByteArray)) ++ tyT (kid y 0)) ++ (⟨#[59]⟩:ByteArray) = (⟨#[32,32]⟩:ByteArray) ++ lnT 4 y:=by rw [e3]; simp only [app_as]
      rw [e2,sline (by omega) (by first | omega | (simp only [ByteArray.size_append,z40,z41,z32,z44,z46,z59,z42,xAr,xOf,xCo,xEq,xVr,xSp,xSe] at *; omega)) (by omega) (by omega),Ln_sp,Option.bind_some,Option.bind_some]
      show spec_l02Writer__vars_2.l3 k l b0 false (w64 ((i:Int) + 1)) _ = _
      rw [w64_next (by omega),ih (i + 1) k false _ (by omega) (by omega) (by unfold Bg; rw [List.length_append]; omega),ho2]
      simp only [List.append_assoc]
    · rw [if_neg h0,if_neg h0,Option.bind_some]
      show spec_l02Writer__vars_2.l3 k l b0 f (w64 ((i:Int) + 1)) _ = _
      rw [w64_next (by omega),ih (i + 1) k f _ (by omega) (by omega) (by unfold Bg; omega)]
theorem svars {l : List SNode} {d : Nat} (hd : d ≤ 1000) (hn : l.length ≤ 2000) (hwl : wtL l ≤ 2000) {K : Nat} (h2 : 2002 ≤ K) (hK : ∀ y, y ∈ l → ∀ k, K ≤ k → KF y k) {k : Nat} (hk : K + l.length + 1 ≤ k) {out : List Int} (ho : out.length ≤ 9000000000000) :
    spec_l02Writer__vars_2.f k l ⟨out,(d:Int)⟩ = some (out ++ GR (⟨#[86,65,82]⟩:ByteArray) d true (lns 4 l)):=by
  unfold spec_l02Writer__vars_2.f
  have h:=svars_run l d hd hn hwl ⟨out,(d:Int)⟩ rfl K h2 hK l.length 0 k true out (by omega) (by omega) (by unfold Bg; omega)
  rw [List.drop_zero] at h
  exact h
end Go.Proofs.YtaelpeekimbmcaaGreatDoor.T
