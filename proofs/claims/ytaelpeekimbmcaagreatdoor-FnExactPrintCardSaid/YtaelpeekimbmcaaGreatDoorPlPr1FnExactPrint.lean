/- Print: an expression's text is one to both. -/
import Derived.Test.YtaelpeekimbmcaaGreatDoorPlTr4FnExactPrint
import Derived.Test.YtaelpeekimbmcaaGreatDoorPlHFnExactPrint
import Derived.Test.YtaelpeekimbmcaaGreatDoorPlGFnExactPrint
set_option linter.unusedVariables false
set_option linter.unusedSimpArgs false
namespace Go.Proofs.YtaelpeekimbmcaaGreatDoor.T
open Go.RowKit Go.Proofs.YtaelpeekimbmcaaGreatDoor.E Go.Proofs.YtaelpeekimbmcaaGreatDoor.V
theorem ev_uniq {α:Type} {g:Nat → Option α} {a b:α} (h:Evr g a) (k:Evr g b):a = b:=by
  obtain ⟨K,h⟩:=h
  obtain ⟨K',k⟩:=k
  exact Option.some.inj ((h (max K K') (by omega)).symm.trans (k (max K K') (by omega)))
/-! How many nodes. -/
mutual
def wtV:SNode → Nat
  | ⟨a,b,c,d,l⟩=>1 + wtL l
def wtL:List SNode → Nat
  | []=>0
  | y :: l=>wtV y + wtL l
end
theorem wtV_eq (x:SNode):wtV x = 1 + wtL x.f4:=by cases x; rw [wtV]
theorem wtL_mem {y:SNode}:∀ {l:List SNode},y ∈ l → wtV y ≤ wtL l
  | z :: l,h=>by
    rw [wtL]
    rcases List.mem_cons.1 h with rfl | h
    · omega
    · have:=wtL_mem h; omega
theorem wt_kid {x y:SNode} (h:y ∈ x.f4):wtV y < wtV x:=by rw [wtV_eq x]; have:=wtL_mem h; omega
theorem wtL_app:∀ (l m:List SNode),wtL (l ++ m) = wtL l + wtL m
  | [],m=>by rw [List.nil_append,wtL]; omega
  | y :: l,m=>by rw [List.cons_append,wtL,wtL,wtL_app l m]; omega
theorem wtL_len:∀ l:List SNode,l.length ≤ wtL l
  | []=>Nat.zero_le _
  | y :: l=>by rw [wtL,wtV_eq]; have:=wtL_len l; simp only [List.length_cons]; omega
theorem fitsL_wt {l:List SNode} (d:Int) (h:∀ y,y ∈ l → ∀ m,(fitsV y d m).1 = true → (fitsV y d m).2 = m + (wtV y:Int)):∀ m,(fitsL l d m).1 = true → (fitsL l d m).2 = m + (wtL l:Int):=by
  induction l with
  | nil=>intro m _; rw [fitsL,wtL]; simp
  | cons y l ih =>
    intro m hm
    rw [fitsL] at hm ⊢
    split at hm
    · rename_i h1
      rw [if_pos h1]
      have:=ih (fun z hz=>h z (List.mem_cons_of_mem _ hz)) _ hm
      rw [this,h y (List.mem_cons_self ..) m h1,wtL]
      omega
    · cases hm
theorem fitsV_wt {x:SNode} (hx:Sm x):∀ d m,(fitsV x d m).1 = true → (fitsV x d m).2 = m + (wtV x:Int):=by
  induction hx with
  | mk h2 h3 h4 k ih =>
    rename_i x
    intro d m hm
    rw [fitsV_eq] at hm ⊢
    split at hm
    · rename_i h1
      rw [if_pos h1,fitsL_wt (d + 1) (fun y hy m=>ih y hy (d + 1) m) _ hm,wtV_eq]
      omega
    · cases hm
/-! What a right tree is. -/
theorem all_ok {x:SNode} (h:allV x = true):namesB x = true ∧ numB x = true ∧ kidsB x = true ∧ ∀ y,y ∈ x.f4 → allV y = true:=by
  rw [allV_eq,allL_all] at h
  simp only [Bool.and_eq_true,okB,List.all_eq_true] at h
  exact ⟨h.1.1.1,h.1.1.2,h.1.2,h.2⟩
theorem mod_size {a:ByteArray} (h:modB a = true):1 ≤ a.size ∧ a.size ≤ 40:=by
  unfold modB nameB at h
  simp only [Bool.and_eq_true,decide_eq_true_eq] at h
  exact ⟨h.1.1.1.1,h.1.1.1.2⟩
theorem num_in {x:SNode} (h:numB x = true):(x.f0 = 18 → 0 ≤ x.f1 ∧ x.f1 ≤ 999999999999999999) ∧ (x.f0 = 19 → H.chB x.f1 = true) ∧ ((x.f0 = 3 ∨ x.f0 = 4 ∨ x.f0 = 5 ∨ x.f0 = 6 ∨ x.f0 = 20) → x.f1 = 0 ∨ x.f1 = 1) ∧ (x.f0 = 7 → 0 ≤ x.f1 ∧ x.f1 ≤ 3) ∧ (x.f0 = 8 → 1 ≤ x.f1 ∧ x.f1 ≤ 3) ∧ (x.f0 = 9 → 1 ≤ x.f1 ∧ x.f1 ≤ 100):=by
  have hs:=snum 0 x
  rw [h] at hs
  unfold spec_l02Number.f at hs
  rw [show spec_l02Number.e1 0 x = orChain [3,4,5,6,20] x.f0 from rfl,orc] at hs
  simp only [in_eq,Option.bind_some] at hs
  refine ⟨fun e=>?_,fun e=>?_,fun e=>?_,fun e=>?_,fun e=>?_,fun e=>?_⟩
  · rw [e] at hs; simp [isIn] at hs; omega
  · rw [e,H.sCh] at hs; simpa [isIn] using hs
  · rcases e with e | e | e | e | e <;> (rw [e] at hs; simp [isIn] at hs; omega)
  · rw [e] at hs; simp [isIn] at hs; omega
  · rw [e] at hs; simp [isIn] at hs; omega
  · rw [e] at hs; simp [isIn] at hs; omega
theorem z40:(⟨#[40]⟩:ByteArray).size = 1:=rfl
theorem z41:(⟨#[41]⟩:ByteArray).size = 1:=rfl
theorem z91:(⟨#[91]⟩:ByteArray).size = 1:=rfl
theorem z93:(⟨#[93]⟩:ByteArray).size = 1:=rfl
theorem z32:(⟨#[32]⟩:ByteArray).size = 1:=rfl
theorem z44:(⟨#[44,32]⟩:ByteArray).size = 2:=rfl
theorem z46:(⟨#[46]⟩:ByteArray).size = 1:=rfl
theorem z59:(⟨#[59]⟩:ByteArray).size = 1:=rfl
theorem z42:(⟨#[42]⟩:ByteArray).size = 1:=rfl
theorem zOrd:(⟨#[79,82,68,40]⟩:ByteArray).size = 4:=rfl
theorem zChr:(⟨#[67,72,82,40]⟩:ByteArray).size = 4:=rfl
theorem zLen:(⟨#[76,69,78,40]⟩:ByteArray).size = 4:=rfl
theorem zo:(⟨#[79,82,68]⟩:ByteArray).size = 3:=rfl
theorem zc:(⟨#[67,72,82]⟩:ByteArray).size = 3:=rfl
theorem zl:(⟨#[76,69,78]⟩:ByteArray).size = 3:=rfl
/-! Names in full. -/
def fullT (x:SNode):ByteArray:=if x.f3 = (⟨#[]⟩:ByteArray) then x.f2 else (x.f3 ++ (⟨#[46]⟩:ByteArray)) ++ x.f2
theorem full_size {x:SNode} (h2:x.f2.size ≤ 40) (h3:x.f3.size ≤ 40):(fullT x).size ≤ 81:=by
  unfold fullT
  split
  · omega
  · simp only [ByteArray.size_append,z46]; omega
theorem sfull (k:Nat) {x:SNode} (h2:x.f2.size ≤ 40) (h3:x.f3.size ≤ 40):spec_l02Full.f k x = some (fullT x):=by
  unfold spec_l02Full.f fullT
  by_cases h:x.f3 = (⟨#[]⟩:ByteArray)
  · rw [if_pos h,if_pos h]
  · rw [if_neg h,if_neg h,if_pos (by first | omega | (simp only [ByteArray.size_append,z40,z41,z91,z93,z32,z44,z46,z59,z42,zOrd,zChr,zLen,zo,zc,zl]; omega)),if_pos (by first | omega | (simp only [ByteArray.size_append,z40,z41,z91,z93,z32,z44,z46,z59,z42,zOrd,zChr,zLen,zo,zc,zl]; omega))]
theorem ifull (k:Nat) {x:SNode} (h2:x.f2.size ≤ 40) (h3:x.f3.size ≤ 40):impl_Node__full.f k x = some (fullT x):=sfull k h2 h3
theorem full_names {x:SNode} (h:namesB x = true) (h0:x.f0 = 12 ∨ x.f0 = 21):x.f2.size ≤ 40 ∧ x.f3.size ≤ 40:=by
  unfold namesB at h
  have e:(isIn [1,2,3,4,5,6] x.f0) = false ∧ isIn [12,21] x.f0 = true:=by rcases h0 with e | e <;> (rw [e]; exact ⟨rfl,rfl⟩)
  rw [if_neg (by rw [e.1]; simp),if_pos e.2] at h
  simp only [Bool.and_eq_true,Bool.or_eq_true,decide_eq_true_eq] at h
  refine ⟨(mod_size h.1).2,?_⟩
  rcases h.2 with h | h
  · rw [h]; show (0:Nat) ≤ 40; omega
  · exact (mod_size h).2
/-! Ranks. -/
def rk (a:ByteArray):Int:=(spec_l02Level.f 0 a).getD 0
theorem srk (k:Nat) (a:ByteArray):spec_l02Level.f k a = some (rk a):=by
  obtain ⟨n,h1,_⟩:=level k a
  have h2:spec_l02Level.f k a = spec_l02Level.f 0 a:=rfl
  unfold rk
  rw [← h2,h1]; rfl
def irk (a:ByteArray):Int:=(impl_rankOf.f 0 a).getD 0
theorem irk_eq (k:Nat) (a:ByteArray):impl_rankOf.f k a = some (irk a):=by
  have h2:impl_rankOf.f k a = impl_rankOf.f 0 a:=rfl
  unfold irk
  rw [h2]
  unfold impl_rankOf.f
  rw [show impl_rankOf.e1 0 a = orChain L2 a from rfl,show impl_rankOf.e2 0 a = orChain L3 a from rfl,orc,orc]
  simp only [Option.bind_some]
  cases isIn L2 a <;> cases isIn L3 a <;> rfl
theorem ranks:(binL.all fun a=>decide (irk a = rk a ∧ 1 ≤ rk a ∧ rk a ≤ 3)) = true:=by decide +kernel
theorem rank_bin {a:ByteArray} (h:oneOf binL a = true):irk a = rk a ∧ 1 ≤ rk a ∧ rk a ≤ 3:=by
  unfold oneOf at h
  obtain ⟨b,h1,h2⟩:=List.any_eq_true.1 h
  obtain rfl:=of_decide_eq_true h2
  exact of_decide_eq_true (List.all_eq_true.1 ranks _ h1)
theorem bin_size:(binL.all fun a=>decide (a.size ≤ 3)) = true:=by decide +kernel
theorem bin_names {x:SNode} (h:namesB x = true) (h0:x.f0 = 24):oneOf binL x.f2 = true ∧ x.f2.size ≤ 3:=by
  unfold namesB at h
  rw [h0] at h
  rw [if_neg (by decide),if_neg (by decide),if_neg (by decide),if_pos rfl] at h
  simp only [Bool.and_eq_true] at h
  refine ⟨h.1,?_⟩
  have h1:=h.1
  unfold oneOf at h1
  obtain ⟨b,h1,h2⟩:=List.any_eq_true.1 h1
  obtain rfl:=of_decide_eq_true h2
  exact of_decide_eq_true (List.all_eq_true.1 bin_size _ h1)
theorem un_names {x:SNode} (h:namesB x = true) (h0:x.f0 = 23):x.f2.size = 1:=by
  unfold namesB at h
  rw [h0] at h
  rw [if_neg (by decide),if_neg (by decide),if_pos rfl] at h
  simp only [Bool.and_eq_true,Bool.or_eq_true,decide_eq_true_eq] at h
  rcases h.1 with h | h <;> (rw [h]; rfl)
/-! Texts joined. -/
theorem ba_ext {a b:ByteArray} (h:a.data.toList = b.data.toList):a = b:=Go.WideShapes.bytes_inj h
theorem join_one (x s:ByteArray):joinOf [x] s = x:=by
  apply ba_ext
  show (Lib.join [x.data.toList] s.data.toList).toArray.toList = _
  rw [Lib.join_one]
theorem join_snoc (l:List ByteArray) (hl:l ≠ []) (x s:ByteArray):joinOf (l ++ [x]) s = (joinOf l s ++ s) ++ x:=by
  cases l with
  | nil=>exact absurd rfl hl
  | cons y l =>
    apply ba_ext
    have e1:(joinOf (y :: l ++ [x]) s).data.toList = Lib.join ((y :: l ++ [x]).map (·.data.toList)) s.data.toList:=by simp [joinOf]
    have e2:(joinOf (y :: l) s).data.toList = Lib.join ((y :: l).map (·.data.toList)) s.data.toList:=by simp [joinOf]
    rw [e1]
    simp only [ByteArray.data_append,Array.toList_append]
    rw [e2]
    simp only [List.cons_append,List.map_cons,List.map_append,List.map_nil]
    rw [Lib.join_cons,Lib.join_cons]
    simp [Lib.joinTail,List.append_assoc]
theorem lens_le (T:SNode → ByteArray):∀ (l:List SNode),(∀ y,y ∈ l → (T y).size + 2 ≤ 200 * wtV y) → Lib.lens (l.map fun y=>(T y).data.toList) + 2 * l.length ≤ 200 * wtL l
  | [],_=>Nat.le_refl _
  | y :: l,h=>by
    have h1:=h y (List.mem_cons_self ..)
    have h2:=lens_le T l fun z hz=>h z (List.mem_cons_of_mem _ hz)
    rw [Lib.size_eq] at h1
    rw [wtL]
    simp only [List.map_cons,Lib.lens,List.sum_cons,List.length_cons] at h2 ⊢
    omega
theorem join_size (T:SNode → ByteArray) (l:List SNode) (h:∀ y,y ∈ l → (T y).size + 2 ≤ 200 * wtV y):(joinOf (l.map T) (⟨#[44,32]⟩:ByteArray)).size ≤ 200 * wtL l:=by
  have hl:=lens_le T l h
  have hn:=wtL_len l
  have e:(joinOf (l.map T) (⟨#[44,32]⟩:ByteArray)).size = (Lib.join (l.map fun y=>(T y).data.toList) [44,32]).length:=by
    rw [Lib.size_eq]
    simp [joinOf,List.map_map,Function.comp_def]
  rw [e]
  cases l with
  | nil=>exact Nat.zero_le _
  | cons y l =>
    simp only [List.map_cons] at hl ⊢
    rw [Lib.join_length]
    simp only [List.length_cons,List.length_nil,List.length_map] at *
    omega
/-! Expressions. -/
/-- A text, in its place. -/
def par (x:SNode) (lvl:Int) (s:ByteArray):ByteArray:=if x.f0 = 24 ∧ rk x.f2 < lvl then ((⟨#[40]⟩:ByteArray) ++ s) ++ (⟨#[41]⟩:ByteArray) else s
def ExOK (x:SNode) (s:ByteArray):Prop:=s.size + 2 ≤ 200 * wtV x ∧ Evr (fun k=>impl_Node__text.f k x) s ∧ ∀ lvl,Evr (fun k=>spec_l02Expr.f k x lvl) (par x lvl s)
theorem par_size (x:SNode) (lvl:Int) (s:ByteArray):(par x lvl s).size ≤ s.size + 2:=by
  unfold par
  split
  · simp only [ByteArray.size_append,z40,z41]; omega
  · omega
theorem par_no {x:SNode} (h:x.f0 ≠ 24) (lvl:Int) (s:ByteArray):par x lvl s = s:=if_neg fun h2=>h h2.1
theorem side_ev {x : SNode} {s : ByteArray} (h : Evr (fun k => impl_Node__text.f k x) s) (hs : s.size ≤ 1000000) (must : Bool) (lvl : Int) (hm : x.f0 = 24 → (must = true ↔ rk x.f2 < lvl)) :
    Evr (fun k=>impl_side.f k (impl_Node__text.f k) x must) (par x lvl s):=by
  unfold impl_side.f impl_side.e1
  by_cases h0:x.f0 = 24
  · refine ev_bind must (ev_pos h0 ev_some) ?_
    cases must
    · refine ev_neg (by simp) ?_
      rw [show par x lvl s = s from if_neg fun h2=>by have:=(hm h0).2 h2.2; cases this]
      exact ev_bind _ h ev_some
    · refine ev_pos rfl ?_
      rw [show par x lvl s = _ from if_pos ⟨h0,(hm h0).1 rfl⟩]
      exact ev_bind _ h (ev_pos (by first | omega | (simp only [ByteArray.size_append,z40,z41,z91,z93,z32,z44,z46,z59,z42,zOrd,zChr,zLen,zo,zc,zl]; omega)) (ev_pos (by first | omega | (simp only [ByteArray.size_append,z40,z41,z91,z93,z32,z44,z46,z59,z42,zOrd,zChr,zLen,zo,zc,zl]; omega)) ev_some))
  · refine ev_bind false (ev_neg h0 ev_some) (ev_neg (by simp) ?_)
    rw [par_no h0]
    exact ev_bind _ h ev_some
noncomputable def txT (x:SNode):ByteArray:=open Classical in if h:∃ s,ExOK x s then h.choose else ⟨#[]⟩
theorem txT_ok {x:SNode} (h:∃ s,ExOK x s):ExOK x (txT x):=by
  unfold txT
  rw [dif_pos h]
  exact h.choose_spec
theorem texts_run (l:List SNode) (R:SNode → Option ByteArray) (T:SNode → ByteArray) (hR:∀ y,y ∈ l → R y = some (T y)) (hn:l.length ≤ 1048576):∀ (m i k:Nat),i + m = l.length → m + 1 ≤ k → impl_texts.l1 k l R ((l.take i).map T) (i:Int) = some (l.map T):=by
  intro m
  induction m with
  | zero =>
    intro i k hi hk
    obtain ⟨k,rfl⟩:∃ j,k = j + 1:=⟨k - 1,by omega⟩
    rw [impl_texts.l1.eq_2,if_neg (by omega),List.take_of_length_le (by omega)]
  | succ m ih =>
    intro i k hi hk
    obtain ⟨k,rfl⟩:∃ j,k = j + 1:=⟨k - 1,by omega⟩
    have hlt:i < l.length:=by omega
    rw [impl_texts.l1.eq_2,if_pos (by omega),at?_nat hlt,Option.bind_some,hR _ (List.getElem_mem hlt),Option.bind_some,if_pos (by simp; omega),w64_next (by omega)]
    have e:(l.take i).map T ++ [T l[i]] = (l.take (i + 1)).map T:=by rw [← List.take_append_getElem hlt,List.map_append]; rfl
    rw [e]
    exact ih (i + 1) k (by omega) (by omega)
theorem expr_run (x : SNode) (R : SNode → Int → Option ByteArray) (T : SNode → ByteArray) (f : ByteArray) (hf : f.size ≤ 1000) (hR : ∀ y, y ∈ x.f4 → R y 0 = some (T y)) (hT : ∀ y, y ∈ x.f4 → (T y).size + 2 ≤ 200 * wtV y) (hn : x.f4.length ≤ 1048576) (hw : wtL x.f4 ≤ 1000000) : ∀ (m i k : Nat), i + m = x.f4.length → m + 1 ≤ k →
    spec_l02Expr.l3 k x R (f ++ joinOf ((x.f4.take i).map T) (⟨#[44,32]⟩:ByteArray)) (i:Int) = some (f ++ joinOf (x.f4.map T) (⟨#[44,32]⟩:ByteArray)):=by
  intro m
  induction m with
  | zero =>
    intro i k hi hk
    obtain ⟨k,rfl⟩:∃ j,k = j + 1:=⟨k - 1,by omega⟩
    rw [spec_l02Expr.l3.eq_2,if_neg (by omega),List.take_of_length_le (by omega)]
  | succ m ih =>
    intro i k hi hk
    obtain ⟨k,rfl⟩:∃ j,k = j + 1:=⟨k - 1,by omega⟩
    have hlt:i < x.f4.length:=by omega
    have hmem:=List.getElem_mem hlt
    have hj:=join_size T (x.f4.take i) (fun y hy=>hT y (List.mem_of_mem_take hy))
    have hwt:wtL (x.f4.take i) ≤ wtL x.f4:=by
      conv=>rhs; rw [← List.take_append_drop i x.f4,wtL_app]
      omega
    have hy:=hT _ hmem
    have hwy:=wtL_mem hmem
    have e:(x.f4.take (i + 1)).map T = (x.f4.take i).map T ++ [T x.f4[i]]:=by rw [← List.take_append_getElem hlt,List.map_append]; rfl
    rw [spec_l02Expr.l3.eq_2,if_pos (by omega)]
    have he2:spec_l02Expr.e2 k (f ++ joinOf ((x.f4.take i).map T) (⟨#[44,32]⟩:ByteArray)) (i:Int) = some (if i = 0 then f else (f ++ joinOf ((x.f4.take i).map T) (⟨#[44,32]⟩:ByteArray)) ++ (⟨#[44,32]⟩:ByteArray)):=by
      unfold spec_l02Expr.e2
      by_cases h0:i = 0
      · rw [if_neg (by omega),if_pos h0,h0]
        have:joinOf ((x.f4.take 0).map T) (⟨#[44,32]⟩:ByteArray) = ⟨#[]⟩:=rfl
        rw [this]
        congr 1
        apply ba_ext; simp
      · rw [if_pos (by omega),if_neg h0,if_pos (by first | omega | (simp only [ByteArray.size_append,z40,z41,z91,z93,z32,z44,z46,z59,z42,zOrd,zChr,zLen,zo,zc,zl]; omega))]
    rw [he2,Option.bind_some,at?_nat hlt,Option.bind_some,hR _ hmem,Option.bind_some,w64_next (by omega)]
    have hnext:=ih (i + 1) k (by omega) (by omega)
    rw [e] at hnext
    by_cases h0:i = 0
    · rw [if_pos h0,if_pos (by first | omega | (simp only [ByteArray.size_append,z40,z41,z91,z93,z32,z44,z46,z59,z42,zOrd,zChr,zLen,zo,zc,zl]; omega))]
      subst h0
      rw [List.take_zero,List.map_nil,List.nil_append,join_one] at hnext
      exact hnext
    · rw [if_neg h0,if_pos (by first | omega | (simp only [ByteArray.size_append,z40,z41,z91,z93,z32,z44,z46,z59,z42,zOrd,zChr,zLen,zo,zc,zl]; omega))]
      rw [join_snoc _ (fun h=>by have h9:=congrArg List.length h; simp only [List.length_map,List.length_take,List.length_nil] at h9; omega)] at hnext
      rw [show ((f ++ joinOf ((x.f4.take i).map T) (⟨#[44,32]⟩:ByteArray)) ++ (⟨#[44,32]⟩:ByteArray)) ++ T x.f4[i] = f ++ ((joinOf ((x.f4.take i).map T) (⟨#[44,32]⟩:ByteArray) ++ (⟨#[44,32]⟩:ByteArray)) ++ T x.f4[i]) by apply ba_ext; simp [ByteArray.data_append]]
      exact hnext
end Go.Proofs.YtaelpeekimbmcaaGreatDoor.T
