/- Print: an expression's text is one to both: by kinds. -/
import Derived.Test.YtaelpeekimbmcaaGreatDoorPlPr1FnExactPrint
set_option linter.unusedVariables false
set_option linter.unusedSimpArgs false
namespace Go.Proofs.YtaelpeekimbmcaaGreatDoor.T
open Go.RowKit Go.Proofs.YtaelpeekimbmcaaGreatDoor.E Go.Proofs.YtaelpeekimbmcaaGreatDoor.V
theorem spec_of {x:SNode} {s:ByteArray} (h0:x.f0 ≠ 24) (h:Evr (fun k=>spec_l02Expr.e5 k x (spec_l02Expr.f k)) (.inl s)) (lvl:Int):Evr (fun k=>spec_l02Expr.f k x lvl) (par x lvl s):=by
  rw [par_no h0]
  exact ev_step _ (fun k=>spec_l02Expr.f.eq_2 ..) (ev_bind _ h ev_some)
theorem rk_ge (a:ByteArray):0 ≤ rk a:=by
  unfold rk spec_l02Level.f
  rw [show spec_l02Level.e1 0 a = orChain L1 a from rfl,show spec_l02Level.e2 0 a = orChain L2 a from rfl,show spec_l02Level.e3 0 a = orChain L3 a from rfl,orc,orc,orc]
  simp only [Option.bind_some]
  cases isIn L1 a <;> cases isIn L2 a <;> cases isIn L3 a <;> decide
theorem kids_1 {x:SNode} {p:SNode → Bool} (h:k1 p x.f4 = true):∃ a,x.f4 = [a] ∧ p a = true:=by
  match hx:x.f4,h with
  | [a],h=>exact ⟨a,rfl,h⟩
theorem kids_2 {x:SNode} {p q:SNode → Bool} (h:k2 p q x.f4 = true):∃ a b,x.f4 = [a,b] ∧ p a = true ∧ q b = true:=by
  match hx:x.f4,h with
  | [a,b],h=>rw [k2,Bool.and_eq_true] at h; exact ⟨a,b,rfl,h⟩
theorem kids_3 {x:SNode} {p q r:SNode → Bool} (h:k3 p q r x.f4 = true):∃ a b c,x.f4 = [a,b,c] ∧ p a = true ∧ q b = true ∧ r c = true:=by
  match hx:x.f4,h with
  | [a,b,c],h=>simp only [k3,Bool.and_eq_true] at h; exact ⟨a,b,c,rfl,h.1.1,h.1.2,h.2⟩
theorem of21 {y:SNode} (h:ofB 21 y = true):y.f0 = 21 ∧ exprB y = true:=by
  have h0:y.f0 = 21:=of_decide_eq_true h
  refine ⟨h0,?_⟩
  unfold exprB btw
  rw [h0]; rfl
theorem ex_full {x:SNode} (ha:allV x = true) (h0:x.f0 = 21):ExOK x (fullT x):=by
  obtain ⟨hn,_,_,_⟩:=all_ok ha
  obtain ⟨h2,h3⟩:=full_names hn (.inr h0)
  have hw:=wtV_eq x
  have hs:=full_size h2 h3
  refine ⟨by omega,?_,spec_of (by omega) ?_⟩
  · exact ev_step _ (fun k=>impl_Node__text.f.eq_2 ..) (ev_neg (by omega) (ev_neg (by omega) (ev_neg (by omega) (ev_pos h0 (ev_bind _ (ev_of fun k=>ifull k h2 h3) ev_some)))))
  · unfold spec_l02Expr.e5
    exact ev_neg (by omega) (ev_neg (by omega) (ev_neg (by omega) (ev_pos h0 (ev_bind _ (ev_of fun k=>sfull k h2 h3) ev_some))))
theorem ex_int {x:SNode} (ha:allV x = true) (h0:x.f0 = 18):ExOK x (G.itoaB x.f1):=by
  obtain ⟨_,hn,_,_⟩:=all_ok ha
  have h1:=(num_in hn).1 h0
  have hi:G.i64B x.f1:=⟨by omega,by omega⟩
  have hw:=wtV_eq x
  have hs:=G.itoaB_size hi
  refine ⟨by omega,?_,spec_of (by omega) ?_⟩
  · exact ev_step _ (fun k=>impl_Node__text.f.eq_2 ..) (ev_pos h0 (ev_bind _ (ev_of fun k=>G.itoa_f k hi) ev_some))
  · unfold spec_l02Expr.e5
    exact ev_pos h0 (ev_bind _ (G.digits_ev hi) ev_some)
theorem ex_char {x:SNode} (ha:allV x = true) (h0:x.f0 = 19):ExOK x (H.chT x.f1):=by
  obtain ⟨_,hn,_,_⟩:=all_ok ha
  have h1:=(num_in hn).2.1 h0
  have hw:=wtV_eq x
  have hs:=H.chT_size h1
  refine ⟨by omega,?_,spec_of (by omega) ?_⟩
  · exact ev_step _ (fun k=>impl_Node__text.f.eq_2 ..) (ev_neg (by omega) (ev_pos h0 (ev_bind _ (ev_of fun k=>H.iChar k h1) ev_some)))
  · unfold spec_l02Expr.e5
    exact ev_neg (by omega) (ev_pos h0 (ev_bind _ (H.sChar h1) ev_some))
theorem ex_bool {x:SNode} (ha:allV x = true) (h0:x.f0 = 20):ExOK x (if x.f1 = 1 then (⟨#[84,82,85,69]⟩:ByteArray) else (⟨#[70,65,76,83,69]⟩:ByteArray)):=by
  obtain ⟨_,hn,_,_⟩:=all_ok ha
  have h1:=(num_in hn).2.2.1 (by omega)
  have hw:=wtV_eq x
  have z1:(⟨#[84,82,85,69]⟩:ByteArray).size = 4:=rfl
  have z2:(⟨#[70,65,76,83,69]⟩:ByteArray).size = 5:=rfl
  refine ⟨by split <;> omega,?_,spec_of (by omega) ?_⟩
  · refine ev_step _ (fun k=>impl_Node__text.f.eq_2 ..) (ev_neg (by omega) (ev_neg (by omega) (ev_pos h0 ?_)))
    rcases h1 with h1 | h1
    · exact ev_eq (ev_neg (by omega) ev_some) (if_neg (by omega)).symm
    · exact ev_eq (ev_pos h1 ev_some) (if_pos h1).symm
  · unfold spec_l02Expr.e5
    refine ev_neg (by omega) (ev_neg (by omega) (ev_pos h0 ?_))
    rcases h1 with h1 | h1
    · rw [if_neg (by omega),h1]; exact ev_of fun k=>rfl
    · rw [if_pos h1,h1]; exact ev_of fun k=>rfl
theorem ex_index {x a b:SNode} {s t:ByteArray} (h0:x.f0 = 22) (hk:x.f4 = [a,b]) (h21:a.f0 = 21) (haa:allV a = true) (h1:ExOK a s) (h2:ExOK b t) (hw:wtV x ≤ 5000):∃ s,ExOK x s:=by
  have hx:=wtV_eq x
  rw [hk,wtL,wtL,wtL] at hx
  have hs:=ev_uniq h1.2.1 (ex_full haa h21).2.1
  subst hs
  obtain ⟨hna,_,_,_⟩:=all_ok haa
  obtain ⟨f2,f3⟩:=full_names hna (.inr h21)
  have q1:=h1.1
  have q2:=h2.1
  have g0:∀ k:Nat,at? x.f4 0 = some a:=fun k=>by rw [hk]; rfl
  have g1:∀ k:Nat,at? x.f4 1 = some b:=fun k=>by rw [hk]; rfl
  refine ⟨((fullT a ++ (⟨#[91]⟩:ByteArray)) ++ t) ++ (⟨#[93]⟩:ByteArray),(by first | omega | (simp only [ByteArray.size_append,z40,z41,z91,z93,z32,z44,z46,z59,z42,zOrd,zChr,zLen,zo,zc,zl]; omega)),?_,spec_of (by omega) ?_⟩
  · exact ev_step _ (fun k=>impl_Node__text.f.eq_2 ..) (ev_neg (by omega) (ev_neg (by omega) (ev_neg (by omega) (ev_neg (by omega) (ev_pos h0 (ev_bind _ (ev_of g0) (ev_bind _ h1.2.1 (ev_pos (by first | omega | (simp only [ByteArray.size_append,z40,z41,z91,z93,z32,z44,z46,z59,z42,zOrd,zChr,zLen,zo,zc,zl]; omega)) (ev_bind _ (ev_of g1) (ev_bind _ h2.2.1 (ev_pos (by first | omega | (simp only [ByteArray.size_append,z40,z41,z91,z93,z32,z44,z46,z59,z42,zOrd,zChr,zLen,zo,zc,zl]; omega)) (ev_pos (by first | omega | (simp only [ByteArray.size_append,z40,z41,z91,z93,z32,z44,z46,z59,z42,zOrd,zChr,zLen,zo,zc,zl]; omega)) ev_some))))))))))))
  · unfold spec_l02Expr.e5
    have ht:=h2.2.2 0
    have hb:par b 0 t = t:=by
      unfold par
      rw [if_neg]
      rintro ⟨_,h⟩
      have:=rk_ge b.f2
      omega
    rw [hb] at ht
    exact ev_neg (by omega) (ev_neg (by omega) (ev_neg (by omega) (ev_neg (by omega) (ev_pos h0 (ev_bind _ (ev_of g0) (ev_bind _ (ev_of fun k=>sfull k f2 f3) (ev_pos (by first | omega | (simp only [ByteArray.size_append,z40,z41,z91,z93,z32,z44,z46,z59,z42,zOrd,zChr,zLen,zo,zc,zl]; omega)) (ev_bind _ (ev_of g1) (ev_bind _ ht (ev_pos (by first | omega | (simp only [ByteArray.size_append,z40,z41,z91,z93,z32,z44,z46,z59,z42,zOrd,zChr,zLen,zo,zc,zl]; omega)) (ev_pos (by first | omega | (simp only [ByteArray.size_append,z40,z41,z91,z93,z32,z44,z46,z59,z42,zOrd,zChr,zLen,zo,zc,zl]; omega)) ev_some)))))))))))
theorem ex_unary {x a:SNode} {s:ByteArray} (ha:allV x = true) (haa:allV a = true) (h0:x.f0 = 23) (hk:x.f4 = [a]) (h1:ExOK a s) (hw:wtV x ≤ 5000):∃ s,ExOK x s:=by
  have hx:=wtV_eq x
  rw [hk,wtL,wtL] at hx
  obtain ⟨hn,_,_,_⟩:=all_ok ha
  have hu:=un_names hn h0
  have q1:=h1.1
  have qp:=par_size a 4 s
  have g0:∀ k:Nat,at? x.f4 0 = some a:=fun k=>by rw [hk]; rfl
  have hm:a.f0 = 24 → (true = true ↔ rk a.f2 < 4):=fun h24=>by
    have:=(rank_bin (bin_names (all_ok haa).1 h24).1).2.2
    exact ⟨fun _=>by omega,fun _=>rfl⟩
  refine ⟨x.f2 ++ par a 4 s,(by first | omega | (simp only [ByteArray.size_append,z40,z41,z91,z93,z32,z44,z46,z59,z42,zOrd,zChr,zLen,zo,zc,zl]; omega)),?_,spec_of (by omega) ?_⟩
  · exact ev_step _ (fun k=>impl_Node__text.f.eq_2 ..) (ev_neg (by omega) (ev_neg (by omega) (ev_neg (by omega) (ev_neg (by omega) (ev_neg (by omega) (ev_pos h0 (ev_bind _ (ev_of g0) (ev_bind _ (side_ev h1.2.1 (by omega) true 4 hm) (ev_pos (by first | omega | (simp only [ByteArray.size_append,z40,z41,z91,z93,z32,z44,z46,z59,z42,zOrd,zChr,zLen,zo,zc,zl]; omega)) ev_some)))))))))
  · unfold spec_l02Expr.e5
    exact ev_neg (by omega) (ev_neg (by omega) (ev_neg (by omega) (ev_neg (by omega) (ev_neg (by omega) (ev_pos h0 (ev_bind _ (ev_of g0) (ev_bind _ (h1.2.2 4) (ev_pos (by first | omega | (simp only [ByteArray.size_append,z40,z41,z91,z93,z32,z44,z46,z59,z42,zOrd,zChr,zLen,zo,zc,zl]; omega)) ev_some))))))))
theorem ex_binary {x a b:SNode} {s t:ByteArray} (ha:allV x = true) (haa:allV a = true) (hab:allV b = true) (h0:x.f0 = 24) (hk:x.f4 = [a,b]) (h1:ExOK a s) (h2:ExOK b t) (hw:wtV x ≤ 5000):∃ s,ExOK x s:=by
  have hx:=wtV_eq x
  rw [hk,wtL,wtL,wtL] at hx
  obtain ⟨hn,_,_,_⟩:=all_ok ha
  obtain ⟨hb1,hb2⟩:=bin_names hn h0
  obtain ⟨r1,r2,r3⟩:=rank_bin hb1
  have q1:=h1.1
  have q2:=h2.1
  have g0:∀ k:Nat,at? x.f4 0 = some a:=fun k=>by rw [hk]; rfl
  have g1:∀ k:Nat,at? x.f4 1 = some b:=fun k=>by rw [hk]; rfl
  obtain ⟨ll,hll⟩:∃ ll:Int,ll = if rk x.f2 = 1 then 2 else rk x.f2:=⟨_,rfl⟩
  have qp:=par_size a ll s
  have qq:=par_size b (rk x.f2 + 1) t
  have kr:a.f0 = 24 → irk a.f2 = rk a.f2 ∧ 1 ≤ rk a.f2:=fun h24=>by
    obtain ⟨p1,p2,_⟩:=rank_bin (bin_names (all_ok haa).1 h24).1
    exact ⟨p1,p2⟩
  have kr2:b.f0 = 24 → irk b.f2 = rk b.f2:=fun h24=>(rank_bin (bin_names (all_ok hab).1 h24).1).1
  have right:Evr (fun k=>impl_side.f k (impl_Node__text.f k) b (decide (irk b.f2 ≤ irk x.f2))) (par b (rk x.f2 + 1) t):=side_ev h2.2.1 (by omega) _ _ fun h24=>by
    rw [kr2 h24,r1,decide_eq_true_iff]; omega
  have e6:∀ k,spec_l02Expr.e6 k (rk x.f2) = some ll:=fun k=>by
    unfold spec_l02Expr.e6
    rw [hll]
    split <;> rfl
  refine ⟨((((par a ll s ++ (⟨#[32]⟩:ByteArray)) ++ x.f2) ++ (⟨#[32]⟩:ByteArray)) ++ par b (rk x.f2 + 1) t),(by first | omega | (simp only [ByteArray.size_append,z40,z41,z91,z93,z32,z44,z46,z59,z42,zOrd,zChr,zLen,zo,zc,zl]; omega)),?_,fun lvl=>?_⟩
  · refine ev_step _ (fun k=>impl_Node__text.f.eq_2 ..) (ev_neg (by omega) (ev_neg (by omega) (ev_neg (by omega) (ev_neg (by omega) (ev_neg (by omega) (ev_neg (by omega) (ev_pos h0 ?_)))))))
    refine ev_bind _ (ev_of fun k=>irk_eq k x.f2) (ev_bind _ (ev_of g0) (ev_bind _ (ev_of fun k=>irk_eq k a.f2) (ev_bind _ (ev_of g1) (ev_bind _ (ev_of fun k=>irk_eq k b.f2) (ev_bind _ ?_ ev_some)))))
    unfold impl_Node__text.e1
    by_cases c1:irk a.f2 < irk x.f2
    · refine ev_pos c1 (ev_bind (par a ll s) (side_ev h1.2.1 (by omega) true ll fun h24=>?_) (ev_pos (by first | omega | (simp only [ByteArray.size_append,z40,z41,z91,z93,z32,z44,z46,z59,z42,zOrd,zChr,zLen,zo,zc,zl]; omega)) (ev_pos (by first | omega | (simp only [ByteArray.size_append,z40,z41,z91,z93,z32,z44,z46,z59,z42,zOrd,zChr,zLen,zo,zc,zl]; omega)) (ev_pos (by first | omega | (simp only [ByteArray.size_append,z40,z41,z91,z93,z32,z44,z46,z59,z42,zOrd,zChr,zLen,zo,zc,zl]; omega)) (ev_bind _ right (ev_pos (by first | omega | (simp only [ByteArray.size_append,z40,z41,z91,z93,z32,z44,z46,z59,z42,zOrd,zChr,zLen,zo,zc,zl]; omega)) ev_some))))))
      obtain ⟨p1,p2⟩:=kr h24
      refine ⟨fun _=>?_,fun _=>rfl⟩
      rw [hll]; split <;> omega
    · refine ev_neg c1 ?_
      by_cases c2:irk a.f2 = irk x.f2
      · refine ev_pos c2 (ev_bind (par a ll s) (side_ev h1.2.1 (by omega) (decide (irk x.f2 = 1)) ll fun h24=>?_) (ev_pos (by first | omega | (simp only [ByteArray.size_append,z40,z41,z91,z93,z32,z44,z46,z59,z42,zOrd,zChr,zLen,zo,zc,zl]; omega)) (ev_pos (by first | omega | (simp only [ByteArray.size_append,z40,z41,z91,z93,z32,z44,z46,z59,z42,zOrd,zChr,zLen,zo,zc,zl]; omega)) (ev_pos (by first | omega | (simp only [ByteArray.size_append,z40,z41,z91,z93,z32,z44,z46,z59,z42,zOrd,zChr,zLen,zo,zc,zl]; omega)) (ev_bind _ right (ev_pos (by first | omega | (simp only [ByteArray.size_append,z40,z41,z91,z93,z32,z44,z46,z59,z42,zOrd,zChr,zLen,zo,zc,zl]; omega)) ev_some))))))
        obtain ⟨p1,p2⟩:=kr h24
        rw [decide_eq_true_iff,hll]
        split <;> omega
      · refine ev_neg c2 (ev_bind (par a ll s) (side_ev h1.2.1 (by omega) false ll fun h24=>?_) (ev_pos (by first | omega | (simp only [ByteArray.size_append,z40,z41,z91,z93,z32,z44,z46,z59,z42,zOrd,zChr,zLen,zo,zc,zl]; omega)) (ev_pos (by first | omega | (simp only [ByteArray.size_append,z40,z41,z91,z93,z32,z44,z46,z59,z42,zOrd,zChr,zLen,zo,zc,zl]; omega)) (ev_pos (by first | omega | (simp only [ByteArray.size_append,z40,z41,z91,z93,z32,z44,z46,z59,z42,zOrd,zChr,zLen,zo,zc,zl]; omega)) (ev_bind _ right (ev_pos (by first | omega | (simp only [ByteArray.size_append,z40,z41,z91,z93,z32,z44,z46,z59,z42,zOrd,zChr,zLen,zo,zc,zl]; omega)) ev_some))))))
        obtain ⟨p1,p2⟩:=kr h24
        refine ⟨fun h=>(by cases h),fun h=>?_⟩
        exfalso
        rw [hll] at h
        split at h <;> omega
  · refine ev_step _ (fun k=>spec_l02Expr.f.eq_2 ..) (ev_bind (.inr ()) ?_ ?_)
    · unfold spec_l02Expr.e5 spec_l02Expr.e1
      exact ev_neg (by omega) (ev_neg (by omega) (ev_neg (by omega) (ev_neg (by omega) (ev_neg (by omega) (ev_neg (by omega) (ev_bind false (ev_neg (by omega) (ev_neg (by omega) (ev_eq ev_some (decide_eq_false (by omega))))) (ev_neg (by simp) (ev_neg (by omega) ev_some))))))))
    · refine ev_bind _ (ev_of fun k=>srk k x.f2) (ev_bind _ (ev_of e6) (ev_bind _ (ev_of g0) (ev_bind _ (h1.2.2 ll) (ev_pos (by first | omega | (simp only [ByteArray.size_append,z40,z41,z91,z93,z32,z44,z46,z59,z42,zOrd,zChr,zLen,zo,zc,zl]; omega)) (ev_pos (by first | omega | (simp only [ByteArray.size_append,z40,z41,z91,z93,z32,z44,z46,z59,z42,zOrd,zChr,zLen,zo,zc,zl]; omega)) (ev_pos (by first | omega | (simp only [ByteArray.size_append,z40,z41,z91,z93,z32,z44,z46,z59,z42,zOrd,zChr,zLen,zo,zc,zl]; omega)) (ev_bind _ (ev_of g1) (ev_bind (par b (rk x.f2 + 1) t) ?_ (ev_pos (by first | omega | (simp only [ByteArray.size_append,z40,z41,z91,z93,z32,z44,z46,z59,z42,zOrd,zChr,zLen,zo,zc,zl]; omega)) ?_)))))))))
      · rw [w64_id (by omega) (by omega)]; exact h2.2.2 (rk x.f2 + 1)
      · unfold par
        by_cases c:rk x.f2 < lvl
        · rw [if_pos (c:=x.f0 = 24 ∧ rk x.f2 < lvl) ⟨h0,c⟩]
          refine ev_pos c (ev_pos ?_ (ev_pos ?_ ev_some))
          · have:=par_size a ll s; have:=par_size b (rk x.f2 + 1) t; unfold par at *; exact (by first | omega | (simp only [ByteArray.size_append,z40,z41,z91,z93,z32,z44,z46,z59,z42,zOrd,zChr,zLen,zo,zc,zl]; omega))
          · have:=par_size a ll s; have:=par_size b (rk x.f2 + 1) t; unfold par at *; exact (by first | omega | (simp only [ByteArray.size_append,z40,z41,z91,z93,z32,z44,z46,z59,z42,zOrd,zChr,zLen,zo,zc,zl]; omega))
        · rw [if_neg (c:=x.f0 = 24 ∧ rk x.f2 < lvl) (fun h=>c h.2)]
          exact ev_neg c ev_some
theorem app3:((⟨#[79,82,68]⟩:ByteArray) ++ (⟨#[40]⟩:ByteArray) = ⟨#[79,82,68,40]⟩) ∧ ((⟨#[67,72,82]⟩:ByteArray) ++ (⟨#[40]⟩:ByteArray) = ⟨#[67,72,82,40]⟩) ∧ ((⟨#[76,69,78]⟩:ByteArray) ++ (⟨#[40]⟩:ByteArray) = ⟨#[76,69,78,40]⟩):=by decide +kernel
theorem ex_fn25 {x a:SNode} {s:ByteArray} (h0:x.f0 = 25) (hk:x.f4 = [a]) (h1:ExOK a s) (hw:wtV x ≤ 5000):∃ s,ExOK x s:=by
  have hx:=wtV_eq x
  rw [hk,wtL,wtL] at hx
  have q1:=h1.1
  have g0:∀ k:Nat,at? x.f4 0 = some a:=fun k=>by rw [hk]; rfl
  have ht:=h1.2.2 0
  have hb:par a 0 s = s:=by
    unfold par
    rw [if_neg]
    rintro ⟨_,h⟩
    have:=rk_ge a.f2
    omega
  rw [hb] at ht
  refine ⟨((⟨#[79,82,68,40]⟩:ByteArray) ++ s) ++ (⟨#[41]⟩:ByteArray),(by first | omega | (simp only [ByteArray.size_append,z40,z41,z91,z93,z32,z44,z46,z59,z42,zOrd,zChr,zLen,zo,zc,zl]; omega)),?_,spec_of (by omega) ?_⟩
  · exact ev_step _ (fun k=>impl_Node__text.f.eq_2 ..) (ev_neg (by omega) (ev_neg (by omega) (ev_neg (by omega) (ev_neg (by omega) (ev_neg (by omega) (ev_neg (by omega) (ev_neg (by omega) (ev_pos h0 (ev_bind _ (ev_of g0) (ev_bind _ h1.2.1 (ev_pos (by first | omega | (simp only [ByteArray.size_append,z40,z41,z91,z93,z32,z44,z46,z59,z42,zOrd,zChr,zLen,zo,zc,zl]; omega)) (ev_pos (by first | omega | (simp only [ByteArray.size_append,z40,z41,z91,z93,z32,z44,z46,z59,z42,zOrd,zChr,zLen,zo,zc,zl]; omega)) ev_some))))))))))))
  · unfold spec_l02Expr.e5 spec_l02Expr.e1
    have hat:∀ k:Nat,at? ([(⟨#[79,82,68]⟩:ByteArray),(⟨#[67,72,82]⟩:ByteArray),(⟨#[76,69,78]⟩:ByteArray)]:List ByteArray) (w64 (x.f0 - 25)) = some (⟨#[79,82,68]⟩:ByteArray):=fun k=>by rw [h0]; rfl
    rw [← app3.1]
    exact ev_neg (by omega) (ev_neg (by omega) (ev_neg (by omega) (ev_neg (by omega) (ev_neg (by omega) (ev_neg (by omega) (ev_bind true (ev_pos h0 (ev_eq ev_some (decide_eq_true h0))) (ev_pos rfl (ev_bind _ (ev_of hat) (ev_pos (by first | omega | (simp only [ByteArray.size_append,z40,z41,z91,z93,z32,z44,z46,z59,z42,zOrd,zChr,zLen,zo,zc,zl]; omega)) (ev_bind _ (ev_of g0) (ev_bind _ ht (ev_pos (by first | omega | (simp only [ByteArray.size_append,z40,z41,z91,z93,z32,z44,z46,z59,z42,zOrd,zChr,zLen,zo,zc,zl]; omega)) (ev_pos (by first | omega | (simp only [ByteArray.size_append,z40,z41,z91,z93,z32,z44,z46,z59,z42,zOrd,zChr,zLen,zo,zc,zl]; omega)) ev_some)))))))))))))
theorem ex_fn26 {x a:SNode} {s:ByteArray} (h0:x.f0 = 26) (hk:x.f4 = [a]) (h1:ExOK a s) (hw:wtV x ≤ 5000):∃ s,ExOK x s:=by
  have hx:=wtV_eq x
  rw [hk,wtL,wtL] at hx
  have q1:=h1.1
  have g0:∀ k:Nat,at? x.f4 0 = some a:=fun k=>by rw [hk]; rfl
  have ht:=h1.2.2 0
  have hb:par a 0 s = s:=by
    unfold par
    rw [if_neg]
    rintro ⟨_,h⟩
    have:=rk_ge a.f2
    omega
  rw [hb] at ht
  refine ⟨((⟨#[67,72,82,40]⟩:ByteArray) ++ s) ++ (⟨#[41]⟩:ByteArray),(by first | omega | (simp only [ByteArray.size_append,z40,z41,z91,z93,z32,z44,z46,z59,z42,zOrd,zChr,zLen,zo,zc,zl]; omega)),?_,spec_of (by omega) ?_⟩
  · exact ev_step _ (fun k=>impl_Node__text.f.eq_2 ..) (ev_neg (by omega) (ev_neg (by omega) (ev_neg (by omega) (ev_neg (by omega) (ev_neg (by omega) (ev_neg (by omega) (ev_neg (by omega) (ev_neg (by omega) (ev_pos h0 (ev_bind _ (ev_of g0) (ev_bind _ h1.2.1 (ev_pos (by first | omega | (simp only [ByteArray.size_append,z40,z41,z91,z93,z32,z44,z46,z59,z42,zOrd,zChr,zLen,zo,zc,zl]; omega)) (ev_pos (by first | omega | (simp only [ByteArray.size_append,z40,z41,z91,z93,z32,z44,z46,z59,z42,zOrd,zChr,zLen,zo,zc,zl]; omega)) ev_some)))))))))))))
  · unfold spec_l02Expr.e5 spec_l02Expr.e1
    have hat:∀ k:Nat,at? ([(⟨#[79,82,68]⟩:ByteArray),(⟨#[67,72,82]⟩:ByteArray),(⟨#[76,69,78]⟩:ByteArray)]:List ByteArray) (w64 (x.f0 - 25)) = some (⟨#[67,72,82]⟩:ByteArray):=fun k=>by rw [h0]; rfl
    rw [← app3.2.1]
    exact ev_neg (by omega) (ev_neg (by omega) (ev_neg (by omega) (ev_neg (by omega) (ev_neg (by omega) (ev_neg (by omega) (ev_bind true (ev_neg (by omega) (ev_pos h0 (ev_eq ev_some (decide_eq_true h0)))) (ev_pos rfl (ev_bind _ (ev_of hat) (ev_pos (by first | omega | (simp only [ByteArray.size_append,z40,z41,z91,z93,z32,z44,z46,z59,z42,zOrd,zChr,zLen,zo,zc,zl]; omega)) (ev_bind _ (ev_of g0) (ev_bind _ ht (ev_pos (by first | omega | (simp only [ByteArray.size_append,z40,z41,z91,z93,z32,z44,z46,z59,z42,zOrd,zChr,zLen,zo,zc,zl]; omega)) (ev_pos (by first | omega | (simp only [ByteArray.size_append,z40,z41,z91,z93,z32,z44,z46,z59,z42,zOrd,zChr,zLen,zo,zc,zl]; omega)) ev_some)))))))))))))
theorem ex_fn27 {x a:SNode} {s:ByteArray} (h0:x.f0 = 27) (hk:x.f4 = [a]) (h1:ExOK a s) (hw:wtV x ≤ 5000):∃ s,ExOK x s:=by
  have hx:=wtV_eq x
  rw [hk,wtL,wtL] at hx
  have q1:=h1.1
  have g0:∀ k:Nat,at? x.f4 0 = some a:=fun k=>by rw [hk]; rfl
  have ht:=h1.2.2 0
  have hb:par a 0 s = s:=by
    unfold par
    rw [if_neg]
    rintro ⟨_,h⟩
    have:=rk_ge a.f2
    omega
  rw [hb] at ht
  refine ⟨((⟨#[76,69,78,40]⟩:ByteArray) ++ s) ++ (⟨#[41]⟩:ByteArray),(by first | omega | (simp only [ByteArray.size_append,z40,z41,z91,z93,z32,z44,z46,z59,z42,zOrd,zChr,zLen,zo,zc,zl]; omega)),?_,spec_of (by omega) ?_⟩
  · exact ev_step _ (fun k=>impl_Node__text.f.eq_2 ..) (ev_neg (by omega) (ev_neg (by omega) (ev_neg (by omega) (ev_neg (by omega) (ev_neg (by omega) (ev_neg (by omega) (ev_neg (by omega) (ev_neg (by omega) (ev_neg (by omega) (ev_pos h0 (ev_bind _ (ev_of g0) (ev_bind _ h1.2.1 (ev_pos (by first | omega | (simp only [ByteArray.size_append,z40,z41,z91,z93,z32,z44,z46,z59,z42,zOrd,zChr,zLen,zo,zc,zl]; omega)) (ev_pos (by first | omega | (simp only [ByteArray.size_append,z40,z41,z91,z93,z32,z44,z46,z59,z42,zOrd,zChr,zLen,zo,zc,zl]; omega)) ev_some))))))))))))))
  · unfold spec_l02Expr.e5 spec_l02Expr.e1
    have hat:∀ k:Nat,at? ([(⟨#[79,82,68]⟩:ByteArray),(⟨#[67,72,82]⟩:ByteArray),(⟨#[76,69,78]⟩:ByteArray)]:List ByteArray) (w64 (x.f0 - 25)) = some (⟨#[76,69,78]⟩:ByteArray):=fun k=>by rw [h0]; rfl
    rw [← app3.2.2]
    exact ev_neg (by omega) (ev_neg (by omega) (ev_neg (by omega) (ev_neg (by omega) (ev_neg (by omega) (ev_neg (by omega) (ev_bind true (ev_neg (by omega) (ev_neg (by omega) (ev_eq ev_some (decide_eq_true h0)))) (ev_pos rfl (ev_bind _ (ev_of hat) (ev_pos (by first | omega | (simp only [ByteArray.size_append,z40,z41,z91,z93,z32,z44,z46,z59,z42,zOrd,zChr,zLen,zo,zc,zl]; omega)) (ev_bind _ (ev_of g0) (ev_bind _ ht (ev_pos (by first | omega | (simp only [ByteArray.size_append,z40,z41,z91,z93,z32,z44,z46,z59,z42,zOrd,zChr,zLen,zo,zc,zl]; omega)) (ev_pos (by first | omega | (simp only [ByteArray.size_append,z40,z41,z91,z93,z32,z44,z46,z59,z42,zOrd,zChr,zLen,zo,zc,zl]; omega)) ev_some)))))))))))))
theorem ex_call {x:SNode} (ha:allV x = true) (h0:x.f0 = 12) (hk:∀ y,y ∈ x.f4 → ∃ s,ExOK y s) (hw:wtV x ≤ 5000):∃ s,ExOK x s:=by
  have hx:=wtV_eq x
  have hlen:=wtL_len x.f4
  obtain ⟨hn,_,_,_⟩:=all_ok ha
  obtain ⟨f2,f3⟩:=full_names hn (.inl h0)
  have hfs:=full_size f2 f3
  have hT:∀ y,y ∈ x.f4 → ExOK y (txT y):=fun y hy=>txT_ok (hk y hy)
  have hj:=join_size txT x.f4 fun y hy=>(hT y hy).1
  obtain ⟨K1,hK1⟩:=ev_all (f:=fun k y=>impl_Node__text.f k y) (g:=txT) fun y hy=>(hT y hy).2.1
  obtain ⟨K2,hK2⟩:=ev_all (f:=fun k y=>spec_l02Expr.f k y 0) (g:=txT) (l:=x.f4) fun y hy=>by
    have:=(hT y hy).2.2 0
    have hb:par y 0 (txT y) = txT y:=by
      unfold par
      rw [if_neg]
      rintro ⟨_,h⟩
      have:=rk_ge y.f2
      omega
    rw [hb] at this
    exact this
  have it:Evr (fun k=>impl_texts.f k (impl_Node__text.f k) x.f4) (joinOf (x.f4.map txT) (⟨#[44,32]⟩:ByteArray)):=by
    unfold impl_texts.f impl_texts.e2
    refine ev_bind (x.f4.map txT) ⟨max K1 (x.f4.length + 1),fun k hk=>?_⟩ (ev_bind _ (ev_of fun k=>?_) ev_some)
    · exact texts_run x.f4 (impl_Node__text.f k) txT (hK1 k (by omega)) (by omega) x.f4.length 0 k (by omega) (by omega)
    · unfold strings_Join.f
      rw [if_pos ⟨by simp; omega,by omega⟩]
  have st:Evr (fun k=>spec_l02Expr.e4 k x (spec_l02Expr.f k) (fullT x)) ((fullT x ++ (⟨#[40]⟩:ByteArray)) ++ joinOf (x.f4.map txT) (⟨#[44,32]⟩:ByteArray)):=by
    unfold spec_l02Expr.e4
    refine ⟨max K2 (x.f4.length + 1),fun k hk=>?_⟩
    have hr:=expr_run x (spec_l02Expr.f k) txT (fullT x ++ (⟨#[40]⟩:ByteArray)) (by first | omega | (simp only [ByteArray.size_append,z40,z41,z91,z93,z32,z44,z46,z59,z42,zOrd,zChr,zLen,zo,zc,zl]; omega)) (hK2 k (by omega)) (fun y hy=>(hT y hy).1) (by omega) (by omega) x.f4.length 0 k (by omega) (by omega)
    have e:(fullT x ++ (⟨#[40]⟩:ByteArray)) ++ joinOf ((x.f4.take 0).map txT) (⟨#[44,32]⟩:ByteArray) = fullT x ++ (⟨#[40]⟩:ByteArray):=by
      have:joinOf ((x.f4.take 0).map txT) (⟨#[44,32]⟩:ByteArray) = ⟨#[]⟩:=rfl
      rw [this]
      apply ba_ext; simp
    rw [e] at hr
    exact hr
  refine ⟨((fullT x ++ (⟨#[40]⟩:ByteArray)) ++ joinOf (x.f4.map txT) (⟨#[44,32]⟩:ByteArray)) ++ (⟨#[41]⟩:ByteArray),?_,?_,spec_of (by omega) ?_⟩
  · simp only [ByteArray.size_append,z40,z41]
    omega
  · exact ev_step _ (fun k=>impl_Node__text.f.eq_2 ..) (ev_neg (by omega) (ev_neg (by omega) (ev_neg (by omega) (ev_neg (by omega) (ev_neg (by omega) (ev_neg (by omega) (ev_neg (by omega) (ev_neg (by omega) (ev_neg (by omega) (ev_neg (by omega) (ev_bind _ (ev_of fun k=>ifull k f2 f3) (ev_pos (by first | omega | (simp only [ByteArray.size_append,z40,z41,z91,z93,z32,z44,z46,z59,z42,zOrd,zChr,zLen,zo,zc,zl]; omega)) (ev_bind _ it (ev_pos (by first | omega | (simp only [ByteArray.size_append,z40,z41,z91,z93,z32,z44,z46,z59,z42,zOrd,zChr,zLen,zo,zc,zl]; omega)) (ev_pos (by first | omega | (simp only [ByteArray.size_append,z40,z41,z91,z93,z32,z44,z46,z59,z42,zOrd,zChr,zLen,zo,zc,zl]; omega)) ev_some)))))))))))))))
  · unfold spec_l02Expr.e5 spec_l02Expr.e1
    exact ev_neg (by omega) (ev_neg (by omega) (ev_neg (by omega) (ev_neg (by omega) (ev_neg (by omega) (ev_neg (by omega) (ev_bind false (ev_neg (by omega) (ev_neg (by omega) (ev_eq ev_some (decide_eq_false (by omega))))) (ev_neg (by simp) (ev_pos h0 (ev_bind _ (ev_of fun k=>sfull k f2 f3) (ev_pos (by first | omega | (simp only [ByteArray.size_append,z40,z41,z91,z93,z32,z44,z46,z59,z42,zOrd,zChr,zLen,zo,zc,zl]; omega)) (ev_bind _ st (ev_pos (by first | omega | (simp only [ByteArray.size_append,z40,z41,z91,z93,z32,z44,z46,z59,z42,zOrd,zChr,zLen,zo,zc,zl]; omega)) ev_some))))))))))))
theorem ex_ok {x:SNode} (hx:Sm x):allV x = true → exprB x = true → wtV x ≤ 5000 → ∃ s,ExOK x s:=by
  induction hx with
  | mk h2 h3 h4 k ih =>
    rename_i x
    intro ha he hw
    obtain ⟨hn,hnum,hkb,hall⟩:=all_ok ha
    have kid:∀ y,y ∈ x.f4 → exprB y = true → ∃ s,ExOK y s:=fun y hy hye=>ih y hy (hall y hy) hye (by have:=wt_kid hy; omega)
    have hc:x.f0 = 12 ∨ x.f0 = 18 ∨ x.f0 = 19 ∨ x.f0 = 20 ∨ x.f0 = 21 ∨ x.f0 = 22 ∨ x.f0 = 23 ∨ x.f0 = 24 ∨ x.f0 = 25 ∨ x.f0 = 26 ∨ x.f0 = 27:=by
      unfold exprB btw at he
      simp only [Bool.or_eq_true,Bool.and_eq_true,decide_eq_true_eq] at he
      omega
    have hkk:=hkb
    unfold kidsB at hkk
    rcases hc with h0 | h0 | h0 | h0 | h0 | h0 | h0 | h0 | h0 | h0 | h0
    · rw [h0] at hkk
      have hke:x.f4.all exprB = true:=hkk
      exact ex_call ha h0 (fun y hy=>kid y hy (List.all_eq_true.1 hke y hy)) hw
    · exact ⟨_,ex_int ha h0⟩
    · exact ⟨_,ex_char ha h0⟩
    · exact ⟨_,ex_bool ha h0⟩
    · exact ⟨_,ex_full ha h0⟩
    · rw [h0] at hkk
      have hke:k2 (ofB 21) exprB x.f4 = true:=hkk
      obtain ⟨a,b,hab,p,q⟩:=kids_2 hke
      have ma:a ∈ x.f4:=by rw [hab]; simp
      have mb:b ∈ x.f4:=by rw [hab]; simp
      obtain ⟨p0,p1⟩:=of21 p
      obtain ⟨s,hs⟩:=kid a ma p1
      obtain ⟨t,ht⟩:=kid b mb q
      exact ex_index h0 hab p0 (hall a ma) hs ht hw
    · rw [h0] at hkk
      have hke:k1 exprB x.f4 = true:=hkk
      obtain ⟨a,hab,p⟩:=kids_1 hke
      have ma:a ∈ x.f4:=by rw [hab]; simp
      obtain ⟨s,hs⟩:=kid a ma p
      exact ex_unary ha (hall a ma) h0 hab hs hw
    · rw [h0] at hkk
      have hke:k2 exprB exprB x.f4 = true:=hkk
      obtain ⟨a,b,hab,p,q⟩:=kids_2 hke
      have ma:a ∈ x.f4:=by rw [hab]; simp
      have mb:b ∈ x.f4:=by rw [hab]; simp
      obtain ⟨s,hs⟩:=kid a ma p
      obtain ⟨t,ht⟩:=kid b mb q
      exact ex_binary ha (hall a ma) (hall b mb) h0 hab hs ht hw
    · rw [h0] at hkk
      have hke:k1 exprB x.f4 = true:=hkk
      obtain ⟨a,hab,p⟩:=kids_1 hke
      have ma:a ∈ x.f4:=by rw [hab]; simp
      obtain ⟨s,hs⟩:=kid a ma p
      exact ex_fn25 h0 hab hs hw
    · rw [h0] at hkk
      have hke:k1 exprB x.f4 = true:=hkk
      obtain ⟨a,hab,p⟩:=kids_1 hke
      have ma:a ∈ x.f4:=by rw [hab]; simp
      obtain ⟨s,hs⟩:=kid a ma p
      exact ex_fn26 h0 hab hs hw
    · rw [h0] at hkk
      have hke:k1 (ofB 21) x.f4 = true:=hkk
      obtain ⟨a,hab,p⟩:=kids_1 hke
      have ma:a ∈ x.f4:=by rw [hab]; simp
      obtain ⟨s,hs⟩:=kid a ma (of21 p).2
      exact ex_fn27 h0 hab hs hw
/-- A right expression's text. -/
theorem tx_ok {x:SNode} (hx:Sm x) (ha:allV x = true) (he:exprB x = true) (hw:wtV x ≤ 5000):(txT x).size ≤ 200 * wtV x ∧ Evr (fun k=>impl_Node__text.f k x) (txT x) ∧ Evr (fun k=>spec_l02Expr.f k x 0) (txT x):=by
  have h:=txT_ok (ex_ok hx ha he hw)
  refine ⟨by have:=h.1; omega,h.2.1,?_⟩
  have h2:=h.2.2 0
  have hb:par x 0 (txT x) = txT x:=by
    unfold par
    rw [if_neg]
    rintro ⟨_,h⟩
    have:=rk_ge x.f2
    omega
  rw [hb] at h2
  exact h2
end Go.Proofs.YtaelpeekimbmcaaGreatDoor.T
