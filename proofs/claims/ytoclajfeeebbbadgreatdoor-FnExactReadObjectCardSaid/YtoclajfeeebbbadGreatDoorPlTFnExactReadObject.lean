/- Reading an object: both readers, as one decoder. -/
import Derived.Test.YtoclajfeeebbbadGreatDoorPlOFnExactReadObject
import Derived.Test.YtoclajfeeebbbadGreatDoorPlRFnExactReadObject
set_option linter.unusedVariables false
set_option linter.unusedSimpArgs false
namespace Go.Proofs.YtoclajfeeebbbadGreatDoor.V
open Go.RowKit Go.Proofs.YtoclajfeeebbbadGreatDoor.E
def OctO (o:Option (List Int)):Prop:=∀ s,o = some s → ∀ v ∈ s,0 ≤ v ∧ v < 256
theorem got_none {α:Type} (d:D α) (v:α):Got none d v:=fun _ _ h=>by cases h
theorem numD1_cons {x:Int} {s:List Int} (h0:0 ≤ x) (h1:x < 256):numD 1 (x :: s) = some (x,s):=by
  have e:takeD 1 (x :: s) = some ([x],s):=by unfold takeD; rw [if_pos (by simp)]; rfl
  unfold numD D.bind
  rw [e]
  show some (numV [x],s) = _
  rw [numV_one h0 h1]
/-- Two bytes, as the reference reads them. -/
def num2D:D Int:=D.bind (numD 1) fun a=>D.bind (numD 1) fun b=>D.pure (w64 (w64 (a * 256) + b))
theorem num2_eq {s:List Int} (h:∀ v ∈ s,0 ≤ v ∧ v < 256):numD 2 s = num2D s:=by
  match s,h with
  | [],_=>rfl
  | [x],h =>
    obtain ⟨h0,h1⟩:=h x (by simp)
    unfold num2D D.bind
    rw [numD1_cons h0 h1]
    rfl
  | x :: y :: r,h =>
    obtain ⟨h0,h1⟩:=h x (by simp)
    obtain ⟨g0,g1⟩:=h y (by simp)
    have e:takeD 2 (x :: y :: r) = some ([x,y],r):=by unfold takeD; rw [if_pos (by simp)]; rfl
    have e2:numV [x,y] = w64 (w64 (x * 256) + y):=by
      rw [numV_sum (fun b hb=>h b (by
        simp only [List.mem_cons,List.not_mem_nil,or_false] at hb
        rcases hb with rfl | rfl <;> simp))]
      unfold sumV
      simp only [List.foldl_cons,List.foldl_nil]
      rw [w64_id (n:=x * 256) (by omega) (by omega),w64_id (by omega) (by omega),IntKind.wrap_i64]
      omega
    have l:numD 2 (x :: y :: r) = some (w64 (w64 (x * 256) + y),r):=by
      unfold numD D.bind
      rw [e,← e2]
      rfl
    rw [l]
    unfold num2D D.bind
    rw [numD1_cons h0 h1]
    simp only [Option.bind_some]
    rw [numD1_cons g0 g1]
    rfl
theorem nxt2 {o:Option (List Int)} (h:OctO o):nxt o (numD 2) = nxt o num2D:=by
  cases o with
  | none=>rfl
  | some s=>unfold nxt; rw [Option.bind_some,Option.bind_some,num2_eq (h s rfl)]
theorem got2 {o:Option (List Int)} (h:OctO o) {v:Int} (g:Got o (numD 2) v):Got o num2D v:=fun x s e=>by
  cases o with
  | none=>cases e
  | some z =>
    refine g x s ?_
    rw [Option.bind_some] at e ⊢
    rw [num2_eq (h z rfl)]
    exact e
theorem rel_oct {t:ByteArray} {at_:Int} {bad:Bool} {o:Option (List Int)} (h:Rel t at_ bad o):OctO o:=fun s hs v hv=>by
  rw [← (h.yes s hs).2] at hv
  exact oct_bytes t v (List.mem_of_mem_drop hv)
/-! The decoder. -/
def insD:D SIns:=D.bind (numD 1) fun op=>D.bind (numD 8) fun a=>if op = 3 ∨ op = 13 then D.bind (numD 1) fun b=>D.bind textD fun m=>D.bind textD fun n=>D.pure ⟨op,a,b,m,n⟩ else D.pure ⟨op,a,0,⟨#[]⟩,⟨#[]⟩⟩
def codeD:D SCode:=D.bind textD fun n=>D.bind (numD 1) fun p=>D.bind num2D fun c=>D.bind (numD 1) fun r=>D.bind num2D fun m=>D.bind (D.many insD m.toNat) fun l=>D.pure ⟨n,p,c,r,l⟩
def needD:D SNeed:=D.bind textD fun n=>D.bind (numD 8) fun p=>D.pure ⟨n,p⟩
def globD:D SNeed:=D.bind textD fun n=>D.bind (numD 1) fun p=>D.pure ⟨n,p⟩
def objD:D SObj:=D.bind (headD [79,79,49]) fun _=>D.bind textD fun n=>D.bind (numD 8) fun p=>D.bind (numD 1) fun a=>D.bind (D.many needD a.toNat) fun needs=>D.bind (numD 1) fun b=>D.bind (D.many globD b.toNat) fun globs=>D.bind (numD 1) fun c=>D.bind (D.many codeD c.toNat) fun procs=>D.pure ⟨n,p,needs,globs,procs⟩
def okX (x:SIns):Prop:=x.f3.size ≤ 255 ∧ x.f4.size ≤ 255
def okC (x:SCode):Prop:=x.f0.size ≤ 255 ∧ x.f4.length ≤ 65535 ∧ ∀ y ∈ x.f4,okX y
def okN (x:SNeed):Prop:=x.f0.size ≤ 255
/-! Loops. -/
theorem many_succ {α:Type} (d:D α) (n:Nat):D.many d (n + 1) = D.bind d fun x=>D.bind (D.many d n) fun l=>D.pure (x :: l):=rfl
theorem got_snoc {α:Type} {o:Option (List Int)} {d:D α} {x:α} {n:Nat} {l:List α} (h:Got o d x) (k:Got (nxt o d) (D.many d n) l):Got o (D.many d (n + 1)) (x :: l):=by
  rw [many_succ]
  exact got_bind h (got_bind k (got_pure _ _))
theorem nxt_snoc {α:Type} {o:Option (List Int)} {d:D α} {x:α} {n:Nat} {l:List α} (h:Got o d x) (k:Got (nxt o d) (D.many d n) l):nxt o (D.many d (n + 1)) = nxt (nxt o d) (D.many d n):=by
  rw [many_succ,nxt_bind h,nxt_bind k,nxt_pure]
section
variable {α:Type} {R:Int → Bool → Option (List Int) → Prop}
/-- A loop that goes on where nothing is left. -/
theorem up_loop {d : D α} {ok : α → Prop} {n : Nat} (hn : n ≤ 65535) (L : Nat → Int → Int → Bool → List α → Option (Int × Bool × List α))
    (hend:∀ k at_ bad acc,L (k + 1) (n:Int) at_ bad acc = some (at_,bad,acc))
    (hstep:∀ (i:Nat) at_ bad o acc,i < n → R at_ bad o → acc.length ≤ i → ∃ at1 bad1 x,ok x ∧ R at1 bad1 (nxt o d) ∧ Got o d x ∧ ∀ r,Evr (fun k=>L k ((i + 1:Nat):Int) at1 bad1 (acc ++ [x])) r → Evr (fun k=>L k (i:Int) at_ bad acc) r) :
    ∀ (m i:Nat) (at_:Int) (bad:Bool) (o:Option (List Int)) (acc:List α),i + m = n → R at_ bad o → acc.length ≤ i →
      ∃ at2 bad2 l,Evr (fun k=>L k (i:Int) at_ bad acc) (at2,bad2,acc ++ l) ∧ l.length ≤ m ∧ (∀ x ∈ l,ok x) ∧ R at2 bad2 (nxt o (D.many d m)) ∧ Got o (D.many d m) l
  | 0,i,at_,bad,o,acc,hm,h,ha=>by
    obtain rfl:i = n:=by omega
    refine ⟨at_,bad,[],?_,Nat.le_refl _,fun x hx=>(by cases hx),?_,got_pure _ _⟩
    · rw [List.append_nil]
      exact ev_step _ (fun k=>hend k at_ bad acc) ev_some
    · show R at_ bad (nxt o (D.pure []))
      rw [nxt_pure]
      exact h
  | m + 1,i,at_,bad,o,acc,hm,h,ha=>by
    obtain ⟨at1,bad1,x,o1,r1,g1,e1⟩:=hstep i at_ bad o acc (by omega) h ha
    obtain ⟨at2,bad2,l,e3,hl,o3,r3,g3⟩:=up_loop hn L hend hstep m (i + 1) at1 bad1 (nxt o d) (acc ++ [x]) (by omega) r1 (by simp; omega)
    refine ⟨at2,bad2,x :: l,e1 _ ?_,by simp; omega,fun y hy=>?_,?_,got_snoc g1 g3⟩
    · rw [List.append_assoc] at e3
      exact e3
    · rcases List.mem_cons.1 hy with rfl | hy
      · exact o1
      · exact o3 y hy
    · rw [nxt_snoc g1 g3]
      exact r3
/-- A loop that ends where nothing is left. -/
theorem down_loop (hno : ∀ {at_ bad}, R at_ bad none → bad = true) (hyes : ∀ {at_ bad s}, R at_ bad (some s) → bad = false) {d : D α} {ok : α → Prop} {B : Nat} (L : Nat → Nat → Int → Bool → List α → Option (Int × Bool × List α))
    (hend:∀ k z at_ bad acc,(z = 0 ∨ bad = true) → z ≤ B → L (k + 1) z at_ bad acc = some (at_,bad,acc))
    (hstep:∀ (z:Nat) at_ s acc,z + 1 ≤ B → R at_ false (some s) → acc.length + (z + 1) ≤ B → ∃ at1 bad1 x,ok x ∧ R at1 bad1 (nxt (some s) d) ∧ Got (some s) d x ∧ ∀ r,Evr (fun k=>L k z at1 bad1 (acc ++ [x])) r → Evr (fun k=>L k (z + 1) at_ false acc) r) :
    ∀ (m:Nat) (at_:Int) (bad:Bool) (o:Option (List Int)) (acc:List α),R at_ bad o → acc.length + m ≤ B →
      ∃ at2 bad2 l,Evr (fun k=>L k m at_ bad acc) (at2,bad2,acc ++ l) ∧ l.length ≤ m ∧ (∀ x ∈ l,ok x) ∧ R at2 bad2 (nxt o (D.many d m)) ∧ Got o (D.many d m) l
  | m,at_,bad,none,acc,h,ha=>by
    refine ⟨at_,bad,[],?_,Nat.zero_le _,fun x hx=>(by cases hx),h,got_none _ _⟩
    rw [List.append_nil]
    exact ev_step _ (fun k=>hend k m at_ bad acc (.inr (hno h)) (by omega)) ev_some
  | 0,at_,bad,some s,acc,h,ha=>by
    refine ⟨at_,bad,[],?_,Nat.le_refl _,fun x hx=>(by cases hx),?_,got_pure _ _⟩
    · rw [List.append_nil]
      exact ev_step _ (fun k=>hend k 0 at_ bad acc (.inl rfl) (by omega)) ev_some
    · show R at_ bad (nxt (some s) (D.pure []))
      rw [nxt_pure]
      exact h
  | m + 1,at_,bad,some s,acc,h,ha=>by
    obtain rfl:=hyes h
    obtain ⟨at1,bad1,x,o1,r1,g1,e1⟩:=hstep m at_ s acc (by omega) h ha
    obtain ⟨at2,bad2,l,e3,hl,o3,r3,g3⟩:=down_loop hno hyes L hend hstep m at1 bad1 (nxt (some s) d) (acc ++ [x]) r1 (by simp; omega)
    refine ⟨at2,bad2,x :: l,e1 _ ?_,by simp; omega,fun y hy=>?_,?_,got_snoc g1 g3⟩
    · rw [List.append_assoc] at e3
      exact e3
    · rcases List.mem_cons.1 hy with rfl | hy
      · exact o1
      · exact o3 y hy
    · rw [nxt_snoc g1 g3]
      exact r3
end
/-! The program. -/
theorem ineeds_rd {t : ByteArray} (ht : t.size ≤ 1000000) {r : Int × Int × Bool} (hr : 0 ≤ r.1 ∧ r.1 < 256) {at_ : Int} {bad : Bool} {o : Option (List Int)} (h : Rel t at_ bad o) :
    ∃ at2 bad2 l,Evr (fun k=>impl_readObject.l1 k t r 0 at_ bad []) (at2,bad2,l) ∧ l.length ≤ 255 ∧ (∀ x ∈ l,okN x) ∧ Rel t at2 bad2 (nxt o (D.many needD r.1.toNat)) ∧ Got o (D.many needD r.1.toNat) l:=by
  obtain ⟨a,b,l,e,hl,g1,g2,g3⟩:=up_loop (R:=Rel t) (d:=needD) (ok:=okN) (n:=r.1.toNat) (by omega) (fun k i at_ bad acc=>impl_readObject.l1 k t r i at_ bad acc)
    (fun k at_ bad acc=>by rw [impl_readObject.l1,if_neg (by omega)])
    (fun i at_ bad o acc hi h ha=>by
      obtain ⟨n,at1,bad1,e1,r1,g1,hn⟩:=itext_ev h ht
      obtain ⟨p,at2,bad2,e2,r2,g2⟩:=inum8_ev r1 ht
      refine ⟨at2,bad2,⟨n,p⟩,hn,?_,got_bind g1 (got_bind g2 (got_pure _ _)),fun x hx=>?_⟩
      · unfold needD
        rw [nxt_bind g1,nxt_bind g2,nxt_pure]
        exact r2
      · refine ev_step _ (fun k=>rfl) (ev_pos (by omega) (ev_bind _ e1 (ev_bind _ e2 (ev_pos (by simp; omega) ?_))))
        rw [w64_next (by omega)]
        exact hx) _ 0 at_ bad o [] (Nat.zero_add _) h (Nat.le_refl _)
  exact ⟨a,b,l,by simpa using e,by omega,g1,g2,g3⟩
theorem iglobs_rd {t : ByteArray} (ht : t.size ≤ 1000000) {r : Int × Int × Bool} (hr : 0 ≤ r.1 ∧ r.1 < 256) {at_ : Int} {bad : Bool} {o : Option (List Int)} (h : Rel t at_ bad o) :
    ∃ at2 bad2 l,Evr (fun k=>impl_readObject.l3 k t r 0 at_ bad []) (at2,bad2,l) ∧ l.length ≤ 255 ∧ (∀ x ∈ l,okN x) ∧ Rel t at2 bad2 (nxt o (D.many globD r.1.toNat)) ∧ Got o (D.many globD r.1.toNat) l:=by
  obtain ⟨a,b,l,e,hl,g1,g2,g3⟩:=up_loop (R:=Rel t) (d:=globD) (ok:=okN) (n:=r.1.toNat) (by omega) (fun k i at_ bad acc=>impl_readObject.l3 k t r i at_ bad acc)
    (fun k at_ bad acc=>by rw [impl_readObject.l3,if_neg (by omega)])
    (fun i at_ bad o acc hi h ha=>by
      obtain ⟨n,at1,bad1,e1,r1,g1,hn⟩:=itext_ev h ht
      obtain ⟨p,at2,bad2,e2,r2,g2,_⟩:=inum1_ev r1 ht
      refine ⟨at2,bad2,⟨n,p⟩,hn,?_,got_bind g1 (got_bind g2 (got_pure _ _)),fun x hx=>?_⟩
      · unfold globD
        rw [nxt_bind g1,nxt_bind g2,nxt_pure]
        exact r2
      · refine ev_step _ (fun k=>rfl) (ev_pos (by omega) (ev_bind _ e1 (ev_bind _ e2 (ev_pos (by simp; omega) ?_))))
        rw [w64_next (by omega)]
        exact hx) _ 0 at_ bad o [] (Nat.zero_add _) h (Nat.le_refl _)
  exact ⟨a,b,l,by simpa using e,by omega,g1,g2,g3⟩
theorem ihas_eq (k:Nat) (n:Int):impl_hasPlace.f k n = some (decide (n = 3 ∨ n = 13)):=by
  unfold impl_hasPlace.f impl_hasPlace.e1
  by_cases h:n = 3
  · simp [h]
  · simp [h]
theorem iins_rd {t : ByteArray} (ht : t.size ≤ 1000000) (q : S3ddd55) (hq : q.f0 = t) {r : Int × Int × Bool} (hr : 0 ≤ r.1 ∧ r.1 ≤ 65535) {at_ : Int} {bad : Bool} {o : Option (List Int)} (h : Rel t at_ bad o) :
    ∃ at2 bad2 l,Evr (fun k=>impl_reader__code_2.l2 k q r 0 at_ bad []) (at2,bad2,l) ∧ l.length ≤ 65535 ∧ (∀ x ∈ l,okX x) ∧ Rel t at2 bad2 (nxt o (D.many insD r.1.toNat)) ∧ Got o (D.many insD r.1.toNat) l:=by
  obtain ⟨a,b,l,e,hl,g1,g2,g3⟩:=down_loop (R:=Rel t) (fun h=>h.no rfl) (fun h=>(h.yes _ rfl).1) (d:=insD) (ok:=okX) (B:=r.1.toNat) (fun k z at_ bad acc=>impl_reader__code_2.l2 k q r (r.1 - (z:Int)) at_ bad acc)
    (fun k z at_ bad acc hz hB=>by
      show impl_reader__code_2.l2 (k + 1) q r (r.1 - (z:Int)) at_ bad acc = _
      rw [impl_reader__code_2.l2]
      rcases hz with rfl | rfl
      · rw [if_neg (by omega)]
      · by_cases hc:r.1 - (z:Int) < r.1
        · rw [if_pos hc,if_pos rfl]
        · rw [if_neg hc])
    (fun z at_ s acc hB h ha=>by
      obtain ⟨op,at1,bad1,e1,r1,g1,_⟩:=inum1_ev h ht
      obtain ⟨av,at2,bad2,e2,r2,g2⟩:=inum8_ev r1 ht
      have ez:w64 (r.1 - ((z + 1:Nat):Int) + 1) = r.1 - (z:Int):=by rw [w64_id (by omega) (by omega)]; omega
      by_cases hp:op = 3 ∨ op = 13
      · obtain ⟨bv,at3,bad3,e3,r3,g3,_⟩:=inum1_ev r2 ht
        obtain ⟨m,at4,bad4,e4,r4,g4,hm⟩:=itext_ev r3 ht
        obtain ⟨n,at5,bad5,e5,r5,g5,hn⟩:=itext_ev r4 ht
        have gk:Got (nxt (nxt (some s) (numD 1)) (numD 8)) (if op = 3 ∨ op = 13 then D.bind (numD 1) fun b=>D.bind textD fun m=>D.bind textD fun n=>D.pure (⟨op,av,b,m,n⟩:SIns) else D.pure ⟨op,av,0,⟨#[]⟩,⟨#[]⟩⟩) ⟨op,av,bv,m,n⟩:=by
          rw [if_pos hp]
          exact got_bind g3 (got_bind g4 (got_bind g5 (got_pure _ _)))
        refine ⟨at5,bad5,⟨op,av,bv,m,n⟩,⟨hm,hn⟩,?_,got_bind g1 (got_bind g2 gk),fun x hx=>?_⟩
        · unfold insD
          rw [nxt_bind g1,nxt_bind g2,if_pos hp,nxt_bind g3,nxt_bind g4,nxt_bind g5,nxt_pure]
          exact r5
        · refine ev_step _ (fun k=>rfl) (ev_pos (by omega) (ev_neg (by simp) ?_))
          rw [hq]
          refine ev_bind _ e1 (ev_bind _ e2 (ev_bind (at5,bad5,bv,m,n) ?_ (ev_pos (by simp; omega) ?_)))
          · unfold impl_reader__code_2.e1
            simp only [ihas_eq,Option.bind_some]
            rw [hq]
            exact ev_pos (decide_eq_true hp) (ev_bind _ e3 (ev_bind _ e4 (ev_bind _ e5 ev_some)))
          · rw [ez]
            exact hx
      · have gk : Got (nxt (nxt (some s) (numD 1)) (numD 8)) (if op = 3 ∨ op = 13 then D.bind (numD 1) fun b => D.bind textD fun m => D.bind textD fun n => D.pure (⟨op, av, b, m, n⟩ : SIns) else D.pure ⟨op, av, 0, ⟨#[]⟩, ⟨#[]⟩⟩) ⟨op, av, 0, ⟨#[]⟩, ⟨#[]⟩⟩ := by
          rw [if_neg hp]
          exact got_pure _ _
        refine ⟨at2,bad2,⟨op,av,0,⟨#[]⟩,⟨#[]⟩⟩,⟨Nat.zero_le _,Nat.zero_le _⟩,?_,got_bind g1 (got_bind g2 gk),fun x hx=>?_⟩
        · unfold insD
          rw [nxt_bind g1,nxt_bind g2,if_neg hp,nxt_pure]
          exact r2
        · refine ev_step _ (fun k=>rfl) (ev_pos (by omega) (ev_neg (by simp) ?_))
          rw [hq]
          refine ev_bind _ e1 (ev_bind _ e2 (ev_bind (at2,bad2,0,⟨#[]⟩,⟨#[]⟩) ?_ (ev_pos (by simp; omega) ?_)))
          · unfold impl_reader__code_2.e1
            simp only [ihas_eq,Option.bind_some]
            exact ev_neg (by simp [hp]) ev_some
          · rw [ez]
            exact hx) r.1.toNat at_ bad o [] h (by simp)
  refine ⟨a,b,l,?_,by omega,g1,g2,g3⟩
  have e0:r.1 - ((r.1.toNat:Nat):Int) = 0:=by omega
  simp only [e0,List.nil_append] at e
  exact e
theorem inum2D_ev {t : ByteArray} {at_ : Int} {bad : Bool} {o : Option (List Int)} (h : Rel t at_ bad o) (ht : t.size ≤ 1000000) :
    ∃ v at2 bad2,Evr (fun k=>impl_reader__number_2.f k 2 ⟨t,at_,bad⟩) (v,at2,bad2) ∧ Rel t at2 bad2 (nxt o num2D) ∧ Got o num2D v ∧ 0 ≤ v ∧ v ≤ 65535:=by
  obtain ⟨v,a,b,e,r,g,q⟩:=inum2_ev h ht
  rw [nxt2 (rel_oct h)] at r
  exact ⟨v,a,b,e,r,got2 (rel_oct h) g,q⟩
theorem icode_rd {t : ByteArray} (ht : t.size ≤ 1000000) {at_ : Int} {bad : Bool} {o : Option (List Int)} (h : Rel t at_ bad o) :
    ∃ at2 bad2 x z,Evr (fun k=>impl_reader__code_2.f k ⟨t,at_,bad⟩) (x,at2,bad2,z) ∧ okC x ∧ Rel t at2 bad2 (nxt o codeD) ∧ Got o codeD x:=by
  obtain ⟨n,at1,bad1,e1,r1,g1,hn⟩:=itext_ev h ht
  obtain ⟨p,at2,bad2,e2,r2,g2,_⟩:=inum1_ev r1 ht
  obtain ⟨c,at3,bad3,e3,r3,g3,_⟩:=inum2D_ev r2 ht
  obtain ⟨r,at4,bad4,e4,r4,g4,_⟩:=inum1_ev r3 ht
  obtain ⟨m,at5,bad5,e5,r5,g5,hm⟩:=inum2D_ev r4 ht
  obtain ⟨at6,bad6,l,e6,hl,ok6,r6,g6⟩:=iins_rd ht ⟨t,at_,bad⟩ rfl (r:=(m,at5,bad5)) hm r5
  refine ⟨at6,bad6,⟨n,p,c,r,l⟩,(n,p,c,r,l),?_,⟨hn,hl,ok6⟩,?_,?_⟩
  · unfold impl_reader__code_2.f impl_reader__code_2.e3
    exact ev_bind _ e1 (ev_bind _ e2 (ev_bind _ e3 (ev_bind _ e4 (ev_bind _ (ev_bind _ e5 e6) ev_some))))
  · unfold codeD
    rw [nxt_bind g1,nxt_bind g2,nxt_bind g3,nxt_bind g4,nxt_bind g5,nxt_bind g6,nxt_pure]
    exact r6
  · exact got_bind g1 (got_bind g2 (got_bind g3 (got_bind g4 (got_bind g5 (got_bind g6 (got_pure _ _))))))
end Go.Proofs.YtoclajfeeebbbadGreatDoor.V
