/- Reading bytes one after the other: what the program's reader does, as decoders of lists. -/
import Derived.Test.YtoclajfeeebbbadGreatDoorOpFnExactReadObject
import Derived.Test.YtoclajfeeebbbadGreatDoorPlK
set_option linter.unusedVariables false
set_option linter.unusedSimpArgs false
namespace Go.Proofs.YtoclajfeeebbbadGreatDoor.V
open Go.RowKit Go.Proofs.YtoclajfeeebbbadGreatDoor.E
/-! Decoders. -/
abbrev D (α:Type):=List Int → Option (α × List Int)
def D.bind {α β:Type} (d:D α) (f:α → D β):D β:=fun s=>(d s).bind fun p=>f p.1 p.2
def D.pure {α:Type} (a:α):D α:=fun s=>some (a,s)
def D.many {α:Type} (d:D α):Nat → D (List α)
  | 0=>D.pure []
  | n + 1=>D.bind d fun x=>D.bind (D.many d n) fun l=>D.pure (x :: l)
def takeD (n:Nat):D (List Int):=fun s=>if n ≤ s.length then some (s.take n,s.drop n) else none
def numD (n:Nat):D Int:=D.bind (takeD n) fun l=>D.pure (numV l)
def textD:D ByteArray:=D.bind (numD 1) fun n=>D.bind (takeD n.toNat) fun l=>D.pure (strOfNums l)
def headD (h:List Int):D Unit:=D.bind (takeD h.length) fun l s=>if l = h then some ((),s) else none
/-- A value that was read: the decoder's, where it has one. -/
def Got {α:Type} (o:Option (List Int)) (d:D α) (v:α):Prop:=∀ x s,o.bind d = some (x,s) → v = x
def nxt {α:Type} (o:Option (List Int)) (d:D α):Option (List Int):=(o.bind d).map Prod.snd
theorem nxt_bind {α β:Type} {o:Option (List Int)} {d:D α} {f:α → D β} {v:α} (h:Got o d v):nxt o (D.bind d f) = nxt (nxt o d) (f v):=by
  unfold nxt
  cases o with
  | none=>rfl
  | some s =>
    simp only [Option.bind_some,D.bind]
    cases hd:d s with
    | none=>rfl
    | some p =>
      have:=h p.1 p.2 (by rw [Option.bind_some,hd])
      subst this
      rfl
theorem got_bind {α β:Type} {o:Option (List Int)} {d:D α} {f:α → D β} {v:α} {y:β} (h:Got o d v) (k:Got (nxt o d) (f v) y):Got o (D.bind d f) y:=by
  intro x s hx
  cases o with
  | none=>cases hx
  | some z =>
    simp only [Option.bind_some,D.bind] at hx
    cases hd:d z with
    | none=>rw [hd] at hx; cases hx
    | some p =>
      have:=h p.1 p.2 (by rw [Option.bind_some,hd])
      subst this
      rw [hd] at hx
      refine k x s ?_
      unfold nxt
      rw [Option.bind_some,hd]
      exact hx
theorem got_pure {α:Type} (o:Option (List Int)) (v:α):Got o (D.pure v) v:=by
  intro x s hx
  cases o with
  | none=>cases hx
  | some z=>simp only [Option.bind_some,D.pure,Option.some.injEq,Prod.mk.injEq] at hx; exact hx.1
theorem nxt_pure {α:Type} (o:Option (List Int)) (v:α):nxt o (D.pure v) = o:=by cases o <;> rfl
/-- Where a reader stands: behind what was read, or bad. -/
structure Rel (t:ByteArray) (at_:Int) (bad:Bool) (o:Option (List Int)):Prop where
  at0:0 ≤ at_ ∧ at_ ≤ t.size
  yes:∀ s,o = some s → bad = false ∧ (bytesOf t).drop at_.toNat = s
  no:o = none → bad = true
theorem oct_bytes (a:ByteArray):∀ v ∈ bytesOf a,0 ≤ v ∧ v < 256:=fun v hv=>by
  unfold bytesOf at hv
  obtain ⟨b,_,rfl⟩:=List.mem_map.1 hv
  have:=b.toNat_lt
  omega
theorem bytes_len (a:ByteArray):(bytesOf a).length = a.size:=by simp only [bytesOf,List.length_map,Array.length_toList]; rfl
theorem bytes_cut (t:ByteArray) (a b:Nat):bytesOf (t.extract a b) = ((bytesOf t).drop a).take (b - a):=by
  unfold bytesOf
  rw [ByteArray.data_extract,Array.toList_extract,List.extract_eq_take_drop,List.map_take,List.map_drop]
theorem cut_str (t:ByteArray) (a b:Nat):t.extract a b = strOfNums (((bytesOf t).drop a).take (b - a)):=by
  rw [← bytes_cut]
  unfold strOfNums bytesOf
  rw [List.map_map]
  have:((fun n:Int=>UInt8.ofNat n.toNat) ∘ fun x:UInt8=>(x.toNat:Int)) = id:=by
    funext x
    simp
  rw [this,List.map_id]
theorem rel_len {t:ByteArray} {at_:Int} {bad:Bool} {s:List Int} (h:Rel t at_ bad (some s)):s.length = t.size - at_.toNat:=by
  rw [← (h.yes s rfl).2,List.length_drop,bytes_len]
/-- Some bytes. -/
theorem itake_ev {t : ByteArray} {at_ : Int} {bad : Bool} {o : Option (List Int)} (h : Rel t at_ bad o) (ht : t.size ≤ 1000000) {n : Int} (hn0 : 0 ≤ n) (hn : n ≤ 1000000) (k : Nat) :
    ∃ v at2 bad2,impl_reader__take_2.f k n ⟨t,at_,bad⟩ = some (v,at2,bad2) ∧ Rel t at2 bad2 (nxt o (takeD n.toNat)) ∧ (∀ l s,o.bind (takeD n.toNat) = some (l,s) → v = strOfNums l ∧ bytesOf v = l) ∧ (nxt o (takeD n.toNat) = none → v = ⟨#[]⟩) ∧ (∀ b ∈ bytesOf v,0 ≤ b ∧ b < 256) ∧ v.size ≤ n.toNat:=by
  have hat:=h.at0
  cases o with
  | none =>
    obtain rfl:=h.no rfl
    refine ⟨⟨#[]⟩,at_,true,?_,⟨hat,(fun s hs=>(by cases hs)),fun _=>rfl⟩,(fun l s hl=>(by cases hl)),(fun _=>rfl),(fun b hb=>(by cases hb)),Nat.zero_le _⟩
    simp [impl_reader__take_2.f,impl_reader__take_2.e1]
  | some s =>
    obtain ⟨rfl,hs⟩:=h.yes s rfl
    have hl:=rel_len h
    have e1:w64 ((t.size:Int) - at_) = (t.size:Int) - at_:=w64_id (by omega) (by omega)
    have e2:w64 (at_ + n) = at_ + n:=w64_id (by omega) (by omega)
    have e3:w64 (at_ + n - n) = at_:=by rw [show at_ + n - n = at_ by omega]; exact w64_id (by omega) (by omega)
    have e4:w64 at_ = at_:=w64_id (by omega) (by omega)
    by_cases hc:(t.size:Int) - at_ < n
    · refine ⟨⟨#[]⟩,at_,true,?_,⟨hat,fun z hz=>?_,fun _=>rfl⟩,fun l z hz=>?_,(fun _=>rfl),(fun b hb=>(by cases hb)),Nat.zero_le _⟩
      · simp [impl_reader__take_2.f,impl_reader__take_2.e1,e1,hc]
      · unfold nxt takeD at hz
        rw [Option.bind_some,if_neg (by omega)] at hz
        cases hz
      · unfold takeD at hz
        rw [Option.bind_some,if_neg (by omega)] at hz
        cases hz
    · have hlen:n.toNat ≤ s.length:=by omega
      have ev:t.extract at_.toNat (at_ + n).toNat = strOfNums (s.take n.toNat):=by
        rw [cut_str,hs]
        congr 2
        omega
      have eb:bytesOf (t.extract at_.toNat (at_ + n).toNat) = s.take n.toNat:=by
        rw [bytes_cut,hs]
        congr 1
        omega
      refine ⟨t.extract at_.toNat (at_ + n).toNat,at_ + n,false,?_,⟨by omega,fun z hz=>?_,fun hz=>?_⟩,fun l z hz=>?_,fun hz=>?_,oct_bytes _,?_⟩
      · have c1:(0:Int) ≤ at_:=hat.1
        have c2:at_ ≤ at_ + n:=by omega
        have c3:at_ + n ≤ (t.size:Int):=by omega
        simp [impl_reader__take_2.f,impl_reader__take_2.e1,e1,e2,e3,e4,hc,c1,c2,c3]
      · unfold nxt takeD at hz
        rw [Option.bind_some,if_pos hlen] at hz
        simp only [Option.map_some,Option.some.injEq] at hz
        refine ⟨rfl,?_⟩
        rw [← hz,← hs,List.drop_drop]
        congr 1
        omega
      · unfold nxt takeD at hz
        rw [Option.bind_some,if_pos hlen] at hz
        cases hz
      · unfold takeD at hz
        rw [Option.bind_some,if_pos hlen] at hz
        simp only [Option.some.injEq,Prod.mk.injEq] at hz
        rw [← hz.1]
        exact ⟨ev,eb⟩
      · unfold nxt takeD at hz
        rw [Option.bind_some,if_pos hlen] at hz
        cases hz
      · rw [← bytes_len,eb,List.length_take]
        omega
theorem num_loop (r:ByteArray × Int × Bool) (hn:(bytesOf r.1).length ≤ 1000000):∀ (m i:Nat) (z:Int),i + m = (bytesOf r.1).length → Evr (fun k=>impl_reader__number_2.l1 k r z (i:Int)) (((bytesOf r.1).drop i).foldl (fun z x=>ior .i64 (ishl .i64 z 8) (w64 x)) z,r.2.1,r.2.2)
  | 0,i,z,hm=>by
    rw [List.drop_eq_nil_of_le (by omega)]
    exact ev_step _ (fun k=>rfl) (ev_neg (by omega) ev_some)
  | m + 1,i,z,hm=>by
    have hi:i < (bytesOf r.1).length:=by omega
    refine ev_step _ (fun k=>rfl) (ev_pos (by omega) ?_)
    simp only [at?_nat hi,Option.bind_some]
    rw [w64_next (by omega),List.drop_eq_getElem_cons hi,List.foldl_cons]
    exact num_loop r hn m (i + 1) _ (by omega)
/-- A number of some bytes. -/
theorem inum_ev {t : ByteArray} {at_ : Int} {bad : Bool} {o : Option (List Int)} (h : Rel t at_ bad o) (ht : t.size ≤ 1000000) {n : Int} (hn0 : 0 ≤ n) (hn : n ≤ 1000000) :
    ∃ v at2 bad2,Evr (fun k=>impl_reader__number_2.f k n ⟨t,at_,bad⟩) (v,at2,bad2) ∧ Rel t at2 bad2 (nxt o (numD n.toNat)) ∧ Got o (numD n.toNat) v ∧ (n = 1 → 0 ≤ v ∧ v < 256) ∧ (n = 2 → 0 ≤ v ∧ v ≤ 65535) ∧ -9223372036854775808 ≤ v ∧ v ≤ 9223372036854775807:=by
  obtain ⟨v,at2,bad2,_,hr,hg,hz,ho,hsz⟩:=itake_ev h ht hn0 hn 0
  have htk:∀ k,impl_reader__take_2.f k n ⟨t,at_,bad⟩ = some (v,at2,bad2):=fun k=>by
    obtain ⟨v',at',bad',e,_⟩:=itake_ev h ht hn0 hn k
    have e0:impl_reader__take_2.f k n ⟨t,at_,bad⟩ = impl_reader__take_2.f 0 n ⟨t,at_,bad⟩:=rfl
    rw [e0]
    assumption
  have hlen:(bytesOf v).length ≤ n.toNat:=by rw [bytes_len]; exact hsz
  have hl:=num_loop (v,at2,bad2) (by show (bytesOf v).length ≤ _; omega) _ 0 0 (Nat.zero_add _)
  rw [List.drop_zero] at hl
  have hgl:Got o (takeD n.toNat) (bytesOf v):=fun l s e=>(hg l s e).2
  have hnx:nxt o (numD n.toNat) = nxt o (takeD n.toNat):=by
    unfold numD
    rw [nxt_bind hgl,nxt_pure]
  refine ⟨numV (bytesOf v),at2,bad2,?_,?_,?_,?_,?_,?_⟩
  · unfold impl_reader__number_2.f impl_reader__number_2.e2
    exact ev_bind _ (ev_bind _ (ev_of htk) hl) ev_some
  · rw [hnx]
    exact hr
  · exact got_bind hgl (got_pure _ _)
  · intro e
    subst e
    match hb:bytesOf v,hlen,ho with
    | [],_,_=>exact ⟨Int.le_refl _,by decide⟩
    | [b],_,ho =>
      obtain ⟨h0,h1⟩:=ho b (by simp)
      rw [numV_one h0 h1]
      exact ⟨h0,h1⟩
    | _ :: _ :: _,hlen,_=>simp at hlen
  · intro e
    subst e
    rw [numV_sum ho]
    match hb:bytesOf v,hlen,ho with
    | [],_,_=>exact ⟨by decide,by decide⟩
    | [b],_,ho =>
      obtain ⟨h0,h1⟩:=ho b (by simp)
      unfold sumV
      simp only [List.foldl_cons,List.foldl_nil]
      rw [IntKind.wrap_i64]
      omega
    | [b,c],_,ho =>
      obtain ⟨h0,h1⟩:=ho b (by simp)
      obtain ⟨g0,g1⟩:=ho c (by simp)
      unfold sumV
      simp only [List.foldl_cons,List.foldl_nil]
      rw [IntKind.wrap_i64]
      omega
    | _ :: _ :: _ :: _,hlen,_=>simp at hlen
  · exact numV_range _ ho
theorem inum1_ev {t : ByteArray} {at_ : Int} {bad : Bool} {o : Option (List Int)} (h : Rel t at_ bad o) (ht : t.size ≤ 1000000) :
    ∃ v at2 bad2,Evr (fun k=>impl_reader__number_2.f k 1 ⟨t,at_,bad⟩) (v,at2,bad2) ∧ Rel t at2 bad2 (nxt o (numD 1)) ∧ Got o (numD 1) v ∧ 0 ≤ v ∧ v < 256:=by
  obtain ⟨v,a,b,e,r,g,q,_⟩:=inum_ev h ht (n:=1) (by omega) (by omega)
  exact ⟨v,a,b,e,r,g,q rfl⟩
theorem inum8_ev {t : ByteArray} {at_ : Int} {bad : Bool} {o : Option (List Int)} (h : Rel t at_ bad o) (ht : t.size ≤ 1000000) :
    ∃ v at2 bad2,Evr (fun k=>impl_reader__number_2.f k 8 ⟨t,at_,bad⟩) (v,at2,bad2) ∧ Rel t at2 bad2 (nxt o (numD 8)) ∧ Got o (numD 8) v:=by
  obtain ⟨v,a,b,e,r,g,_⟩:=inum_ev h ht (n:=8) (by omega) (by omega)
  exact ⟨v,a,b,e,r,g⟩
theorem inum2_ev {t : ByteArray} {at_ : Int} {bad : Bool} {o : Option (List Int)} (h : Rel t at_ bad o) (ht : t.size ≤ 1000000) :
    ∃ v at2 bad2,Evr (fun k=>impl_reader__number_2.f k 2 ⟨t,at_,bad⟩) (v,at2,bad2) ∧ Rel t at2 bad2 (nxt o (numD 2)) ∧ Got o (numD 2) v ∧ 0 ≤ v ∧ v ≤ 65535:=by
  obtain ⟨v,a,b,e,r,g,_,q,_⟩:=inum_ev h ht (n:=2) (by omega) (by omega)
  exact ⟨v,a,b,e,r,g,q rfl⟩
/-- A text, its length ahead. -/
theorem itext_ev {t : ByteArray} {at_ : Int} {bad : Bool} {o : Option (List Int)} (h : Rel t at_ bad o) (ht : t.size ≤ 1000000) :
    ∃ v at2 bad2,Evr (fun k=>impl_reader__text_2.f k ⟨t,at_,bad⟩) (v,at2,bad2) ∧ Rel t at2 bad2 (nxt o textD) ∧ Got o textD v ∧ v.size ≤ 255:=by
  obtain ⟨n,at1,bad1,e1,r1,g1,hb⟩:=inum1_ev h ht
  obtain ⟨v,at2,bad2,_,r2,g2,_,_,hsz⟩:=itake_ev r1 ht hb.1 (by omega) 0
  have htk:∀ k,impl_reader__take_2.f k n ⟨t,at1,bad1⟩ = some (v,at2,bad2):=fun k=>by
    have e0:impl_reader__take_2.f k n ⟨t,at1,bad1⟩ = impl_reader__take_2.f 0 n ⟨t,at1,bad1⟩:=rfl
    rw [e0]
    assumption
  have gl:Got (nxt o (numD 1)) (takeD n.toNat) (bytesOf v):=fun l s e=>(g2 l s e).2
  have gv:Got (nxt o (numD 1)) (D.bind (takeD n.toNat) fun l=>D.pure (strOfNums l)) v:=fun x s e=>by
    cases hd:(nxt o (numD 1)).bind (takeD n.toNat) with
    | none =>
      cases ho:nxt o (numD 1) with
      | none=>rw [ho] at e; cases e
      | some z =>
        rw [ho,Option.bind_some] at e hd
        simp only [D.bind,hd] at e
        cases e
    | some p =>
      have:=(g2 p.1 p.2 hd).1
      cases ho:nxt o (numD 1) with
      | none=>rw [ho] at hd; cases hd
      | some z =>
        rw [ho,Option.bind_some] at e hd
        simp only [D.bind,hd,Option.bind_some,D.pure,Option.some.injEq,Prod.mk.injEq] at e
        rw [this]
        exact e.1
  refine ⟨v,at2,bad2,?_,?_,got_bind g1 gv,by omega⟩
  · unfold impl_reader__text_2.f
    exact ev_bind _ e1 (ev_bind _ (ev_of htk) ev_some)
  · unfold textD
    rw [nxt_bind g1,nxt_bind gl,nxt_pure]
    exact r2
theorem irhead_ev {t : ByteArray} {at_ : Int} {bad : Bool} {o : Option (List Int)} (h : Rel t at_ bad o) (ht : t.size ≤ 1000000) (w : ByteArray) (hw : w.size ≤ 100) :
    ∃ at2 bad2,Evr (fun k=>impl_reader__head_2.f k w ⟨t,at_,bad⟩) (at2,bad2) ∧ Rel t at2 bad2 (nxt o (headD (bytesOf w))):=by
  obtain ⟨v,at2,bad2,_,r,g,hz,ho,hsz⟩:=itake_ev h ht (n:=(w.size:Int)) (by omega) (by omega) 0
  have htk:∀ k,impl_reader__take_2.f k (w.size:Int) ⟨t,at_,bad⟩ = some (v,at2,bad2):=fun k=>by
    have e0:impl_reader__take_2.f k (w.size:Int) ⟨t,at_,bad⟩ = impl_reader__take_2.f 0 (w.size:Int) ⟨t,at_,bad⟩:=rfl
    rw [e0]
    assumption
  have hlw:((w.size:Int)).toNat = (bytesOf w).length:=by rw [bytes_len]; omega
  rw [hlw] at r g hz
  have gl:Got o (takeD (bytesOf w).length) (bytesOf v):=fun l s e=>(g l s e).2
  have eqb:∀ {a b:ByteArray},bytesOf a = bytesOf b → a = b:=fun {a b} e=>by
    have ha:=cut_str a 0 a.size
    have hb:=cut_str b 0 b.size
    have sa:a.size = b.size:=by rw [← bytes_len,← bytes_len,e]
    have xa:a.extract 0 a.size = a:=by simp
    have xb:b.extract 0 b.size = b:=by simp
    rw [xa] at ha
    rw [xb] at hb
    rw [ha,hb,e,sa]
  unfold impl_reader__head_2.f
  unfold headD
  rw [nxt_bind gl]
  by_cases hv:v = w
  · refine ⟨at2,bad2,ev_bind _ (ev_of htk) (ev_pos hv ev_some),?_⟩
    have:∀ o':Option (List Int),nxt o' (fun s=>if bytesOf v = bytesOf w then some ((),s) else none) = o':=fun o'=>by
      rw [hv]
      cases o' <;> simp [nxt]
    rw [this]
    exact r
  · refine ⟨at2,true,ev_bind _ (ev_of htk) (ev_neg hv ev_some),⟨r.at0,fun s hs=>?_,fun _=>rfl⟩⟩
    have hne:¬ bytesOf v = bytesOf w:=fun e=>hv (eqb e)
    unfold nxt at hs
    cases ho':(o.bind (takeD (bytesOf w).length)).map Prod.snd with
    | none=>rw [ho'] at hs; cases hs
    | some z=>rw [ho'] at hs; simp [hne] at hs
end Go.Proofs.YtoclajfeeebbbadGreatDoor.V
