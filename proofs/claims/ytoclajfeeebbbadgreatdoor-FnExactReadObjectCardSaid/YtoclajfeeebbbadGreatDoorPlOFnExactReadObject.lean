/- What an object is that is right: both say alike. -/
import Derived.Test.YtoclajfeeebbbadGreatDoorPlYFnExactReadObject
import Derived.Test.YtoclajfeeebbbadGreatDoorPlDFnExactReadObject
set_option linter.unusedVariables false
set_option linter.unusedSimpArgs false
namespace Go.Proofs.YtoclajfeeebbbadGreatDoor.V
open Go.RowKit Go.Proofs.YtoclajfeeebbbadGreatDoor.E
def needB (x:SNeed):Bool:=modB x.f0 && btw x.f1 0 4294967295
def globB (x:SNeed):Bool:=modB x.f0 && btw x.f1 0 100
def codeB (n i:Nat) (c:SCode):Bool:=decide ((verM c).1 = 0) && (decide (c.f0 = e0) == decide (i + 1 = n))
def headO (o:SObj):Bool:=modB o.f0 && (btw o.f1 0 4294967295 && (decide (o.f2.length ≤ 20) && (decide (o.f3.length ≤ 100) && btw o.f4.length 1 60)))
def nmN (x:SNeed):ByteArray:=x.f0
def nmC (x:SCode):ByteArray:=x.f0
def codesB (o:SObj):Bool:=(o.f4.zipIdx 0).all fun z=>codeB o.f4.length z.2 z.1
def objB (o:SObj):Bool:=headO o && (o.f2.all needB && ((o.f3.all globB && codesB o) && decide (o.f3.map nmN ++ o.f4.map nmC).Nodup))
structure SmallC (a:SCode):Prop where
  len:a.f4.length ≤ 1048576
  name:a.f0.size ≤ 1048576
  ins:∀ x ∈ a.f4,x.f3.size ≤ 1048576 ∧ x.f4.size ≤ 1048576
structure SmallO (o:SObj):Prop where
  name:o.f0.size ≤ 1048576
  needs:o.f2.length ≤ 1048576
  globs:o.f3.length ≤ 1048576
  procs:o.f4.length ≤ 1048576
  need:∀ x ∈ o.f2,x.f0.size ≤ 1048576
  glob:∀ x ∈ o.f3,x.f0.size ≤ 1048576
  proc:∀ a ∈ o.f4,SmallC a
theorem size_lt {n:Nat} (h:n ≤ 1048576):n < 9223372036854775807:=by omega
theorem any_place (l:List ByteArray) (a:ByteArray):decide ((0:Int) ≤ (match firstAt (fun x=>decide (x = a)) l 0 with | some i=>(i:Int) | none=>-1)) = (l.any fun y=>decide (y = a)):=oneOf_eq l a
theorem zip_q {α:Type} (p:α → Bool):∀ (l:List α) (i:Nat),((l.zipIdx i).all fun z=>p z.1) = l.all p
  | [],i=>rfl
  | x :: l,i=>by simp only [List.zipIdx_cons,List.all_cons,zip_q p l (i + 1)]
/-! The reference. -/
theorem shead_ev (o:SObj):Evr (fun k=>spec_ObjectOK.e1 k o) (!headO o):=by
  unfold spec_ObjectOK.e1 headO btw
  refine ev_bind _ (lname_ev _) ?_
  cases modB o.f0
  · exact ev_some
  simp only [if_true,in_eq,Option.bind_some,Bool.true_and]
  cases hb:decide ((0:Int) ≤ o.f1) && decide (o.f1 ≤ 4294967295)
  · exact ev_some
  simp only [if_true,Bool.true_and]
  refine ev_of fun k=>?_
  by_cases h1:o.f2.length ≤ 20
  · by_cases h2:o.f3.length ≤ 100
    · by_cases h3:o.f4.length = 0
      · have a1:¬ (20:Int) < (o.f2.length:Int):=by omega
        have a2:¬ (100:Int) < (o.f3.length:Int):=by omega
        have a3:(o.f4.length:Int) = 0:=by omega
        rw [if_neg a1,if_neg a2,if_pos a3,a3]
        simp
      · have a1:¬ (20:Int) < (o.f2.length:Int):=by omega
        have a2:¬ (100:Int) < (o.f3.length:Int):=by omega
        have a3:¬ (o.f4.length:Int) = 0:=by omega
        have a4:(1:Int) ≤ (o.f4.length:Int):=by omega
        rw [if_neg a1,if_neg a2,if_neg a3]
        simp only [h1,h2,a4,decide_true,Bool.true_and]
        congr 1
        rw [← decide_not,decide_eq_decide]
        omega
    · have a1:¬ (20:Int) < (o.f2.length:Int):=by omega
      have a2:(100:Int) < (o.f3.length:Int):=by omega
      rw [if_neg a1,if_pos a2]
      simp [h2]
  · have a1:(20:Int) < (o.f2.length:Int):=by omega
    rw [if_pos a1]
    simp [h1]
theorem sneed_ev (o:SObj) (i:Nat) (hi:i < o.f2.length):Evr (fun k=>spec_ObjectOK.e2 k o (i:Int)) (!needB o.f2[i]):=by
  unfold spec_ObjectOK.e2 needB btw
  simp only [at?_nat hi,Option.bind_some]
  refine ev_bind _ (lname_ev _) ?_
  cases modB o.f2[i].f0
  · exact ev_some
  simp only [if_true,in_eq,Option.bind_some,Bool.true_and]
  exact ev_some
theorem sneeds_ev (o:SObj) (h:SmallO o):Evr (fun k=>spec_ObjectOK.e4 k o) (if o.f2.all needB then .inr () else .inl false):=by
  unfold spec_ObjectOK.e4
  exact ev_allUnit (L:=fun k i=>spec_ObjectOK.l3 k o i) (g:=fun k i=>spec_ObjectOK.e2 k o (i:Int)) (size_lt h.needs) (fun k=>by simp [spec_ObjectOK.l3]) (sneed_ev o) (fun k i hi=>by
    show spec_ObjectOK.l3 (k + 1) o i = _
    rw [spec_ObjectOK.l3,if_pos (by omega)])
theorem sglob_ev (s:List ByteArray) (x:SNeed) (hs:s.length < 9223372036854775807):Evr (fun k=>spec_ObjectOK.e5 k s x) (!(globB x && !(s.any fun y=>decide (y = nmN x)))):=by
  unfold spec_ObjectOK.e5 globB btw
  refine ev_bind _ (lname_ev _) ?_
  cases modB x.f0
  · exact ev_some
  simp only [if_true,in_eq,Option.bind_some,Bool.true_and]
  cases decide ((0:Int) ≤ x.f1) && decide (x.f1 ≤ 100)
  · exact ev_some
  simp only [if_true,Bool.true_and,Bool.not_not]
  exact ev_bind _ (place_ev _ _ hs) (ev_const (congrArg some (any_place s x.f0)))
theorem sglobs_ev (o:SObj) (hl:o.f3.length ≤ 100):Evr (fun k=>spec_ObjectOK.e7 k o) (match scan (fun s i x=>globB x && !(s.any fun y=>decide (y = nmN x))) nmN o.f3 0 [] with | some s=>.inr s | none=>.inl false):=by
  unfold spec_ObjectOK.e7
  exact ev_scan o.f3 (fun s i x=>globB x && !(s.any fun y=>decide (y = nmN x))) nmN (fun k s i=>spec_ObjectOK.l6 k o s i) (.inl false) .inr 0 (fun s=>ev_neg (by omega) ev_some)
    (fun s i hi hs hp=>ev_pos (by omega) (by
      simp only [at?_nat hi,Option.bind_some]
      exact ev_bind _ (sglob_ev s _ (by omega)) (by rw [hp]; exact ev_some)))
    (fun s i hi hs hp r hr=>ev_pos (by omega) (by
      simp only [at?_nat hi,Option.bind_some]
      refine ev_bind _ (sglob_ev s _ (by omega)) ?_
      rw [hp]
      simp only [Bool.not_true,Bool.false_eq_true,if_false]
      refine ev_pos (by simp; omega) ?_
      rw [w64_next (by omega)]
      exact hr)) _ 0 [] (Nat.zero_add _) rfl
theorem last_iff {n i:Nat} (hi:i < n) (hn:n ≤ 60):((i:Int) = w64 ((n:Int) - 1)) ↔ i + 1 = n:=by
  rw [w64_id (by omega) (by omega)]; omega
theorem sproc_ev (o : SObj) (s : List ByteArray) (i : Nat) (hi : i < o.f4.length) (hl : o.f4.length ≤ 60) (hs : s.length < 9223372036854775807) (c : SCode) :
    Evr (fun k=>spec_ObjectOK.e8 k o s (i:Int) c (verM c)) (!(codeB o.f4.length i c && !(s.any fun y=>decide (y = nmC c)))):=by
  unfold spec_ObjectOK.e8 codeB
  by_cases hv:(verM c).1 = 0
  · refine ev_pos hv ?_
    simp only [hv,decide_true,Bool.true_and]
    by_cases h0:c.f0 = e0
    · refine ev_pos h0 ?_
      by_cases hL:i + 1 = o.f4.length
      · refine ev_pos ((last_iff hi hl).2 hL) (ev_bind _ (place_ev _ _ hs) ?_)
        simp only [h0,hL,decide_true,beq_self_eq_true,Bool.true_and,Bool.not_not,nmC]
        exact ev_const (congrArg some (any_place s e0))
      · refine ev_neg (fun h=>hL ((last_iff hi hl).1 h)) ?_
        simp [h0,hL]
        exact ev_some
    · refine ev_neg h0 ?_
      by_cases hL:i + 1 = o.f4.length
      · refine ev_pos ((last_iff hi hl).2 hL) ?_
        simp [h0,hL]
        exact ev_some
      · refine ev_neg (fun h=>hL ((last_iff hi hl).1 h)) (ev_bind _ (place_ev _ _ hs) ?_)
        simp only [h0,hL,decide_false,beq_self_eq_true,Bool.true_and,Bool.not_not,nmC]
        exact ev_const (congrArg some (any_place s c.f0))
  · refine ev_neg hv ?_
    simp [hv]
    exact ev_some
theorem sprocs_ev (o : SObj) (h : SmallO o) (hl : o.f4.length ≤ 60) (s0 : List ByteArray) (h0 : s0.length ≤ 100) :
    Evr (fun k=>spec_ObjectOK.e10 k o s0) (match scan (fun s i x=>codeB o.f4.length i x && !(s.any fun y=>decide (y = nmC x))) nmC o.f4 0 s0 with | some _=>.inr () | none=>.inl false):=by
  unfold spec_ObjectOK.e10
  exact ev_scan o.f4 (fun s i x=>codeB o.f4.length i x && !(s.any fun y=>decide (y = nmC x))) nmC (fun k s i=>spec_ObjectOK.l9 k o s i) (.inl false) (fun _=>.inr ()) s0.length (fun s=>ev_neg (by omega) ev_some)
    (fun s i hi hs hp=>ev_pos (by omega) (by
      simp only [at?_nat hi,Option.bind_some]
      have hc:=h.proc _ (List.getElem_mem hi)
      exact ev_bind _ (both_evM _ (size_lt hc.name) fun x hx=>⟨size_lt (hc.ins x hx).1,size_lt (hc.ins x hx).2⟩).1 (ev_bind _ (sproc_ev o s i hi hl (by omega) _) (by rw [hp]; exact ev_some))))
    (fun s i hi hs hp r hr=>ev_pos (by omega) (by
      simp only [at?_nat hi,Option.bind_some]
      have hc:=h.proc _ (List.getElem_mem hi)
      refine ev_bind _ (both_evM _ (size_lt hc.name) fun x hx=>⟨size_lt (hc.ins x hx).1,size_lt (hc.ins x hx).2⟩).1 (ev_bind _ (sproc_ev o s i hi hl (by omega) _) ?_)
      rw [hp]
      simp only [Bool.not_true,Bool.false_eq_true,if_false]
      refine ev_pos (by simp; omega) ?_
      rw [w64_next (by omega)]
      exact hr)) _ 0 s0 (Nat.zero_add _) rfl
theorem sobj_ev (o:SObj) (h:SmallO o):Evr (fun k=>spec_ObjectOK.f k o) (objB o):=by
  unfold spec_ObjectOK.f
  refine ev_bind _ (shead_ev o) ?_
  unfold objB
  cases hh:headO o
  · exact ev_some
  simp only [Bool.not_true,Bool.false_eq_true,if_false,Bool.true_and]
  have hh':=hh
  simp only [headO,btw,Bool.and_eq_true,decide_eq_true_eq] at hh'
  obtain ⟨_,_,h2,h3,h4,h5⟩:=hh'
  refine ev_bind _ (sneeds_ev o h) ?_
  cases hn:o.f2.all needB
  · exact ev_some
  simp only [if_true,Bool.true_and]
  refine ev_bind _ (sglobs_ev o h3) ?_
  rw [scan_uniq (fun _ x=>globB x) nmN o.f3 0 [] List.nodup_nil,zip_q]
  by_cases hg:o.f3.all globB = true ∧ ([] ++ o.f3.map nmN).Nodup
  · rw [if_pos hg]
    simp only [List.nil_append] at hg ⊢
    refine ev_bind _ (sprocs_ev o h (by omega) (o.f3.map nmN) (by simpa using h3)) ?_
    rw [scan_uniq (fun i x=>codeB o.f4.length i x) nmC o.f4 0 _ hg.2]
    by_cases hc:(o.f4.zipIdx 0).all (fun z=>codeB o.f4.length z.2 z.1) = true ∧ (o.f3.map nmN ++ o.f4.map nmC).Nodup
    · rw [if_pos hc]
      simp only [hg.1,codesB,hc.1,hc.2,decide_true,Bool.and_self]
      exact ev_some
    · rw [if_neg hc]
      have:(o.f3.all globB && codesB o && decide (o.f3.map nmN ++ o.f4.map nmC).Nodup) = false:=by
        rw [Bool.eq_false_iff]
        intro h1
        simp only [Bool.and_eq_true,decide_eq_true_eq] at h1
        exact hc ⟨h1.1.2,h1.2⟩
      rw [this]
      exact ev_some
  · rw [if_neg hg]
    have:(o.f3.all globB && codesB o && decide (o.f3.map nmN ++ o.f4.map nmC).Nodup) = false:=by
      rw [Bool.eq_false_iff]
      intro h1
      simp only [Bool.and_eq_true,decide_eq_true_eq] at h1
      exact hg ⟨h1.1.1,by simpa using (List.nodup_append.1 h1.2).1⟩
    rw [this]
    exact ev_some
/-! The program. -/
theorem isprint_eq (k:Nat) (n:Int):impl_isPrint.f k n = some (btw n 0 4294967295):=by
  unfold impl_isPrint.f
  rw [within_eq]; rfl
theorem ihead_ev (o:SObj) (h:SmallO o):Evr (fun k=>impl_ObjectOK.e1 k o) (!headO o):=by
  unfold impl_ObjectOK.e1 headO
  refine ev_bind _ (isname_ev _ (size_lt h.name)) ?_
  cases modB o.f0
  · exact ev_some
  simp only [if_true,isprint_eq,Option.bind_some,Bool.true_and]
  cases btw o.f1 0 4294967295
  · exact ev_some
  simp only [if_true,Bool.true_and,within_eq,Option.bind_some]
  refine ev_of fun k=>?_
  by_cases h1:o.f2.length ≤ 20
  · by_cases h2:o.f3.length ≤ 100
    · have a1:¬ (20:Int) < (o.f2.length:Int):=by omega
      have a2:¬ (100:Int) < (o.f3.length:Int):=by omega
      rw [if_neg a1,if_neg a2]
      simp only [h1,h2,decide_true,Bool.true_and]
      rfl
    · have a1:¬ (20:Int) < (o.f2.length:Int):=by omega
      have a2:(100:Int) < (o.f3.length:Int):=by omega
      rw [if_neg a1,if_pos a2]
      simp [h2]
  · have a1:(20:Int) < (o.f2.length:Int):=by omega
    rw [if_pos a1]
    simp [h1]
theorem iglob_ev (x:SNeed) (hx:x.f0.size ≤ 1048576):Evr (fun k=>impl_ObjectOK.e2 k x) (!globB x):=by
  unfold impl_ObjectOK.e2 globB
  refine ev_bind _ (isname_ev _ (size_lt hx)) ?_
  cases modB x.f0
  · exact ev_some
  simp only [if_true,within_eq,Option.bind_some,Bool.true_and]
  exact ev_some
theorem iglobs_ev (o:SObj) (h:SmallO o) (hl:o.f3.length ≤ 100):Evr (fun k=>impl_ObjectOK.e4 k o) (if o.f3.all globB = true then .inr (o.f3.map nmN) else .inl false):=by
  unfold impl_ObjectOK.e4
  have:=ev_scan o.f3 (fun _ _ x=>globB x) nmN (fun k s i=>impl_ObjectOK.l3 k o s i) (.inl false) .inr 0 (fun s=>ev_neg (by omega) ev_some)
    (fun s i hi hs hp=>ev_pos (by omega) (by
      simp only [at?_nat hi,Option.bind_some]
      exact ev_bind _ (iglob_ev _ (h.glob _ (List.getElem_mem hi))) (by rw [hp]; exact ev_some)))
    (fun s i hi hs hp r hr=>ev_pos (by omega) (by
      simp only [at?_nat hi,Option.bind_some]
      refine ev_bind _ (iglob_ev _ (h.glob _ (List.getElem_mem hi))) ?_
      rw [hp]
      simp only [Bool.not_true,Bool.false_eq_true,if_false]
      refine ev_pos (by simp; omega) ?_
      rw [w64_next (by omega)]
      exact hr)) _ 0 [] (Nat.zero_add _) rfl
  rw [List.drop_zero,scan_plain (fun _ x=>globB x),zip_q] at this
  refine ev_eq this ?_
  cases o.f3.all globB <;> rfl
theorem iproc_ev (o:SObj) (i:Nat) (hi:i < o.f4.length) (hl:o.f4.length ≤ 60) (c:SCode) (hc:SmallC c):Evr (fun k=>impl_ObjectOK.e5 k o (i:Int) c) (!codeB o.f4.length i c):=by
  unfold impl_ObjectOK.e5 codeB impl_Code__verifies.f
  refine ev_bind _ (ev_bind _ (both_evM c (size_lt hc.name) fun x hx=>⟨size_lt (hc.ins x hx).1,size_lt (hc.ins x hx).2⟩).2 ev_some) ?_
  cases decide ((verM c).1 = 0)
  · exact ev_some
  simp only [if_true,Bool.true_and]
  refine ev_of fun k=>?_
  have:decide ((i:Int) = w64 ((o.f4.length:Int) - 1)) = decide (i + 1 = o.f4.length):=by rw [decide_eq_decide]; exact last_iff hi hl
  rw [this]
  rfl
theorem iprocs_ev (o:SObj) (h:SmallO o) (hl:o.f4.length ≤ 60) (s0:List ByteArray) (h0:s0.length ≤ 100):Evr (fun k=>impl_ObjectOK.e7 k o s0) (if codesB o = true then .inr (s0 ++ o.f4.map nmC) else .inl false):=by
  unfold impl_ObjectOK.e7
  have:=ev_scan o.f4 (fun _ i x=>codeB o.f4.length i x) nmC (fun k s i=>impl_ObjectOK.l6 k o s i) (.inl false) .inr s0.length (fun s=>ev_neg (by omega) ev_some)
    (fun s i hi hs hp=>ev_pos (by omega) (by
      simp only [at?_nat hi,Option.bind_some]
      exact ev_bind _ (iproc_ev o i hi hl _ (h.proc _ (List.getElem_mem hi))) (by rw [hp]; exact ev_some)))
    (fun s i hi hs hp r hr=>ev_pos (by omega) (by
      simp only [at?_nat hi,Option.bind_some]
      refine ev_bind _ (iproc_ev o i hi hl _ (h.proc _ (List.getElem_mem hi))) ?_
      rw [hp]
      simp only [Bool.not_true,Bool.false_eq_true,if_false]
      refine ev_pos (by simp; omega) ?_
      rw [w64_next (by omega)]
      exact hr)) _ 0 s0 (Nat.zero_add _) rfl
  rw [List.drop_zero,scan_plain (fun i x=>codeB o.f4.length i x)] at this
  refine ev_eq this ?_
  unfold codesB
  cases (o.f4.zipIdx 0).all (fun z=>codeB o.f4.length z.2 z.1) <;> rfl
theorem ineed_ev (x:SNeed) (hx:x.f0.size ≤ 1048576):Evr (fun k=>impl_areAll_impl_Need__1_1.f k x) (!needB x):=by
  unfold impl_areAll_impl_Need__1_1.f impl_ObjectOK_1.f impl_ObjectOK_1.e1 needB
  refine ev_bind _ (ev_bind (modB x.f0 && btw x.f1 0 4294967295) (ev_bind _ (isname_ev _ (size_lt hx)) ?_) ev_some) ev_some
  cases modB x.f0
  · exact ev_some
  simp only [if_true,isprint_eq,Option.bind_some,Bool.true_and]
  exact ev_some
theorem ineeds_ev (o:SObj) (h:SmallO o):Evr (fun k=>impl_areAll_impl_Need_1.f k o.f2) (o.f2.all needB):=by
  unfold impl_areAll_impl_Need_1.f slices_ContainsFunc___impl_Need_impl_Need_1.f slices_IndexFunc___impl_Need_impl_Need_1.f slices_IndexFunc___impl_Need_impl_Need_1.e2
  exact ev_allInt (L:=fun k i=>slices_IndexFunc___impl_Need_impl_Need_1.l1 k o.f2 i) (g:=fun k x=>impl_areAll_impl_Need__1_1.f k x) (size_lt h.needs) (fun k=>by simp [slices_IndexFunc___impl_Need_impl_Need_1.l1]) (fun x hx=>ineed_ev x (h.need x hx)) (fun k i hi=>by
    show slices_IndexFunc___impl_Need_impl_Need_1.l1 (k + 1) o.f2 i = _
    rw [slices_IndexFunc___impl_Need_impl_Need_1.l1,if_pos (by omega)]
    simp only [at?_nat hi,Option.bind_some])
theorem iobj_ev (o:SObj) (h:SmallO o):Evr (fun k=>impl_ObjectOK.f k o) (objB o):=by
  unfold impl_ObjectOK.f
  refine ev_bind _ (ihead_ev o h) ?_
  unfold objB
  cases hh:headO o
  · exact ev_some
  simp only [Bool.not_true,Bool.false_eq_true,if_false,Bool.true_and]
  have hh':=hh
  simp only [headO,btw,Bool.and_eq_true,decide_eq_true_eq] at hh'
  obtain ⟨_,_,h2,h3,h4,h5⟩:=hh'
  refine ev_bind _ (iglobs_ev o h h3) ?_
  cases hg:o.f3.all globB
  · simp only [Bool.false_and,Bool.and_false]
    exact ev_some
  simp only [if_true,Bool.true_and]
  refine ev_bind _ (iprocs_ev o h (by omega) (o.f3.map nmN) (by simpa using h3)) ?_
  cases hc:codesB o
  · simp only [Bool.false_and,Bool.and_false]
    exact ev_some
  simp only [if_true,Bool.true_and]
  unfold impl_ObjectOK.e8
  rw [Bool.and_comm]
  refine ev_bind (decide (o.f3.map nmN ++ o.f4.map nmC).Nodup && o.f2.all needB) ?_ ev_some
  refine ev_bind _ (ev_of fun k=>idiffer_eq k _ (by simp; omega)) ?_
  cases decide (o.f3.map nmN ++ o.f4.map nmC).Nodup
  · exact ev_some
  simp only [if_true,Bool.true_and]
  exact ev_bind _ (ineeds_ev o h) ev_some
/-! The law. -/
end Go.Proofs.YtoclajfeeebbbadGreatDoor.V
