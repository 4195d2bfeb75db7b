/- The law's own functions that take and give rows within rows: an object made anew, written over; the law itself. -/
import Derived.Test.YtoclajfeeebbbacGreatDoorPFnExactObjectBytes1
import Derived.Test.YtoclajfeeebbbacGreatDoorEng20
import Derived.Test.YtoclajfeeebbbacGreatDoorProg
set_option maxRecDepth 100000
set_option linter.unusedVariables false
set_option linter.unusedSectionVars false
set_option linter.unusedSimpArgs false
namespace Go.Proofs.YtoclajfeeebbbacGreatDoor.E
open Go.RowKit
abbrev VC := Value × SCode
def eCV (p : VC) : List PC := [cS p.2.f0, cI p.2.f1, cI p.2.f2, cI p.2.f3, .sc p.1]
def eCN (p : VC) : List PC := [cS p.2.f0, cI p.2.f1, cI p.2.f2, cI p.2.f3, .nl]
def rCV (p : VC) : Rw := ⟨p.1, 81, List.map eSIns p.2.f4⟩
def z0C : SCode := ⟨(⟨#[]⟩ : ByteArray), (0 : Int), (0 : Int), (0 : Int), ([] : List SIns)⟩
def oRows (uN uG uP : Value) (ns gs : List SNeed) (z : List VC) : List Rw := (z.map rCV ++ [⟨uP, 75, z.map eCV⟩]) ++ [⟨uN, 69, List.map eSNeed ns⟩, ⟨uG, 71, List.map eSNeed gs⟩]
theorem flat_ins (l : List SIns) : flatXs (List.map eSIns l) = true := by simp [flatXs, PC.scalar, cI, cK, cS, eSIns]
theorem flat_needs (l : List SNeed) : flatXs (List.map eSNeed l) = true := by simp [flatXs, PC.scalar, cI, cK, cS, eSNeed]
theorem flat_codes (l : List VC) : flatXs (List.map eCV l) = true := by simp [flatXs, PC.scalar, cI, cK, cS, eCV]
theorem at?_snd {z : List VC} {i : Int} {x : SCode} (h : at? (z.map (·.2)) i = some x) : ∃ v, at? z i = some (v, x) := by
  unfold at? at h ⊢
  split at h
  · rename_i h0
    rw [if_pos h0]
    rw [List.getElem?_map, Option.map_eq_some_iff] at h
    obtain ⟨p, hp, rfl⟩ := h
    exact ⟨p.1, hp⟩
  · cases h
theorem at?_set' {α : Type} {z : List α} {i : Int} {o n : α} (h : at? z i = some o) : at? (z.set (Int.toNat i) n) i = some n := by
  have h0 := at?_0 h
  have h1 := (List.getElem?_eq_some_iff.1 (at?_get h)).1
  unfold at?
  rw [if_pos h0]
  simp [h1]
theorem set_same {α β : Type} {f : α → β} {z : List α} {i : Nat} {a b : α} (h : f a = f b) : (z.set i a).map f = (z.set i b).map f := by rw [List.map_set, List.map_set, h]
theorem laws_toCode.fn2 {k : Nat} {a0 : SCode} {r1 : List SIns} (h2 : laws_toInsS.f k a0.f4 = some r1) : Fn2 Tryz.prog 41 [ag (eSCode a0)] [] (fun res ρ => ∃ v : Value, res = ag (eCV (v, ⟨a0.f0, a0.f1, a0.f2, a0.f3, r1⟩)) ∧ ρ = [rCV (v, ⟨a0.f0, a0.f1, a0.f2, a0.f3, r1⟩)]) := by
  refine Fn2.bodyC 2 75 Tryz.func41 ?_
  refine rn2 [1, 2] 2 [] [] ?_
  refine rn2 [1, 2, 3] 3 [] [] ?_
  refine rn2 [1, 2, 3] 3 [] [] ?_
  refine rn2 [1, 2, 3] 3 [] [] ?_
  refine rn2 [1, 2, 3] 3 [] [] ?_
  refine rn2 [1, 2, 3] 3 [] [] ?_
  refine rx2 [2, 3] 3 [] [hC 2 (laws_toInsS.fn h2) (show (List.all [.own 81 (List.map eSIns r1)] PC.flatB) = true by simp [PC.flatB, PC.scalar, cI, cK, cB, cS, eSIns])] ⟨21, [(2, o1 (.ref 1 0)), (3, o1 (.ref 2 0))], [eSCode a0, [cS (⟨#[]⟩ : ByteArray), cI 0, cI 0, cI 0, .nl], [cS a0.f0, cI a0.f1, cI a0.f2, cI a0.f3, .own 81 (List.map eSIns r1)]], 0, []⟩ ?_
  refine Tri2.adopt (.b 2 4) (e := 81) (flat_ins r1) fun v hv => ?_
  refine rx2 [2] 2 [] [] ⟨21, [(2, o1 (.ref 1 0))], [eSCode a0, [cS a0.f0, cI a0.f1, cI a0.f2, cI a0.f3, .sc v]], 0, []⟩ ?_
  refine Tri2.ret ?_
  exact ⟨_, ⟨.inr rfl, ⟨_, _, rfl⟩, by kernel_rfl, rfl, rfl, rfl⟩, v, rfl, rfl⟩
theorem laws_toCodeS.fn2 {k : Nat} {a0 : List SCode} {r : List SCode} (H : laws_toCodeS.f k a0 = some r) : Fn2 Tryz.prog 20 [o1 (.sl 5 (List.map eSCode a0))] [] (fun res ρ => ∃ (u : Value) (z : List VC), z.map (·.2) = r ∧ res = o1 (.sc u) ∧ ρ = z.map rCV ++ [⟨u, 75, z.map eCV⟩]) := by
  refine Fn2.body 2 Tryz.func20 ?_
  refine rn2 [0] 0 [] [] ?_
  obtain ⟨h1, H⟩ := nd H
  refine rx2 [0, 3] 0 [] [hL 1 eSCode a0, q4 2 (.nz []) (rfl : (a0.length : Int) = (a0.length : Int)) (show (0 : Int) ≤ (a0.length : Int) from Int.natCast_nonneg _) (mkN (b := 64) (by decide) (show (0 : Int) ≤ (a0.length : Int) from Int.natCast_nonneg _) h1) h1, q1 2 (.ov [.own 75 (List.map eCN (List.replicate (Int.toNat (a0.length : Int)) (nilV, z0C)))]) (ovrep (e := 75) (n := Int.toNat (a0.length : Int)) (z := (nilV, z0C)) (f := eCN))]
    ⟨23, [(0, o1 (.sl 5 (List.map eSCode a0))), (3, o1 (.own 75 (List.map eCN (List.replicate (Int.toNat (a0.length : Int)) (nilV, z0C)))))], [], 0, []⟩ ?_
  refine Tri2.old (Turns.weak (p := .t 3 0) (e := 75) (xs := List.map eCN (List.replicate (Int.toNat (a0.length : Int)) (nilV, z0C))) (xs' := List.map eCV (List.replicate (Int.toNat (a0.length : Int)) (nilV, z0C))) rfl (by simp) fun i el el' h h' => ?_) ?_
  · rw [List.map_replicate] at h h'
    rw [(List.mem_replicate.1 (List.mem_of_getElem? h)).2, (List.mem_replicate.1 (List.mem_of_getElem? h')).2]
    refine ⟨rfl, fun j x x' hx hx' w Sh u hu => ?_⟩
    rcases j with _ | _ | _ | _ | _ | j <;> simp only [eCN, eCV, z0C, List.getElem?_cons_zero, List.getElem?_cons_succ, List.getElem?_nil, Option.some.injEq] at hx hx' <;> first | (cases hx; done) | (subst hx hx'; exact hu) | skip
    subst hx hx'
    cases hu with
    | nl => exact .sc rfl
  refine Tri2.turn (Turns2.nils (Int.toNat (a0.length : Int)) 81) ?_
  obtain ⟨v21, h20, H⟩ := bs H
  obtain rfl := si H
  refine Tri2.join (α := List VC) (fun z => v21 = z.map (·.2)) (fun z => ⟨23, [(3, o1 (.own 75 (z.map eCV)))], [], 0, []⟩) (fun z => z.map rCV) (fun z hz => ?_) ?_
  · refine rn2 [2] 0 [] [] ?_
    refine Tri2.adopt (.t 2 0) (e := 75) (flat_codes z) fun u hu => ?_
    refine Tri2.ret ?_
    exact ⟨_, ⟨.inr rfl, rfl, rfl, Nat.le_refl _, rfl, by simp⟩, u, z, hz.symm, rfl, rfl⟩
  refine rx2 [0, 3, 4] 0 [] [] ⟨23, [(0, o1 (.sl 5 (List.map eSCode a0))), (3, o1 (.own 75 (List.map eCV (List.replicate (Int.toNat (a0.length : Int)) (nilV, z0C))))), (4, oI 0)], [], 0, []⟩ ?_
  refine bl2 ?_
  have hρ : List.replicate (Int.toNat (a0.length : Int)) (nilR 81) ++ [] = List.map rCV (List.replicate (Int.toNat (a0.length : Int)) (nilV, z0C)) := by rw [List.append_nil, List.map_replicate]; rfl
  rw [hρ]
  have h20' : laws_toCodeS.l1 k a0 ((List.replicate (Int.toNat (a0.length : Int)) ((nilV, z0C) : VC)).map (·.2)) 0 = some v21 := by rw [List.map_replicate]; exact h20
  refine Tri2.loop k (TriR2.ind (α := List VC × Int) (fun k x => laws_toCodeS.l1 k a0 (x.1.map (·.2)) x.2) (fun x => ⟨23, [(0, o1 (.sl 5 (List.map eSCode a0))), (3, o1 (.own 75 (List.map eCV x.1))), (4, oI x.2)], [], 0, []⟩) (fun x => x.1.map rCV) (fun _ => rfl) (fun k x h20 IH18 => ?_) k (List.replicate (Int.toNat (a0.length : Int)) (nilV, z0C), 0) h20')
  obtain ⟨z, z10⟩ := x
  dsimp only at h20
  rw [laws_toCodeS.l1.eq_2] at h20
  refine Tri2.seq ?_
  refine rn2 [0, 3, 4, 11] 0 [] [hL 2 eSCode a0] ?_
  refine ci2 h20 (fun h11 h20 => ?_) fun h11 h20 => ?_
  · refine Tri2.skip ?_
    refine Tri2.seq ?_
    refine bl2 ?_
    obtain ⟨x12, h13, h20⟩ := bs h20
    obtain ⟨r14, h15, h20⟩ := bs h20
    obtain ⟨x16, h17, h20⟩ := bs h20
    obtain ⟨v16, h17'⟩ := at?_snd h17
    obtain ⟨r1, hr1, h15⟩ := bs h15
    obtain rfl := si h15
    refine Tri2.region ?_
    refine ew 6 [hE 4 eSCode h13] ?_
    refine TriO2.call (d := 20) [] (ρa := []) (ρ0 := z.map rCV) (laws_toCode.fn2 hr1) (fun res ρr ⟨v, e1, _⟩ => by subst e1; rfl) (fun res ρr ⟨v, e1, e2⟩ => ?_)
    subst e1 e2
    refine ew 2 [hE 0 eCV h17', hW 1 (.t 3 0) 75 eCV h17' (v, ⟨x12.f0, x12.f1, x12.f2, x12.f3, r1⟩)] ?_
    refine exx [0, 3, 4] 0 [] ⟨23, [(0, o1 (.sl 5 (List.map eSCode a0))), (3, o1 (.own 75 (List.map eCV (z.set (Int.toNat z10) (v, ⟨x12.f0, x12.f1, x12.f2, x12.f3, r1⟩))))), (4, oI z10)], [], 0, []⟩ ?_
    refine TriO2.sub (σ := [rCV (v16, x16)]) (perm_set (at?_get h17')) ?_
    refine TriO2.nil ?_
    refine rlx2 [0, 3, 4] 0 [] [] ⟨23, [(0, o1 (.sl 5 (List.map eSCode a0))), (3, o1 (.own 75 (List.map eCV (z.set (Int.toNat z10) (v, ⟨x12.f0, x12.f1, x12.f2, x12.f3, r1⟩))))), (4, oI (w64 (z10 + 1)))], [], 0, []⟩ ?_
    refine IH18 k (z.set (Int.toNat z10) (v, ⟨x12.f0, x12.f1, x12.f2, x12.f3, r1⟩), w64 (z10 + 1)) (Nat.le_refl _) ?_
    dsimp only
    rw [List.map_set]
    exact h20
  refine fx2 [3] 0 [] ?_
  refine Tri2.exit ?_
  exact ⟨z, (si h20).symm, rfl, rfl⟩
theorem laws_toObject.fn2 {k : Nat} {a0 : SObj} {r1 r3 : List SNeed} {r5 : List SCode} (h2 : laws_toNeedS.f k a0.f2 = some r1) (h4 : laws_toGlobalS.f k a0.f3 = some r3) (h6 : laws_toCodeS.f k a0.f4 = some r5) : Fn2 Tryz.prog 6 [ag (eSObj a0)] [] (fun res ρ => ∃ (uN uG uP : Value) (z : List VC), z.map (·.2) = r5 ∧ res = ag [cS a0.f0, cI a0.f1, .sc uN, .sc uG, .sc uP] ∧ ρ = oRows uN uG uP r1 r3 z) := by
  refine Fn2.bodyC 2 35 Tryz.func6 ?_
  refine rn2 [1, 2] 2 [] [] ?_
  refine rn2 [1, 2, 3] 3 [] [] ?_
  refine rn2 [1, 2, 3] 3 [] [] ?_
  refine rn2 [1, 2, 3] 3 [] [] ?_
  refine rx2 [1, 2, 3] 3 [] [hC 2 (laws_toNeedS.fn h2) (show (List.all [.own 69 (List.map eSNeed r1)] PC.flatB) = true by simp [PC.flatB, PC.scalar, cI, cK, cB, cS, eSNeed])] ⟨23, [(1, o1 (.ref 0 0)), (2, o1 (.ref 1 0)), (3, o1 (.ref 2 0))], [eSObj a0, [cS (⟨#[]⟩ : ByteArray), cI 0, .nl, .nl, .nl], [cS a0.f0, cI a0.f1, .own 69 (List.map eSNeed r1), .nl, .nl]], 0, []⟩ ?_
  refine Tri2.adopt (.b 2 2) (e := 69) (flat_needs r1) fun uN _ => ?_
  refine rx2 [1, 2, 3] 3 [] [hC 2 (laws_toGlobalS.fn h4) (show (List.all [.own 71 (List.map eSNeed r3)] PC.flatB) = true by simp [PC.flatB, PC.scalar, cI, cK, cB, cS, eSNeed])] ⟨23, [(1, o1 (.ref 0 0)), (2, o1 (.ref 1 0)), (3, o1 (.ref 2 0))], [eSObj a0, [cS (⟨#[]⟩ : ByteArray), cI 0, .nl, .nl, .nl], [cS a0.f0, cI a0.f1, .sc uN, .own 71 (List.map eSNeed r3), .nl]], 0, []⟩ ?_
  refine Tri2.adopt (.b 2 3) (e := 71) (flat_needs r3) fun uG _ => ?_
  refine Tri2.seq (Tri2.region ?_)
  refine ew 2 [] ?_
  refine TriO2.call (d := 20) [] (ρa := []) (ρ0 := [⟨uN, 69, List.map eSNeed r1⟩, ⟨uG, 71, List.map eSNeed r3⟩]) (laws_toCodeS.fn2 h6) (fun res ρr ⟨u, z, _, e1, _⟩ => by subst e1; rfl) (fun res ρr ⟨uP, z, hz, e1, e2⟩ => ?_)
  subst e1 e2
  refine ew 2 [] ?_
  refine ef [2, 3] 3 [] ?_
  refine TriO2.nil ?_
  refine rx2 [2] 2 [] [] ⟨23, [(2, o1 (.ref 1 0))], [eSObj a0, [cS a0.f0, cI a0.f1, .sc uN, .sc uG, .sc uP]], 0, []⟩ ?_
  refine Tri2.ret ?_
  exact ⟨_, ⟨.inr rfl, ⟨_, _, rfl⟩, by kernel_rfl, rfl, rfl, rfl⟩, uN, uG, uP, z, hz, rfl, rfl⟩
/-! Marks. -/
def mkC.l1 : Nat → List SCode → Int → Int → Option (List SCode × Int)
  | 0, _, _, _ => none
  | k + 1, z, n, i => if i < (z.length : Int) then (at? z i).bind fun x => (laws_markText.f k n).bind fun t => (laws_markInsS_1.f k x.f4 (w64 (w64 (w64 (w64 (n + 1) + 1) + 1) + 1))).bind fun r => mkC.l1 k (z.set (Int.toNat i) ⟨t, w64 (n + 1), w64 (w64 (n + 1) + 1), w64 (w64 (w64 (n + 1) + 1) + 1), r.2⟩) r.1 (w64 (i + 1)) else some (z, n)
theorem laws_markCodeS.fn2 {k : Nat} {u : Value} {z0 : List VC} {a1 : Int} {r : List SCode × Int} (H : mkC.l1 k (z0.map (·.2)) a1 0 = some r) : Fn2 Tryz.prog 29 [o1 (.sc u), oI a1] (z0.map rCV ++ [⟨u, 75, z0.map eCV⟩]) (fun res ρ => res = oI r.2 ∧ ∃ z : List VC, z.map (·.2) = r.1 ∧ ρ = z.map rCV ++ [⟨u, 75, z.map eCV⟩]) := by
  refine Fn2.bodyK 4 Tryz.func29 ?_
  refine rx2 [0, 1] 0 [] [] ⟨49, [(0, o1 (.own 75 (z0.map eCV))), (1, oI a1)], [], 0, [0]⟩ ?_
  refine Tri2.join (α := List VC) (fun z => z.map (·.2) = r.1) (fun z => ⟨49, [(0, o1 (.own 75 (z.map eCV))), (1, oI r.2)], [], 0, [0]⟩) (fun z => z.map rCV) (fun z hz => ?_) ?_
  · refine rx2 [0, 4] 0 [] [] ⟨49, [(0, o1 (.own 75 (z.map eCV))), (4, oI r.2)], [], 0, [0]⟩ ?_
    refine Tri2.ret ?_
    exact ⟨oI r.2, z.map eCV, ⟨.inr rfl, rfl, rfl, by decide, flat_codes z⟩, rfl, z, hz, rfl⟩
  refine rx2 [0, 1, 5] 0 [] [] ⟨49, [(0, o1 (.own 75 (z0.map eCV))), (1, oI a1), (5, oI 0)], [], 0, [0]⟩ ?_
  refine bl2 ?_
  refine Tri2.loop k (TriR2.ind (α := List VC × Int × Int) (fun k x => mkC.l1 k (x.1.map (·.2)) x.2.1 x.2.2) (fun x => ⟨49, [(0, o1 (.own 75 (x.1.map eCV))), (1, oI x.2.1), (5, oI x.2.2)], [], 0, [0]⟩) (fun x => x.1.map rCV) (fun _ => rfl) (fun k x h20 IH => ?_) k (z0, a1, 0) H)
  obtain ⟨z, n, i⟩ := x
  dsimp only at h20
  rw [mkC.l1.eq_2, List.length_map] at h20
  refine Tri2.seq ?_
  refine rn2 [0, 1, 5, 9] 0 [] [hL 2 eCV z] ?_
  refine ci2 h20 (fun h11 h20 => ?_) fun h11 h20 => ?_
  · refine Tri2.skip ?_
    refine Tri2.seq ?_
    refine bl2 ?_
    obtain ⟨x, h13, h20⟩ := bs h20
    obtain ⟨v, hz0⟩ := at?_snd h13
    obtain ⟨t, ht, h20⟩ := bs h20
    obtain ⟨r1, hr1, h20⟩ := bs h20
    have hz := at?_get hz0
    have hz1 := at?_set' (n := ((v, (⟨t, x.f1, x.f2, x.f3, x.f4⟩ : SCode)) : VC)) hz0
    have hz2 := at?_set' (n := ((v, (⟨t, w64 (n + 1), x.f2, x.f3, x.f4⟩ : SCode)) : VC)) hz1
    have hz3 := at?_set' (n := ((v, (⟨t, w64 (n + 1), w64 (w64 (n + 1) + 1), x.f3, x.f4⟩ : SCode)) : VC)) hz2
    have hz4 := at?_set' (n := ((v, (⟨t, w64 (n + 1), w64 (w64 (n + 1) + 1), w64 (w64 (w64 (n + 1) + 1) + 1), x.f4⟩ : SCode)) : VC)) hz3
    rw [List.set_set] at hz2
    rw [List.set_set, List.set_set] at hz3
    rw [List.set_set, List.set_set, List.set_set] at hz4
    refine rn2 [0, 1, 5] 0 [] [hC 3 (laws_markText.fn ht), hE 4 eCV hz0, hF 5 eCV hz0, hW 6 (.t 0 0) 75 eCV hz0 (v, (⟨t, x.f1, x.f2, x.f3, x.f4⟩ : SCode))] ?_
    refine rx2 [0, 1, 5] 0 [] [] ⟨49, [(0, o1 (.own 75 ((z.set (Int.toNat i) (v, (⟨t, x.f1, x.f2, x.f3, x.f4⟩ : SCode))).map eCV))), (1, oI (w64 (n + 1))), (5, oI i)], [], 0, [0]⟩ ?_
    refine rn2 [0, 1, 5] 0 [] [hE 3 eCV hz1, hF 4 eCV hz1, hW 5 (.t 0 0) 75 eCV hz1 (v, (⟨t, w64 (n + 1), x.f2, x.f3, x.f4⟩ : SCode))] ?_
    refine rx2 [0, 1, 5] 0 [] [] ⟨49, [(0, o1 (.own 75 (((z.set (Int.toNat i) (v, (⟨t, x.f1, x.f2, x.f3, x.f4⟩ : SCode))).set (Int.toNat i) (v, (⟨t, w64 (n + 1), x.f2, x.f3, x.f4⟩ : SCode))).map eCV))), (1, oI (w64 (w64 (n + 1) + 1))), (5, oI i)], [], 0, [0]⟩ ?_
    rw [List.set_set]
    refine rn2 [0, 1, 5] 0 [] [hE 3 eCV hz2, hF 4 eCV hz2, hW 5 (.t 0 0) 75 eCV hz2 (v, (⟨t, w64 (n + 1), w64 (w64 (n + 1) + 1), x.f3, x.f4⟩ : SCode))] ?_
    refine rx2 [0, 1, 5] 0 [] [] ⟨49, [(0, o1 (.own 75 (((z.set (Int.toNat i) (v, (⟨t, w64 (n + 1), x.f2, x.f3, x.f4⟩ : SCode))).set (Int.toNat i) (v, (⟨t, w64 (n + 1), w64 (w64 (n + 1) + 1), x.f3, x.f4⟩ : SCode))).map eCV))), (1, oI (w64 (w64 (w64 (n + 1) + 1) + 1))), (5, oI i)], [], 0, [0]⟩ ?_
    rw [List.set_set]
    refine rn2 [0, 1, 5] 0 [] [hE 3 eCV hz3, hF 4 eCV hz3, hW 5 (.t 0 0) 75 eCV hz3 (v, (⟨t, w64 (n + 1), w64 (w64 (n + 1) + 1), w64 (w64 (w64 (n + 1) + 1) + 1), x.f4⟩ : SCode))] ?_
    refine rx2 [0, 1, 5] 0 [] [] ⟨49, [(0, o1 (.own 75 (((z.set (Int.toNat i) (v, (⟨t, w64 (n + 1), w64 (w64 (n + 1) + 1), x.f3, x.f4⟩ : SCode))).set (Int.toNat i) (v, (⟨t, w64 (n + 1), w64 (w64 (n + 1) + 1), w64 (w64 (w64 (n + 1) + 1) + 1), x.f4⟩ : SCode))).map eCV))), (1, oI (w64 (w64 (w64 (w64 (n + 1) + 1) + 1) + 1))), (5, oI i)], [], 0, [0]⟩ ?_
    rw [List.set_set]
    refine Tri2.region ?_
    refine ew 6 [hE 2 eCV hz4, hF 3 eCV hz4, hF 4 eCV hz4] ?_
    refine TriO2.perm (perm_at hz) ?_
    refine TriO2.call (d := 47) [] (ρa := [rCV (v, x)]) (ρ0 := (z.eraseIdx (Int.toNat i)).map rCV) (Fn2.ofGK (laws_markInsS_1.fn hr1) rfl (flat_ins _)) (fun res ρr ⟨e1, _⟩ => by subst e1; rfl) (fun res ρr ⟨e1, e2⟩ => ?_)
    subst e1 e2
    refine ew 1 [] ?_
    refine exx [0, 1, 5] 0 [] ⟨49, [(0, o1 (.own 75 ((z.set (Int.toNat i) (v, (⟨t, w64 (n + 1), w64 (w64 (n + 1) + 1), w64 (w64 (w64 (n + 1) + 1) + 1), x.f4⟩ : SCode))).map eCV))), (1, oI r1.1), (5, oI i)], [], 0, [0]⟩ ?_
    rw [set_same (f := eCV) (z := z) (i := Int.toNat i) (show eCV (v, (⟨t, w64 (n + 1), w64 (w64 (n + 1) + 1), w64 (w64 (w64 (n + 1) + 1) + 1), x.f4⟩ : SCode)) = eCV (v, (⟨t, w64 (n + 1), w64 (w64 (n + 1) + 1), w64 (w64 (w64 (n + 1) + 1) + 1), r1.2⟩ : SCode)) from rfl)]
    refine TriO2.perm (ρ' := (z.set (Int.toNat i) (v, (⟨t, w64 (n + 1), w64 (w64 (n + 1) + 1), w64 (w64 (w64 (n + 1) + 1) + 1), r1.2⟩ : SCode))).map rCV) (perm_back (f := rCV) (n := (v, (⟨t, w64 (n + 1), w64 (w64 (n + 1) + 1), w64 (w64 (w64 (n + 1) + 1) + 1), r1.2⟩ : SCode))) (List.getElem?_eq_some_iff.1 hz).1) ?_
    refine TriO2.nil ?_
    refine rlx2 [0, 1, 5] 0 [] [] ⟨49, [(0, o1 (.own 75 ((z.set (Int.toNat i) (v, (⟨t, w64 (n + 1), w64 (w64 (n + 1) + 1), w64 (w64 (w64 (n + 1) + 1) + 1), r1.2⟩ : SCode))).map eCV))), (1, oI r1.1), (5, oI (w64 (i + 1)))], [], 0, [0]⟩ ?_
    refine IH k (z.set (Int.toNat i) (v, (⟨t, w64 (n + 1), w64 (w64 (n + 1) + 1), w64 (w64 (w64 (n + 1) + 1) + 1), r1.2⟩ : SCode)), r1.1, w64 (i + 1)) (Nat.le_refl _) ?_
    dsimp only
    rw [List.map_set]
    exact h20
  refine fx2 [0, 1] 0 [] ?_
  refine Tri2.exit ?_
  obtain rfl := si h20
  exact ⟨z, rfl, rfl, rfl⟩
theorem laws_markObject.fn2 {k : Nat} {uN uG uP : Value} {nm : ByteArray} {pr : Int} {ns gs : List SNeed} {z0 : List VC} {a1 : Int} {r1 r2 : Int × List SNeed} {r : List SCode × Int} (h1 : laws_markNeedS_1.f k ns a1 = some r1) (h2 : laws_markGlobalS_1.f k gs r1.1 = some r2) (H : mkC.l1 k (z0.map (·.2)) r2.1 0 = some r) :
    Fn2 Tryz.prog 10 [ag [cS nm, cI pr, .sc uN, .sc uG, .sc uP], oI a1] (oRows uN uG uP ns gs z0) (fun res ρ => res = oI r.2 ∧ ∃ z : List VC, z.map (·.2) = r.1 ∧ ρ = oRows uN uG uP r1.2 r2.2 z) := by
  refine Fn2.body 4 Tryz.func10 ?_
  refine rn2 [1, 2] 1 [] [] ?_
  refine Tri2.seq (Tri2.region ?_)
  refine ew 3 [] ?_
  refine TriO2.perm (ρ' := [⟨uN, 69, List.map eSNeed ns⟩] ++ ((z0.map rCV ++ [⟨uP, 75, z0.map eCV⟩]) ++ [⟨uG, 71, List.map eSNeed gs⟩])) List.perm_middle ?_
  refine TriO2.call (d := 8) [] (Fn2.ofGK (laws_markNeedS_1.fn h1) rfl (flat_needs _)) (fun res ρr ⟨e1, _⟩ => by subst e1; rfl) (fun res ρr ⟨e1, e2⟩ => ?_)
  subst e1 e2
  refine ew 1 [] ?_
  refine exx [1, 2] 1 [] ⟨18, [(1, oI r1.1), (2, o1 (.ref 0 0))], [[cS nm, cI pr, .sc uN, .sc uG, .sc uP]], 0, []⟩ ?_
  refine TriO2.nil ?_
  refine Tri2.seq (Tri2.region ?_)
  refine ew 3 [] ?_
  refine TriO2.perm (ρ' := [⟨uG, 71, List.map eSNeed gs⟩] ++ (⟨uN, 69, List.map eSNeed r1.2⟩ :: (z0.map rCV ++ [⟨uP, 75, z0.map eCV⟩]))) (List.perm_append_singleton _ (⟨uN, 69, List.map eSNeed r1.2⟩ :: (z0.map rCV ++ [⟨uP, 75, z0.map eCV⟩]))) ?_
  refine TriO2.call (d := 12) [] (Fn2.ofGK (laws_markGlobalS_1.fn h2) rfl (flat_needs _)) (fun res ρr ⟨e1, _⟩ => by subst e1; rfl) (fun res ρr ⟨e1, e2⟩ => ?_)
  subst e1 e2
  refine ew 1 [] ?_
  refine exx [1, 2] 1 [] ⟨18, [(1, oI r2.1), (2, o1 (.ref 0 0))], [[cS nm, cI pr, .sc uN, .sc uG, .sc uP]], 0, []⟩ ?_
  refine TriO2.nil ?_
  refine Tri2.seq (Tri2.region ?_)
  refine ew 3 [] ?_
  refine TriO2.perm (ρ' := (z0.map rCV ++ [⟨uP, 75, z0.map eCV⟩]) ++ [⟨uG, 71, List.map eSNeed r2.2⟩, ⟨uN, 69, List.map eSNeed r1.2⟩]) (List.perm_append_comm (l₁ := ([⟨uG, 71, List.map eSNeed r2.2⟩, ⟨uN, 69, List.map eSNeed r1.2⟩] : List Rw))) ?_
  refine TriO2.call (d := 16) [] (laws_markCodeS.fn2 H) (fun res ρr ⟨e1, _⟩ => by subst e1; rfl) (fun res ρr ⟨e1, z, hz, e2⟩ => ?_)
  subst e1 e2
  refine ew 1 [] ?_
  refine exx [1] 0 [] ⟨18, [(1, oI r.2)], [], 0, []⟩ ?_
  refine TriO2.perm (ρ' := oRows uN uG uP r1.2 r2.2 z) (List.Perm.append_left _ (List.Perm.swap _ _ _)) ?_
  refine TriO2.nil ?_
  refine rx2 [4] 0 [] [] ⟨18, [(4, oI r.2)], [], 0, []⟩ ?_
  refine Tri2.ret ?_
  exact ⟨_, ⟨.inr rfl, rfl, rfl, Nat.le_refl _, rfl, by simp⟩, rfl, z, hz, rfl⟩
def laws_markObject.f (k : Nat) (a0 : SObj) (a1 : Int) : Option Int := (laws_markNeedS_1.f k a0.f2 a1).bind fun r1 => (laws_markGlobalS_1.f k a0.f3 r1.1).bind fun r2 => (mkC.l1 k a0.f4 r2.1 0).bind fun r3 => some r3.2
def laws_FnExactObjectBytes.e1 (k : Nat) (r6 : ((List Int) × Int)) (r10 : ((List Int) × Int)) : Option Bool := (laws_eqByteS.f k r10.1 r6.1).bind fun r12 => if r12 = true then (some (!(decide (r10.2 = r6.2)))) else (some true)
def laws_FnExactObjectBytes.e2 (k : Nat) (r6 : ((List Int) × Int)) (r10 : ((List Int) × Int)) (r24 : Int) : Option Bool := if r24 < 0 then (some true) else ((laws_eqByteS.f k r10.1 r6.1).bind fun r27 => if r27 = true then (some (!(decide (r10.2 = r6.2)))) else (some true))
def laws_FnExactObjectBytes.e3 (k : Nat) (r6 : ((List Int) × Int)) (r42 : ((List Int) × Int)) : Option Bool := (laws_eqByteS.f k r42.1 r6.1).bind fun r44 => if r44 = true then (some (!(decide (r42.2 = r6.2)))) else (some true)
def laws_FnExactObjectBytes.f (k : Nat) (a0 : SObj) : Option Bool := (laws_szObject.f k a0 1048576).bind fun r1 => if r1 < 0 then (some true) else ((laws_toObject.f k a0).bind fun r4 => (spec_ObjectBytes.f k r4.1).bind fun r6 => (laws_toObject.f k a0).bind fun r8 => (impl_ObjectBytes.f k r8.1).bind fun r10 => (laws_FnExactObjectBytes.e1 k r6 r10).bind fun y15 => if y15 = true then (some false) else ((laws_toObject.f k a0).bind fun r19 => (laws_eqObject.f k r8.1 r19.1).bind fun r21 => if r21 = true then ((laws_markObject.f k r8.1 1).bind fun r24 => (laws_FnExactObjectBytes.e2 k r6 r10 r24).bind fun y30 => if y30 = true then (some false) else ((laws_markByteS_1.f k r10.1 1).bind fun r34 => (laws_heldByteS.f k r34.2 1).bind fun r36 => if r36 < 0 then (some false) else (if r36 = r34.1 then ((laws_toObject.f k a0).bind fun r40 => (impl_ObjectBytes.f k r40.1).bind fun r42 => (laws_FnExactObjectBytes.e3 k r6 r42).bind fun y47 => if y47 = true then (some false) else ((laws_heldByteS.f k r34.2 1).bind fun r51 => if r51 < 0 then (some false) else (if r51 = r34.1 then (some true) else (some false)))) else (some false)))) else (some false)))
theorem lent_codes {w : World} {S' : Nat → Prop} {u : Value} {z : List VC} {o : Option Nat} (hu : RepOwn Tryz.prog w (fun _ => False) 75 (z.map eCV) u o) (hg : ∀ k, o = some k → S' k) (hz : ∀ p ∈ z, RepS w S' (.sl 5 (List.map eSIns p.2.f4)) p.1) : RepS w S' (.sl 5 (List.map eSCode (z.map (·.2)))) u := by
  rw [List.map_map]
  refine row_lent (eV := eCV) (by kernel_rfl) hu hg (fun _ _ => rfl) fun p hp j x' hx' => ?_
  rcases j with _ | _ | _ | _ | _ | j <;> simp only [Function.comp, eSCode, List.getElem?_cons_zero, List.getElem?_cons_succ, List.getElem?_nil, Option.some.injEq] at hx' <;> first | (cases hx'; done) | subst hx'
  · exact ⟨_, rfl, fun v h => h.bareS rfl⟩
  · exact ⟨_, rfl, fun v h => h.bareS rfl⟩
  · exact ⟨_, rfl, fun v h => h.bareS rfl⟩
  · exact ⟨_, rfl, fun v h => h.bareS rfl⟩
  · exact ⟨.sc p.1, rfl, fun v h => by rw [h.sc_eq]; exact hz p hp⟩
theorem lent_row {w : World} {S' : Nat → Prop} {v : Value} {e s : Nat} {xs : List (List PC)} {o : Option Nat} (h : RepOwn Tryz.prog w (fun _ => False) e xs v o) (hs : Tryz.prog.cellsOf e = s) (hg : ∀ k, o = some k → S' k) : RepS w S' (.sl s xs) v := by
  have := RepOwn.share (r := ⟨fun _ => False, fun _ => 0, fun _ => none, fun _ => undef⟩) (Sh' := S') h (fun _ h => h.elim) hg
  rwa [hs] at this
theorem obj_lent {uN uG uP : Value} {nm : ByteArray} {pr : Int} {ns gs : List SNeed} {z : List VC} (w : World) (r : Rs) (hh : Held Tryz.prog w r 0 (oRows uN uG uP ns gs z)) (j : Nat) (x' : PC) (hx : (eSObj ⟨nm, pr, ns, gs, z.map (·.2)⟩)[j]? = some x') : ∃ x, [cS nm, cI pr, .sc uN, .sc uG, .sc uP][j]? = some x ∧ ∀ v, RepS w r.Sh x v → RepS w (fun g => r.Sh g ∨ g ∈ bks (oRows uN uG uP ns gs z)) x' v := by
  have hmN : (⟨uN, 69, List.map eSNeed ns⟩ : Rw) ∈ oRows uN uG uP ns gs z := by simp [oRows]
  have hmG : (⟨uG, 71, List.map eSNeed gs⟩ : Rw) ∈ oRows uN uG uP ns gs z := by simp [oRows]
  have hmP : (⟨uP, 75, z.map eCV⟩ : Rw) ∈ oRows uN uG uP ns gs z := by simp [oRows]
  have hmI : ∀ p ∈ z, rCV p ∈ oRows uN uG uP ns gs z := fun p hp => List.mem_append_left _ (List.mem_append_left _ (List.mem_map_of_mem hp))
  rcases j with _ | _ | _ | _ | _ | j <;> simp only [eSObj, List.getElem?_cons_zero, List.getElem?_cons_succ, List.getElem?_nil, Option.some.injEq] at hx <;> first | (cases hx; done) | subst hx
  · exact ⟨_, rfl, fun v h => h.bareS rfl⟩
  · exact ⟨_, rfl, fun v h => h.bareS rfl⟩
  · exact ⟨.sc uN, rfl, fun v h => by rw [h.sc_eq]; exact lent_row (hh.own _ hmN) (by kernel_rfl) fun k hk => .inr (bks_mem.2 ⟨_, hmN, hk⟩)⟩
  · exact ⟨.sc uG, rfl, fun v h => by rw [h.sc_eq]; exact lent_row (hh.own _ hmG) (by kernel_rfl) fun k hk => .inr (bks_mem.2 ⟨_, hmG, hk⟩)⟩
  · refine ⟨.sc uP, rfl, fun v h => ?_⟩
    rw [h.sc_eq]
    exact lent_codes (hh.own _ hmP) (fun k hk => .inr (bks_mem.2 ⟨_, hmP, hk⟩)) fun p hp => lent_row (hh.own _ (hmI p hp)) (by kernel_rfl) fun k hk => .inr (bks_mem.2 ⟨_, hmI p hp, hk⟩)
theorem laws_FnExactObjectBytes.fn {k : Nat} {a0 : SObj} (H : laws_FnExactObjectBytes.f k a0 = some true) : Fn Tryz.prog 3 [ag (eSObj a0)] [] (oB true) [] := by
 refine Fn2.fn ?_
 refine Fn2.body 2 Tryz.func3 ?_
 refine rn2 [1] 1 [] [] ?_
 refine fb2 ⟨96, [(1, o1 (.cel (eSObj a0) 0))], [], 0, []⟩ ?_
 refine rn2 [1, 3] 0 [] [] ?_
 obtain ⟨r1, h2, H⟩ := bs H
 refine rn2 [1, 3] 0 [] [hC 2 (laws_szObject.fn h2)] ?_
 refine Tri2.seq ?_
 refine rn2 [1, 18] 0 [] [] ?_
 refine ci2 H (fun h3 H => ?_) fun h3 H => ?_
 · refine rx2 [2] 0 [] [] ⟨96, [(2, oB true)], [], 0, []⟩ ?_
   refine Tri2.ret ?_
   exact ⟨_, ⟨.inr rfl, rfl, rfl, Nat.le_refl _, rfl, by simp⟩, rfl⟩
 refine Tri2.skip ?_
 obtain ⟨r4, h5, H⟩ := bs H
 obtain ⟨r6, h7, H⟩ := bs H
 refine rx2 [1, 4, 5] 0 [.frz (.t 4 0)] [hG 1 [] [] none (laws_toObject.fn h5), hC 2 (spec_ObjectBytes.fn h7) (show (List.all [.own 5 (List.map (eK .u8) r6.1), cI r6.2] PC.flatB) = true by simp [PC.flatB, PC.scalar, cI, cK, cB, cS, eK])] ⟨96, [(1, o1 (.cel (eSObj a0) 0)), (4, o1 (.sl 1 (List.map (eK .u8) r6.1))), (5, oI r6.2)], [], 0, []⟩ ?_
 obtain ⟨r8, h9, H⟩ := bs H
 obtain ⟨rN, hrN, h9⟩ := bs h9
 obtain ⟨rG, hrG, h9⟩ := bs h9
 obtain ⟨rP, hrP, h9⟩ := bs h9
 obtain rfl := si h9
 refine Tri2.seq (Tri2.region ?_)
 refine ew 1 [] ?_
 refine TriO2.call (d := 26) [] (ρa := []) (ρ0 := []) (laws_toObject.fn2 hrN hrG hrP) (fun res ρr ⟨uN, uG, uP, z, _, e1, _⟩ => by subst e1; rfl) (fun res ρr ⟨uN, uG, uP, z, hz, e1, e2⟩ => ?_)
 subst e1 e2 hz
 refine ew 2 [] ?_
 refine exx [1, 4, 5, 6] 1 [] ⟨96, [(1, o1 (.cel (eSObj a0) 0)), (4, o1 (.sl 1 (List.map (eK .u8) r6.1))), (5, oI r6.2), (6, o1 (.ref 0 0))], [[cS a0.f0, cI a0.f1, .sc uN, .sc uG, .sc uP]], 0, []⟩ ?_
 rw [List.append_nil]
 refine TriO2.nil ?_
 refine fb2 ⟨96, [(1, o1 (.cel (eSObj a0) 0)), (4, o1 (.sl 1 (List.map (eK .u8) r6.1))), (5, oI r6.2), (6, o1 (.cel [cS a0.f0, cI a0.f1, .sc uN, .sc uG, .sc uP] 0))], [], 0, []⟩ ?_
 refine Tri2.lendC 6 [1, 4, 5, 6] (cs := [cS a0.f0, cI a0.f1, .sc uN, .sc uG, .sc uP]) (cs' := eSObj (⟨a0.f0, a0.f1, rN, rG, z.map (·.2)⟩ : SObj)) obj_lent fun a w r hi hh => ?_
 obtain ⟨r10, h11, H⟩ := bs H
 refine rnL [1, 4, 5, 6, 7, 8] 0 [] [hC 1 (impl_ObjectBytes.fn h11) (show (List.all [.own 5 (List.map (eK .u8) r10.1), cI r10.2] PC.flatB) = true by simp [PC.flatB, PC.scalar, cI, cK, cB, cS, eK])] ?_
 refine sqL ?_
 refine jo H (fun y15 => ⟨96, [(1, o1 (.cel (eSObj a0) 0)), (4, o1 (.sl 1 (List.map (eK .u8) r6.1))), (5, oI r6.2), (6, o1 (.cel (eSObj (⟨a0.f0, a0.f1, rN, rG, z.map (·.2)⟩ : SObj)) 0)), (7, o1 (.own 5 (List.map (eK .u8) r10.1))), (8, oI r10.2), (40, oB y15)], [], 0, [1, 4, 5, 6]⟩) (fun y15 H => ?_) fun v17 h16 H => ?_
 · refine cb H (fun h18 H => by cases H) fun h18 H => ?_
   refine sk ?_
   obtain ⟨r19, h20, H⟩ := bs H
   obtain ⟨r21, h22, H⟩ := bs H
   refine sqL ?_
   refine deN hmix [[], [], [1], [0, 1, 2], [0, 1, 2, 3]] [2] [⟨96, [(1, o1 (.cel (eSObj a0) 0)), (4, o1 (.sl 1 (List.map (eK .u8) r6.1))), (5, oI r6.2), (6, o1 (.cel (eSObj (⟨a0.f0, a0.f1, rN, rG, z.map (·.2)⟩ : SObj)) 0)), (7, o1 (.own 5 (List.map (eK .u8) r10.1))), (8, oI r10.2), (40, oB y15)], [[cS r19.2.1, cI r19.2.2.1, .sl 2 (List.map eSNeed r19.2.2.2.1), .sl 2 (List.map eSNeed r19.2.2.2.2.1), .sl 5 (List.map eSCode r19.2.2.2.2.2.1)], [cS r19.2.2.2.2.2.2.1, cI r19.2.2.2.2.2.2.2.1, .sl 2 (List.map eSNeed r19.2.2.2.2.2.2.2.2.1), .sl 2 (List.map eSNeed r19.2.2.2.2.2.2.2.2.2.1), .sl 5 (List.map eSCode r19.2.2.2.2.2.2.2.2.2.2)]], 0, [1, 4, 5, 6]⟩] [(41, ag (eSObj (⟨a0.f0, a0.f1, rN, rG, z.map (·.2)⟩ : SObj))), (42, ag (eSObj a0)), (43, ag (eSObj r19.1))] [1, 4, 5, 6, 7, 8, 45] 0 [] (fun A D B => ([hz B 1, ht D 0, ht D 0, ht D 1, hG 2 [] [] none (laws_toObject.fn h20), hm A D B 0 2 [43, 42, 1, 4, 5, 6, 7, 8, 40]], [hC 3 (laws_eqObject.fn h22)])) ?_
   refine cm H (fun h23 H => ?_) fun h23 H => by cases H
   refine sk ?_
   refine rnL [1, 4, 5, 6, 7, 8, 9] 0 [] [] ?_
   obtain ⟨r24, h25, H⟩ := bs H
   refine TriL.back [1, 4, 5, 6, 7, 8, 9] hi hh ⟨96, [(1, o1 (.cel (eSObj a0) 0)), (4, o1 (.sl 1 (List.map (eK .u8) r6.1))), (5, oI r6.2), (6, o1 (.cel [cS a0.f0, cI a0.f1, .sc uN, .sc uG, .sc uP] 0)), (7, o1 (.own 5 (List.map (eK .u8) r10.1))), (8, oI r10.2), (9, oI 1)], [], 0, []⟩ [List.all [.own 5 (List.map (eK .u8) r10.1)] PC.flatB = true, List.all [cI r10.2] PC.flatB = true, List.all [cI 1] PC.flatB = true] ⟨by simp [PC.flatB, PC.scalar, eK], rfl, rfl, trivial⟩ ?_
   refine Tri2.seq (Tri2.region ?_)
   refine ew 2 [] ?_
   obtain ⟨m1, hm1, h25⟩ := bs h25
   obtain ⟨m2, hm2, h25⟩ := bs h25
   obtain ⟨m3, hm3, h25⟩ := bs h25
   obtain rfl := si h25
   refine TriO2.perm (ρ' := oRows uN uG uP rN rG z ++ []) (by rw [List.append_nil]) ?_
   refine TriO2.call (d := 48) [] (laws_markObject.fn2 (nm := a0.f0) (pr := a0.f1) hm1 hm2 hm3) (fun res ρr ⟨e1, _⟩ => by subst e1; rfl) (fun res ρr ⟨e1, z', hz', e2⟩ => ?_)
   subst e1 e2
   refine ew 1 [] ?_
   refine exx [1, 4, 5, 7, 8, 9] 0 [] ⟨96, [(1, o1 (.cel (eSObj a0) 0)), (4, o1 (.sl 1 (List.map (eK .u8) r6.1))), (5, oI r6.2), (7, o1 (.own 5 (List.map (eK .u8) r10.1))), (8, oI r10.2), (9, oI m3.2)], [], 0, []⟩ ?_
   refine TriO2.sub (ρ' := []) (σ := oRows uN uG uP m1.2 m2.2 z' ++ []) (List.Perm.refl _) ?_
   refine TriO2.nil ?_
   refine Tri2.lift (Tri.mono (fun e st' h => ⟨_, h, rfl⟩) ?_)
   refine sq ?_
   refine jo H (fun y30 => ⟨96, [(1, o1 (.cel (eSObj a0) 0)), (4, o1 (.sl 1 (List.map (eK .u8) r6.1))), (5, oI r6.2), (7, o1 (.own 5 (List.map (eK .u8) r10.1))), (61, oB y30)], [], 0, []⟩) (fun y30 H => ?_) fun v32 h31 H => ?_
   ·refine cb H (fun h33 H => by cases H) fun h33 H => ?_
    refine sk ?_
    refine rn [1, 4, 5, 7, 10] 0 [] [] ?_
    obtain ⟨r34, h35, H⟩ := bs H
    refine rn [1, 4, 5, 7, 10] 0 [] [hG 2 [] [] (some (0, (.t 7 0))) (laws_markByteS_1.fn h35)] ?_
    refine rn [1, 4, 5, 7, 10, 11] 0 [] [] ?_
    obtain ⟨r36, h37, H⟩ := bs H
    refine rn [1, 4, 5, 7, 10, 11] 0 [] [hC 2 (laws_heldByteS.fn h37)] ?_
    refine sq ?_
    refine rn [1, 4, 5, 7, 10, 11, 69] 0 [] [] ?_
    refine ci H (fun h38 H => by cases H) fun h38 H => ?_
    refine sk ?_
    refine sq ?_
    refine rx [1, 4, 5, 7, 10, 72] 0 [] [] ⟨96, [(1, o1 (.cel (eSObj a0) 0)), (4, o1 (.sl 1 (List.map (eK .u8) r6.1))), (5, oI r6.2), (7, o1 (.own 5 (List.map (eK .u8) r34.2))), (10, oI r34.1), (72, oB (!(decide (r36 = r34.1))))], [], 0, []⟩ ?_
    refine cn H (fun h39 H => ?_) fun h39 H => ?_
    ·refine sk ?_
     obtain ⟨r40, h41, H⟩ := bs H
     obtain ⟨r42, h43, H⟩ := bs H
     refine rn [4, 5, 7, 10, 12, 13] 0 [] [hG 1 [] [] none (laws_toObject.fn h41), hC 2 (impl_ObjectBytes.fn h43) (show (List.all [.own 5 (List.map (eK .u8) r42.1), cI r42.2] PC.flatB) = true by simp [PC.flatB, PC.scalar, cI, cK, cB, cS, eK])] ?_
     refine sq ?_
     refine jo H (fun y47 => ⟨96, [(7, o1 (.own 5 (List.map (eK .u8) r34.2))), (10, oI r34.1), (87, oB y47)], [], 0, []⟩) (fun y47 H => ?_) fun v49 h48 H => ?_
     ·refine cb H (fun h50 H => by cases H) fun h50 H => ?_
      refine sk ?_
      refine rn [7, 10, 11] 0 [] [] ?_
      obtain ⟨r51, h52, H⟩ := bs H
      refine rn [10, 11] 0 [] [hC 2 (laws_heldByteS.fn h52)] ?_
      refine sq ?_
      refine rn [10, 11, 92] 0 [] [] ?_
      refine ci H (fun h53 H => by cases H) fun h53 H => ?_
      refine sk ?_
      refine sq ?_
      refine rn [95] 0 [] [] ?_
      refine cn H (fun h54 H => ?_) fun h54 H => ?_
      ·refine sk ?_
       refine rn [2] 0 [] [] ?_
       refine Tri.ret ?_
       first | exact absurd (si H) (by decide) | exact eR
      refine rn [2] 0 [] [] ?_
      refine Tri.ret ?_
      first | exact absurd (si H) (by decide) | exact eR
     obtain ⟨r44, h45, h48⟩ := bs h48
     rcases iteb_some h48 with ⟨h46, h48⟩ | ⟨h46, h48⟩
     ·refine rl [7, 10, 87] 0 [] [hC 2 (laws_eqByteS.fn h45), hB 2 h46] ?_
      exact pf (!(decide (r42.2 = r6.2))) h48
     refine rl [7, 10, 87] 0 [] [hC 2 (laws_eqByteS.fn h45), hB 2 h46] ?_
     exact pf true h48
    refine rn [2] 0 [] [] ?_
    refine Tri.ret ?_
    first | exact absurd (si H) (by decide) | exact eR
   rcases ite_some h31 with ⟨h26, h31⟩ | ⟨h26, h31⟩
   ·refine rl [1, 4, 5, 7, 61] 0 [] [hB 1 (decide_eq_true h26)] ?_
    exact pf true h31
   obtain ⟨r27, h28, h31⟩ := bs h31
   rcases iteb_some h31 with ⟨h29, h31⟩ | ⟨h29, h31⟩
   ·refine rl [1, 4, 5, 7, 61] 0 [] [hB 1 (decide_eq_false h26), hC 5 (laws_eqByteS.fn h28), hB 5 h29] ?_
    exact pf (!(decide (r10.2 = r6.2))) h31
   refine rl [1, 4, 5, 7, 61] 0 [] [hB 1 (decide_eq_false h26), hC 5 (laws_eqByteS.fn h28), hB 5 h29] ?_
   exact pf true h31
 obtain ⟨r12, h13, h16⟩ := bs h16
 rcases iteb_some h16 with ⟨h14, h16⟩ | ⟨h14, h16⟩
 ·refine rl [1, 4, 5, 6, 7, 8, 40] 0 [] [hC 2 (laws_eqByteS.fn h13), hB 2 h14] ?_
  exact pf (!(decide (r10.2 = r6.2))) h16
 refine rl [1, 4, 5, 6, 7, 8, 40] 0 [] [hC 2 (laws_eqByteS.fn h13), hB 2 h14] ?_
 exact pf true h16
end Go.Proofs.YtoclajfeeebbbacGreatDoor.E
