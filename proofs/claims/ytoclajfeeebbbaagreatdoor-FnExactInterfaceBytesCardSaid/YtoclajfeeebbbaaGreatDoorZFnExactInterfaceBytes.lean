/- The law's own functions that take and give rows within rows: an interface made anew, written over; the law itself. -/
import Derived.Test.YtoclajfeeebbbaaGreatDoorPFnExactInterfaceBytes0
import Derived.Test.YtoclajfeeebbbaaGreatDoorEngAK
import Derived.Test.YtoclajfeeebbbaaGreatDoorProg
set_option maxRecDepth 100000
set_option linter.unusedVariables false
set_option linter.unusedSectionVars false
set_option linter.unusedSimpArgs false
namespace Go.Proofs.YtoclajfeeebbbaaGreatDoor.E
open Go.RowKit
abbrev VI := Value × SItem
def eIV (p : VI) : List PC := [cI p.2.f0, cI p.2.f1, cI p.2.f2, cI p.2.f3, cS p.2.f4, .sc p.1]
def eIN (p : VI) : List PC := [cI p.2.f0, cI p.2.f1, cI p.2.f2, cI p.2.f3, cS p.2.f4, .nl]
def rIV (p : VI) : Rw := ⟨p.1, 58, List.map eSParam p.2.f5⟩
def z0I : SItem := ⟨(0 : Int), (0 : Int), (0 : Int), (0 : Int), (⟨#[]⟩ : ByteArray), ([] : List SParam)⟩
theorem flat_params (l : List SParam) : flatXs (List.map eSParam l) = true := by simp [flatXs, PC.scalar, cI, cK, cB, eSParam]
theorem flat_items (l : List VI) : flatXs (List.map eIV l) = true := by simp [flatXs, PC.scalar, cI, cK, cS, eIV]
theorem laws_toItem.fn2 {k : Nat} {a0 : SItem} {r1 : List SParam} (h2 : laws_toParamS.f k a0.f5 = some r1) : Fn2 Tryz.prog 28 [ag (eSItem a0)] [] (fun res ρ => ∃ v : Value, res = ag (eIV (v, ⟨a0.f0, a0.f1, a0.f2, a0.f3, a0.f4, r1⟩)) ∧ ρ = [rIV (v, ⟨a0.f0, a0.f1, a0.f2, a0.f3, a0.f4, r1⟩)]) := by
  refine Fn2.bodyC 2 53 Tryz.func28 ?_
  refine rn2 [1, 2] 2 [] [] ?_
  refine rn2 [1, 2, 3] 3 [] [] ?_
  refine rn2 [1, 2, 3] 3 [] [] ?_
  refine rn2 [1, 2, 3] 3 [] [] ?_
  refine rn2 [1, 2, 3] 3 [] [] ?_
  refine rn2 [1, 2, 3] 3 [] [] ?_
  refine rn2 [1, 2, 3] 3 [] [] ?_
  refine rx2 [2, 3] 3 [] [hC 2 (laws_toParamS.fn h2) (show (List.all [.own 58 (List.map eSParam r1)] PC.flatB) = true by simp [PC.flatB, PC.scalar, cI, cK, cB, cS, eSParam])] ⟨24, [(2, o1 (.ref 1 0)), (3, o1 (.ref 2 0))], [eSItem a0, [cI 0, cI 0, cI 0, cI 0, cS (⟨#[]⟩ : ByteArray), .nl], [cI a0.f0, cI a0.f1, cI a0.f2, cI a0.f3, cS a0.f4, .own 58 (List.map eSParam r1)]], 0, []⟩ ?_
  refine Tri2.adopt (.b 2 5) (e := 58) (flat_params r1) fun v hv => ?_
  refine rx2 [2] 2 [] [] ⟨24, [(2, o1 (.ref 1 0))], [eSItem a0, [cI a0.f0, cI a0.f1, cI a0.f2, cI a0.f3, cS a0.f4, .sc v]], 0, []⟩ ?_
  refine Tri2.ret ?_
  exact ⟨_, ⟨.inr rfl, ⟨_, _, rfl⟩, by kernel_rfl, rfl, rfl, rfl⟩, v, rfl, rfl⟩
theorem at?_snd {z : List VI} {i : Int} {x : SItem} (h : at? (z.map (·.2)) i = some x) : ∃ v, at? z i = some (v, x) := by
  unfold at? at h ⊢
  split at h
  · rename_i h0
    rw [if_pos h0]
    rw [List.getElem?_map, Option.map_eq_some_iff] at h
    obtain ⟨p, hp, rfl⟩ := h
    exact ⟨p.1, hp⟩
  · cases h
theorem laws_toItemS.fn2 {k : Nat} {a0 : List SItem} {r : List SItem} (H : laws_toItemS.f k a0 = some r) : Fn2 Tryz.prog 16 [o1 (.sl 6 (List.map eSItem a0))] [] (fun res ρ => ∃ (u : Value) (z : List VI), z.map (·.2) = r ∧ res = o1 (.sc u) ∧ ρ = z.map rIV ++ [⟨u, 53, z.map eIV⟩]) := by
  refine Fn2.body 2 Tryz.func16 ?_
  refine rn2 [0] 0 [] [] ?_
  obtain ⟨h1, H⟩ := nd H
  refine rx2 [0, 3] 0 [] [hL 1 eSItem a0, q4 2 (.nz []) (rfl : (a0.length : Int) = (a0.length : Int)) (show (0 : Int) ≤ (a0.length : Int) from Int.natCast_nonneg _) (mkN (b := 72) (by decide) (show (0 : Int) ≤ (a0.length : Int) from Int.natCast_nonneg _) h1) h1, q1 2 (.ov [.own 53 (List.map eIN (List.replicate (Int.toNat (a0.length : Int)) (nilV, z0I)))]) (ovrep (e := 53) (n := Int.toNat (a0.length : Int)) (z := (nilV, z0I)) (f := eIN))]
    ⟨23, [(0, o1 (.sl 6 (List.map eSItem a0))), (3, o1 (.own 53 (List.map eIN (List.replicate (Int.toNat (a0.length : Int)) (nilV, z0I)))))], [], 0, []⟩ ?_
  refine Tri2.old (Turns.weak (p := .t 3 0) (e := 53) (xs := List.map eIN (List.replicate (Int.toNat (a0.length : Int)) (nilV, z0I))) (xs' := List.map eIV (List.replicate (Int.toNat (a0.length : Int)) (nilV, z0I))) rfl (by simp) fun i el el' h h' => ?_) ?_
  · rw [List.map_replicate] at h h'
    rw [(List.mem_replicate.1 (List.mem_of_getElem? h)).2, (List.mem_replicate.1 (List.mem_of_getElem? h')).2]
    refine ⟨rfl, fun j x x' hx hx' w Sh u hu => ?_⟩
    rcases j with _ | _ | _ | _ | _ | _ | j <;> simp only [eIN, eIV, z0I, List.getElem?_cons_zero, List.getElem?_cons_succ, List.getElem?_nil, Option.some.injEq] at hx hx' <;> first | (cases hx; done) | (subst hx hx'; exact hu) | skip
    subst hx hx'
    cases hu with
    | nl => exact .sc rfl
  refine Tri2.turn (Turns2.nils (Int.toNat (a0.length : Int)) 58) ?_
  obtain ⟨v21, h20, H⟩ := bs H
  obtain rfl := si H
  refine Tri2.join (α := List VI) (fun z => v21 = z.map (·.2)) (fun z => ⟨23, [(3, o1 (.own 53 (z.map eIV)))], [], 0, []⟩) (fun z => z.map rIV) (fun z hz => ?_) ?_
  · refine rn2 [2] 0 [] [] ?_
    refine Tri2.adopt (.t 2 0) (e := 53) (flat_items z) fun u hu => ?_
    refine Tri2.ret ?_
    exact ⟨_, ⟨.inr rfl, rfl, rfl, Nat.le_refl _, rfl, by simp⟩, u, z, hz.symm, rfl, rfl⟩
  refine rx2 [0, 3, 4] 0 [] [] ⟨23, [(0, o1 (.sl 6 (List.map eSItem a0))), (3, o1 (.own 53 (List.map eIV (List.replicate (Int.toNat (a0.length : Int)) (nilV, z0I))))), (4, oI 0)], [], 0, []⟩ ?_
  refine bl2 ?_
  have hρ : List.replicate (Int.toNat (a0.length : Int)) (nilR 58) ++ [] = List.map rIV (List.replicate (Int.toNat (a0.length : Int)) (nilV, z0I)) := by rw [List.append_nil, List.map_replicate]; rfl
  rw [hρ]
  have h20' : laws_toItemS.l1 k a0 ((List.replicate (Int.toNat (a0.length : Int)) ((nilV, z0I) : VI)).map (·.2)) 0 = some v21 := by rw [List.map_replicate]; exact h20
  refine Tri2.loop k (TriR2.ind (α := List VI × Int) (fun k x => laws_toItemS.l1 k a0 (x.1.map (·.2)) x.2) (fun x => ⟨23, [(0, o1 (.sl 6 (List.map eSItem a0))), (3, o1 (.own 53 (List.map eIV x.1))), (4, oI x.2)], [], 0, []⟩) (fun x => x.1.map rIV) (fun _ => rfl) (fun k x h20 IH18 => ?_) k (List.replicate (Int.toNat (a0.length : Int)) (nilV, z0I), 0) h20')
  obtain ⟨z, z10⟩ := x
  dsimp only at h20
  rw [laws_toItemS.l1.eq_2] at h20
  refine Tri2.seq ?_
  refine rn2 [0, 3, 4, 11] 0 [] [hL 2 eSItem a0] ?_
  refine ci2 h20 (fun h11 h20 => ?_) fun h11 h20 => ?_
  · refine Tri2.skip ?_
    refine Tri2.seq ?_
    refine bl2 ?_
    obtain ⟨x12, h13, h20⟩ := bs h20
    obtain ⟨r14, h15, h20⟩ := bs h20
    obtain ⟨x16, h17, h20⟩ := bs h20
    obtain ⟨v16, h17'⟩ := at?_snd h17
    obtain ⟨r1, hr1, h15⟩ := bs h15
    obtain rfl := si h15
    refine Tri2.region ?_
    refine ew 6 [hE 4 eSItem h13] ?_
    refine TriO2.call (d := 20) [] (ρa := []) (ρ0 := z.map rIV) (laws_toItem.fn2 hr1) (fun res ρr ⟨v, e1, _⟩ => by subst e1; rfl) (fun res ρr ⟨v, e1, e2⟩ => ?_)
    subst e1 e2
    refine ew 2 [hE 0 eIV h17', hW 1 (.t 3 0) 53 eIV h17' (v, ⟨x12.f0, x12.f1, x12.f2, x12.f3, x12.f4, r1⟩)] ?_
    refine exx [0, 3, 4] 0 [] ⟨23, [(0, o1 (.sl 6 (List.map eSItem a0))), (3, o1 (.own 53 (List.map eIV (z.set (Int.toNat z10) (v, ⟨x12.f0, x12.f1, x12.f2, x12.f3, x12.f4, r1⟩))))), (4, oI z10)], [], 0, []⟩ ?_
    refine TriO2.sub (σ := [rIV (v16, x16)]) (perm_set (at?_get h17')) ?_
    refine TriO2.nil ?_
    refine rlx2 [0, 3, 4] 0 [] [] ⟨23, [(0, o1 (.sl 6 (List.map eSItem a0))), (3, o1 (.own 53 (List.map eIV (z.set (Int.toNat z10) (v, ⟨x12.f0, x12.f1, x12.f2, x12.f3, x12.f4, r1⟩))))), (4, oI (w64 (z10 + 1)))], [], 0, []⟩ ?_
    refine IH18 k (z.set (Int.toNat z10) (v, ⟨x12.f0, x12.f1, x12.f2, x12.f3, x12.f4, r1⟩), w64 (z10 + 1)) (Nat.le_refl _) ?_
    dsimp only
    rw [List.map_set]
    exact h20
  refine fx2 [3] 0 [] ?_
  refine Tri2.exit ?_
  exact ⟨z, (si h20).symm, rfl, rfl⟩
theorem laws_toInterface.fn2 {k : Nat} {a0 : SFace} {r1 : List SItem} (h2 : laws_toItemS.f k a0.f1 = some r1) : Fn2 Tryz.prog 6 [ag (eSFace a0)] [] (fun res ρ => ∃ (u : Value) (z : List VI), z.map (·.2) = r1 ∧ res = ag [cS a0.f0, .sc u] ∧ ρ = z.map rIV ++ [⟨u, 53, z.map eIV⟩]) := by
  refine Fn2.bodyC 2 31 Tryz.func6 ?_
  refine rn2 [1, 2] 2 [] [] ?_
  refine rn2 [1, 2, 3] 3 [] [] ?_
  refine rn2 [1, 2, 3] 3 [] [] ?_
  refine Tri2.seq (Tri2.region ?_)
  refine ew 2 [] ?_
  refine TriO2.call (d := 9) [] (ρa := []) (ρ0 := []) (laws_toItemS.fn2 h2) (fun res ρr ⟨u, z, _, e1, _⟩ => by subst e1; rfl) (fun res ρr ⟨u, z, hz, e1, e2⟩ => ?_)
  subst e1 e2
  refine ew 2 [] ?_
  refine ef [2, 3] 3 [] ?_
  refine TriO2.nil ?_
  refine rx2 [2] 2 [] [] ⟨12, [(2, o1 (.ref 1 0))], [eSFace a0, [cS a0.f0, .sc u]], 0, []⟩ ?_
  refine Tri2.ret ?_
  exact ⟨_, ⟨.inr rfl, ⟨_, _, rfl⟩, by kernel_rfl, rfl, rfl, rfl⟩, u, z, hz, rfl, List.append_nil _⟩
theorem at?_set' {α : Type} {z : List α} {i : Int} {o n : α} (h : at? z i = some o) : at? (z.set (Int.toNat i) n) i = some n := by
  have h0 := at?_0 h
  have h1 := (List.getElem?_eq_some_iff.1 (at?_get h)).1
  unfold at?
  rw [if_pos h0]
  simp [h1]
/-- What marking leaves of the count; the parameters' rows are told ahead. -/
def mkI.l1 : Nat → List (List SParam) → Int → Int → Option Int
  | 0, _, _, _ => none
  | k + 1, ps, n, i => if i < (ps.length : Int) then ((at? ps i).bind fun p => (laws_markText.f k (w64 (w64 (w64 (w64 (n + 1) + 1) + 1) + 1))).bind fun t => (laws_markParamS_1.f k p (w64 (w64 (w64 (w64 (w64 (n + 1) + 1) + 1) + 1) + 1))).bind fun r => if w64 (i + 1) = i + 1 then mkI.l1 k ps r.1 (w64 (i + 1)) else none) else some n
theorem laws_markItemS.fn2 {k : Nat} {u : Value} {z0 : List VI} {a1 r : Int} (H : mkI.l1 k (z0.map (·.2.f5)) a1 0 = some r) : Fn2 Tryz.prog 20 [o1 (.sc u), oI a1] (z0.map rIV ++ [⟨u, 53, z0.map eIV⟩]) (fun res ρ => res = oI r ∧ ρ = []) := by
  refine Fn2.body 4 Tryz.func20 ?_
  refine Tri2.perm (List.perm_append_singleton _ _) ?_
  refine Tri2.focus (ρ1 := []) (x := ⟨u, 53, z0.map eIV⟩) 0 0 ?_
  refine rx2 [0, 1] 0 [] [] ⟨56, [(0, o1 (.own 53 (z0.map eIV))), (1, oI a1)], [], 0, []⟩ ?_
  refine Tri2.join (α := Unit) (fun _ => True) (fun _ => ⟨56, [(1, oI r)], [], 0, []⟩) (fun _ => []) (fun _ _ => ?_) ?_
  · refine rx2 [4] 0 [] [] ⟨56, [(4, oI r)], [], 0, []⟩ ?_
    refine Tri2.ret ?_
    exact ⟨_, ⟨.inr rfl, rfl, rfl, Nat.le_refl _, rfl, by simp⟩, rfl, rfl⟩
  refine rx2 [0, 1, 5] 0 [] [] ⟨56, [(0, o1 (.own 53 (z0.map eIV))), (1, oI a1), (5, oI 0)], [], 0, []⟩ ?_
  refine bl2 ?_
  refine Tri2.loop k (TriR2.ind (α := List VI × Int × Int) (fun k x => mkI.l1 k (x.1.map (·.2.f5)) x.2.1 x.2.2) (fun x => ⟨56, [(0, o1 (.own 53 (x.1.map eIV))), (1, oI x.2.1), (5, oI x.2.2)], [], 0, []⟩) (fun x => (x.1.drop (Int.toNat x.2.2)).map rIV) (fun _ => rfl) (fun k x h20 IH => ?_) k (z0, a1, 0) H)
  obtain ⟨z, n, i⟩ := x
  dsimp only at h20
  rw [mkI.l1.eq_2, List.length_map] at h20
  refine Tri2.seq ?_
  refine rn2 [0, 1, 5, 9] 0 [] [hL 2 eIV z] ?_
  refine ci2 h20 (fun h11 h20 => ?_) fun h11 h20 => ?_
  · refine Tri2.skip ?_
    refine Tri2.seq ?_
    refine bl2 ?_
    obtain ⟨p, h13, h20⟩ := bs h20
    have h0 := at?_0 h13
    have h14 := at?_get h13
    rw [List.getElem?_map, Option.map_eq_some_iff] at h14
    obtain ⟨⟨v, x⟩, hz, rfl⟩ := h14
    obtain ⟨t, ht, h20⟩ := bs h20
    obtain ⟨r1, hr1, h20⟩ := bs h20
    obtain ⟨hw, h20⟩ := nd h20
    have hz0 : at? z i = some (v, x) := by unfold at?; rw [if_pos h0]; exact hz
    have hz1 := at?_set' (n := ((v, ⟨n, x.f1, x.f2, x.f3, x.f4, x.f5⟩) : VI)) hz0
    have hz2 := at?_set' (n := ((v, ⟨n, w64 (n + 1), x.f2, x.f3, x.f4, x.f5⟩) : VI)) hz1
    have hz3 := at?_set' (n := ((v, ⟨n, w64 (n + 1), w64 (w64 (n + 1) + 1), x.f3, x.f4, x.f5⟩) : VI)) hz2
    have hz4 := at?_set' (n := ((v, ⟨n, w64 (n + 1), w64 (w64 (n + 1) + 1), w64 (w64 (w64 (n + 1) + 1) + 1), x.f4, x.f5⟩) : VI)) hz3
    have hz5 := at?_set' (n := ((v, ⟨n, w64 (n + 1), w64 (w64 (n + 1) + 1), w64 (w64 (w64 (n + 1) + 1) + 1), t, x.f5⟩) : VI)) hz4
    rw [List.set_set] at hz2
    rw [List.set_set, List.set_set] at hz3
    rw [List.set_set, List.set_set, List.set_set] at hz4
    rw [List.set_set, List.set_set, List.set_set, List.set_set] at hz5
    refine rn2 [0, 1, 5] 0 [] [hE 3 eIV hz0, hF 4 eIV hz0, hW 5 (.t 0 0) 53 eIV hz0 (v, (⟨n, x.f1, x.f2, x.f3, x.f4, x.f5⟩ : SItem))] ?_
    refine rx2 [0, 1, 5] 0 [] [] ⟨56, [(0, o1 (.own 53 ((z.set (Int.toNat i) (v, (⟨n, x.f1, x.f2, x.f3, x.f4, x.f5⟩ : SItem))).map eIV))), (1, oI (w64 (n + 1))), (5, oI i)], [], 0, []⟩ ?_
    refine rn2 [0, 1, 5] 0 [] [hE 3 eIV hz1, hF 4 eIV hz1, hW 5 (.t 0 0) 53 eIV hz1 (v, (⟨n, w64 (n + 1), x.f2, x.f3, x.f4, x.f5⟩ : SItem))] ?_
    refine rx2 [0, 1, 5] 0 [] [] ⟨56, [(0, o1 (.own 53 (((z.set (Int.toNat i) (v, (⟨n, x.f1, x.f2, x.f3, x.f4, x.f5⟩ : SItem))).set (Int.toNat i) (v, (⟨n, w64 (n + 1), x.f2, x.f3, x.f4, x.f5⟩ : SItem))).map eIV))), (1, oI (w64 (w64 (n + 1) + 1))), (5, oI i)], [], 0, []⟩ ?_
    rw [List.set_set]
    refine rn2 [0, 1, 5] 0 [] [hE 3 eIV hz2, hF 4 eIV hz2, hW 5 (.t 0 0) 53 eIV hz2 (v, (⟨n, w64 (n + 1), w64 (w64 (n + 1) + 1), x.f3, x.f4, x.f5⟩ : SItem))] ?_
    refine rx2 [0, 1, 5] 0 [] [] ⟨56, [(0, o1 (.own 53 (((z.set (Int.toNat i) (v, (⟨n, w64 (n + 1), x.f2, x.f3, x.f4, x.f5⟩ : SItem))).set (Int.toNat i) (v, (⟨n, w64 (n + 1), w64 (w64 (n + 1) + 1), x.f3, x.f4, x.f5⟩ : SItem))).map eIV))), (1, oI (w64 (w64 (w64 (n + 1) + 1) + 1))), (5, oI i)], [], 0, []⟩ ?_
    rw [List.set_set]
    refine rn2 [0, 1, 5] 0 [] [hE 3 eIV hz3, hF 4 eIV hz3, hW 5 (.t 0 0) 53 eIV hz3 (v, (⟨n, w64 (n + 1), w64 (w64 (n + 1) + 1), w64 (w64 (w64 (n + 1) + 1) + 1), x.f4, x.f5⟩ : SItem))] ?_
    refine rx2 [0, 1, 5] 0 [] [] ⟨56, [(0, o1 (.own 53 (((z.set (Int.toNat i) (v, (⟨n, w64 (n + 1), w64 (w64 (n + 1) + 1), x.f3, x.f4, x.f5⟩ : SItem))).set (Int.toNat i) (v, (⟨n, w64 (n + 1), w64 (w64 (n + 1) + 1), w64 (w64 (w64 (n + 1) + 1) + 1), x.f4, x.f5⟩ : SItem))).map eIV))), (1, oI (w64 (w64 (w64 (w64 (n + 1) + 1) + 1) + 1))), (5, oI i)], [], 0, []⟩ ?_
    rw [List.set_set]
    refine rn2 [0, 1, 5] 0 [] [hC 3 (laws_markText.fn ht), hE 4 eIV hz4, hF 5 eIV hz4, hW 6 (.t 0 0) 53 eIV hz4 (v, (⟨n, w64 (n + 1), w64 (w64 (n + 1) + 1), w64 (w64 (w64 (n + 1) + 1) + 1), t, x.f5⟩ : SItem))] ?_
    refine rx2 [0, 1, 5] 0 [] [] ⟨56, [(0, o1 (.own 53 (((z.set (Int.toNat i) (v, (⟨n, w64 (n + 1), w64 (w64 (n + 1) + 1), w64 (w64 (w64 (n + 1) + 1) + 1), x.f4, x.f5⟩ : SItem))).set (Int.toNat i) (v, (⟨n, w64 (n + 1), w64 (w64 (n + 1) + 1), w64 (w64 (w64 (n + 1) + 1) + 1), t, x.f5⟩ : SItem))).map eIV))), (1, oI (w64 (w64 (w64 (w64 (w64 (n + 1) + 1) + 1) + 1) + 1))), (5, oI i)], [], 0, []⟩ ?_
    rw [List.set_set]
    have hd : z.drop (Int.toNat i) = (v, x) :: z.drop (Int.toNat i + 1) := by rw [List.drop_eq_getElem_cons (List.getElem?_eq_some_iff.1 hz).1, (List.getElem?_eq_some_iff.1 hz).2]
    rw [hd]
    refine Tri2.region ?_
    refine ew 6 [hE 2 eIV hz5, hF 3 eIV hz5, hF 4 eIV hz5] ?_
    refine TriO2.call (d := 54) [] (ρa := [rIV (v, x)]) (ρ0 := (z.drop (Int.toNat i + 1)).map rIV) (Fn2.ofG (laws_markParamS_1.fn hr1) rfl) (fun res ρr ⟨e1, _⟩ => by subst e1; rfl) (fun res ρr ⟨e1, e2⟩ => ?_)
    subst e1 e2
    refine ew 1 [] ?_
    refine exx [0, 1, 5] 0 [] ⟨56, [(0, o1 (.own 53 ((z.set (Int.toNat i) (v, (⟨n, w64 (n + 1), w64 (w64 (n + 1) + 1), w64 (w64 (w64 (n + 1) + 1) + 1), t, x.f5⟩ : SItem))).map eIV))), (1, oI (r1.1)), (5, oI i)], [], 0, []⟩ ?_
    refine TriO2.nil ?_
    refine rlx2 [0, 1, 5] 0 [] [] ⟨56, [(0, o1 (.own 53 ((z.set (Int.toNat i) (v, (⟨n, w64 (n + 1), w64 (w64 (n + 1) + 1), w64 (w64 (w64 (n + 1) + 1) + 1), t, x.f5⟩ : SItem))).map eIV))), (1, oI (r1.1)), (5, oI (w64 (i + 1)))], [], 0, []⟩ ?_
    have hn : (i + 1).toNat = Int.toNat i + 1 := by omega
    have hq := IH k (z.set (Int.toNat i) (v, (⟨n, w64 (n + 1), w64 (w64 (n + 1) + 1), w64 (w64 (w64 (n + 1) + 1) + 1), t, x.f5⟩ : SItem)), r1.1, w64 (i + 1)) (Nat.le_refl _) ?_
    · dsimp only at hq
      rw [hw, hn, List.drop_set_of_lt (by omega)] at hq
      rw [hw]
      exact hq
    dsimp only
    rw [List.map_set]
    have hm : (z.map (·.2.f5)).set (Int.toNat i) x.f5 = z.map (·.2.f5) := by
      refine List.ext_getElem? fun j => ?_
      rw [List.getElem?_set]
      split
      · rename_i e
        subst e
        rw [List.getElem?_map, hz]
        simp [(List.getElem?_eq_some_iff.1 hz).1]
      · rfl
    rw [hm]
    exact h20
  refine fx2 [1] 0 [] ?_
  refine Tri2.exit ?_
  obtain rfl := si h20
  have hd : (z.drop (Int.toNat i)).map rIV = [] := by rw [List.drop_eq_nil_of_le (by omega)]; rfl
  exact ⟨(), trivial, rfl, hd⟩
theorem laws_markInterface.fn2 {k : Nat} {u : Value} {nm : ByteArray} {z0 : List VI} {a1 r : Int} (H : mkI.l1 k (z0.map (·.2.f5)) a1 0 = some r) : Fn2 Tryz.prog 10 [ag [cS nm, .sc u], oI a1] (z0.map rIV ++ [⟨u, 53, z0.map eIV⟩]) (fun res ρ => res = oI r ∧ ρ = []) := by
  refine Fn2.body 4 Tryz.func10 ?_
  refine rn2 [1, 2] 1 [] [] ?_
  refine Tri2.seq (Tri2.region ?_)
  refine ew 3 [] ?_
  refine TriO2.perm (ρ' := (z0.map rIV ++ [⟨u, 53, z0.map eIV⟩]) ++ []) (by rw [List.append_nil]) ?_
  refine TriO2.call (d := 8) [] (laws_markItemS.fn2 H) (fun res ρr ⟨e1, _⟩ => by subst e1; rfl) (fun res ρr ⟨e1, e2⟩ => ?_)
  subst e1 e2
  refine ew 1 [] ?_
  refine exx [1] 0 [] ⟨10, [(1, oI r)], [], 0, []⟩ ?_
  refine TriO2.nil ?_
  refine rx2 [4] 0 [] [] ⟨10, [(4, oI r)], [], 0, []⟩ ?_
  refine Tri2.ret ?_
  exact ⟨_, ⟨.inr rfl, rfl, rfl, Nat.le_refl _, rfl, by simp⟩, rfl, rfl⟩
def laws_markInterface.f (k : Nat) (a0 : SFace) (a1 : Int) : Option Int := mkI.l1 k (a0.f1.map (·.f5)) a1 0
def laws_FnExactInterfaceBytes.e1 (k : Nat) (r6 : ((List Int) × Int)) (r10 : ((List Int) × Int)) : Option Bool := (laws_eqByteS.f k r10.1 r6.1).bind fun r12 => if r12 = true then (some (!(decide (r10.2 = r6.2)))) else (some true)
def laws_FnExactInterfaceBytes.e2 (k : Nat) (r6 : ((List Int) × Int)) (r10 : ((List Int) × Int)) (r24 : Int) : Option Bool := if r24 < 0 then (some true) else ((laws_eqByteS.f k r10.1 r6.1).bind fun r27 => if r27 = true then (some (!(decide (r10.2 = r6.2)))) else (some true))
def laws_FnExactInterfaceBytes.e3 (k : Nat) (r6 : ((List Int) × Int)) (r42 : ((List Int) × Int)) : Option Bool := (laws_eqByteS.f k r42.1 r6.1).bind fun r44 => if r44 = true then (some (!(decide (r42.2 = r6.2)))) else (some true)
def laws_FnExactInterfaceBytes.f (k : Nat) (a0 : SFace) : Option Bool := (laws_szInterface.f k a0 1048576).bind fun r1 => if r1 < 0 then (some true) else ((laws_toInterface.f k a0).bind fun r4 => (spec_InterfaceBytes.f k r4.1).bind fun r6 => (laws_toInterface.f k a0).bind fun r8 => (impl_InterfaceBytes.f k r8.1).bind fun r10 => (laws_FnExactInterfaceBytes.e1 k r6 r10).bind fun y15 => if y15 = true then (some false) else ((laws_toInterface.f k a0).bind fun r19 => (laws_eqInterface.f k r8.1 r19.1).bind fun r21 => if r21 = true then ((laws_markInterface.f k r8.1 1).bind fun r24 => (laws_FnExactInterfaceBytes.e2 k r6 r10 r24).bind fun y30 => if y30 = true then (some false) else ((laws_markByteS_1.f k r10.1 1).bind fun r34 => (laws_heldByteS.f k r34.2 1).bind fun r36 => if r36 < 0 then (some false) else (if r36 = r34.1 then ((laws_toInterface.f k a0).bind fun r40 => (impl_InterfaceBytes.f k r40.1).bind fun r42 => (laws_FnExactInterfaceBytes.e3 k r6 r42).bind fun y47 => if y47 = true then (some false) else ((laws_heldByteS.f k r34.2 1).bind fun r51 => if r51 < 0 then (some false) else (if r51 = r34.1 then (some true) else (some false)))) else (some false)))) else (some false)))
theorem lent_items {w : World} {S' : Nat → Prop} {u : Value} {z : List VI} {o : Option Nat} (hu : RepOwn Tryz.prog w (fun _ => False) 53 (z.map eIV) u o) (hg : ∀ k, o = some k → S' k) (hz : ∀ p ∈ z, RepS w S' (.sl 2 (List.map eSParam p.2.f5)) p.1) : RepS w S' (.sl 6 (List.map eSItem (z.map (·.2)))) u := by
  rw [List.map_map]
  refine row_lent (eV := eIV) (by kernel_rfl) hu hg (fun _ _ => rfl) fun p hp j x' hx' => ?_
  rcases j with _ | _ | _ | _ | _ | _ | j <;> simp only [Function.comp, eSItem, List.getElem?_cons_zero, List.getElem?_cons_succ, List.getElem?_nil, Option.some.injEq] at hx' <;> first | (cases hx'; done) | subst hx'
  · exact ⟨_, rfl, fun v h => h.bareS rfl⟩
  · exact ⟨_, rfl, fun v h => h.bareS rfl⟩
  · exact ⟨_, rfl, fun v h => h.bareS rfl⟩
  · exact ⟨_, rfl, fun v h => h.bareS rfl⟩
  · exact ⟨_, rfl, fun v h => h.bareS rfl⟩
  · exact ⟨.sc p.1, rfl, fun v h => by rw [h.sc_eq]; exact hz p hp⟩
theorem lent_params {w : World} {S' : Nat → Prop} {p : VI} (h : RepOwn Tryz.prog w (fun _ => False) 58 (List.map eSParam p.2.f5) p.1 p.1.ownBlock) (hg : ∀ k, p.1.ownBlock = some k → S' k) : RepS w S' (.sl 2 (List.map eSParam p.2.f5)) p.1 := by
  have e : Tryz.prog.cellsOf 58 = 2 := by kernel_rfl
  have := RepOwn.share (r := ⟨fun _ => False, fun _ => 0, fun _ => none, fun _ => undef⟩) (Sh' := S') h (fun _ h => h.elim) hg
  rwa [e] at this
theorem face_lent {u : Value} {nm : ByteArray} {z : List VI} (w : World) (r : Rs) (hh : Held Tryz.prog w r 0 (z.map rIV ++ [⟨u, 53, z.map eIV⟩])) (j : Nat) (x' : PC) (hx : (eSFace ⟨nm, z.map (·.2)⟩)[j]? = some x') : ∃ x, [cS nm, .sc u][j]? = some x ∧ ∀ v, RepS w r.Sh x v → RepS w (fun g => r.Sh g ∨ g ∈ bks (z.map rIV ++ [⟨u, 53, z.map eIV⟩])) x' v := by
  rcases j with _ | _ | j <;> simp only [eSFace, List.getElem?_cons_zero, List.getElem?_cons_succ, List.getElem?_nil, Option.some.injEq] at hx <;> first | (cases hx; done) | subst hx
  · exact ⟨_, rfl, fun v h => h.bareS rfl⟩
  · refine ⟨.sc u, rfl, fun v h => ?_⟩
    rw [h.sc_eq]
    have hm : (⟨u, 53, z.map eIV⟩ : Rw) ∈ z.map rIV ++ [⟨u, 53, z.map eIV⟩] := by simp
    refine lent_items (hh.own _ hm) (fun k hk => .inr (bks_mem.2 ⟨_, hm, hk⟩)) fun p hp => ?_
    have hm2 : rIV p ∈ z.map rIV ++ [⟨u, 53, z.map eIV⟩] := List.mem_append_left _ (List.mem_map_of_mem hp)
    exact lent_params (hh.own _ hm2) fun k hk => .inr (bks_mem.2 ⟨_, hm2, hk⟩)
theorem laws_FnExactInterfaceBytes.fn {k : Nat} {a0 : SFace} (H : laws_FnExactInterfaceBytes.f k a0 = some true) : Fn Tryz.prog 3 [ag (eSFace a0)] [] (oB true) [] := by
 refine Fn2.fn ?_
 refine Fn2.body 2 Tryz.func3 ?_
 refine rn2 [1] 1 [] [] ?_
 refine fb2 ⟨96, [(1, o1 (.cel (eSFace a0) 0))], [], 0, []⟩ ?_
 refine rn2 [1, 3] 0 [] [] ?_
 obtain ⟨r1, h2, H⟩ := bs H
 refine rn2 [1, 3] 0 [] [hC 2 (laws_szInterface.fn h2)] ?_
 refine Tri2.seq ?_
 refine rn2 [1, 18] 0 [] [] ?_
 refine ci2 H (fun h3 H => ?_) fun h3 H => ?_
 · refine rx2 [2] 0 [] [] ⟨96, [(2, oB true)], [], 0, []⟩ ?_
   refine Tri2.ret ?_
   exact ⟨_, ⟨.inr rfl, rfl, rfl, Nat.le_refl _, rfl, by simp⟩, rfl⟩
 refine Tri2.skip ?_
 obtain ⟨r4, h5, H⟩ := bs H
 obtain ⟨r6, h7, H⟩ := bs H
 refine rx2 [1, 4, 5] 0 [.frz (.t 4 0)] [hG 1 [] [] none (laws_toInterface.fn h5), hC 2 (spec_InterfaceBytes.fn h7) (show (List.all [.own 5 (List.map (eK .u8) r6.1), cI r6.2] PC.flatB) = true by simp [PC.flatB, PC.scalar, cI, cK, cB, cS, eK])] ⟨96, [(1, o1 (.cel (eSFace a0) 0)), (4, o1 (.sl 1 (List.map (eK .u8) r6.1))), (5, oI r6.2)], [], 0, []⟩ ?_
 obtain ⟨r8, h9, H⟩ := bs H
 obtain ⟨ri, hri, h9⟩ := bs h9
 obtain rfl := si h9
 refine Tri2.seq (Tri2.region ?_)
 refine ew 1 [] ?_
 refine TriO2.call (d := 26) [] (ρa := []) (ρ0 := []) (laws_toInterface.fn2 hri) (fun res ρr ⟨u, z, _, e1, _⟩ => by subst e1; rfl) (fun res ρr ⟨u, z, hz, e1, e2⟩ => ?_)
 subst e1 e2 hz
 refine ew 2 [] ?_
 refine exx [1, 4, 5, 6] 1 [] ⟨96, [(1, o1 (.cel (eSFace a0) 0)), (4, o1 (.sl 1 (List.map (eK .u8) r6.1))), (5, oI r6.2), (6, o1 (.ref 0 0))], [[cS a0.f0, .sc u]], 0, []⟩ ?_
 rw [List.append_nil]
 refine TriO2.nil ?_
 refine fb2 ⟨96, [(1, o1 (.cel (eSFace a0) 0)), (4, o1 (.sl 1 (List.map (eK .u8) r6.1))), (5, oI r6.2), (6, o1 (.cel [cS a0.f0, .sc u] 0))], [], 0, []⟩ ?_
 refine Tri2.lendC 6 [1, 4, 5, 6] (cs := [cS a0.f0, .sc u]) (cs' := eSFace (⟨a0.f0, z.map (·.2)⟩ : SFace)) face_lent fun a w r hi hh => ?_
 obtain ⟨r10, h11, H⟩ := bs H
 refine rnL [1, 4, 5, 6, 7, 8] 0 [] [hC 1 (impl_InterfaceBytes.fn h11) (show (List.all [.own 5 (List.map (eK .u8) r10.1), cI r10.2] PC.flatB) = true by simp [PC.flatB, PC.scalar, cI, cK, cB, cS, eK])] ?_
 refine sqL ?_
 refine jo H (fun y15 => ⟨96, [(1, o1 (.cel (eSFace a0) 0)), (4, o1 (.sl 1 (List.map (eK .u8) r6.1))), (5, oI r6.2), (6, o1 (.cel (eSFace (⟨a0.f0, z.map (·.2)⟩ : SFace)) 0)), (7, o1 (.own 5 (List.map (eK .u8) r10.1))), (8, oI r10.2), (40, oB y15)], [], 0, [1, 4, 5, 6]⟩) (fun y15 H => ?_) fun v17 h16 H => ?_
 · refine cb H (fun h18 H => by cases H) fun h18 H => ?_
   refine sk ?_
   obtain ⟨r19, h20, H⟩ := bs H
   obtain ⟨r21, h22, H⟩ := bs H
   refine sqL ?_
   refine deN hmix [[], [], [1], [0, 1, 2], [0, 1, 2, 3]] [2] [⟨96, [(1, o1 (.cel (eSFace a0) 0)), (4, o1 (.sl 1 (List.map (eK .u8) r6.1))), (5, oI r6.2), (6, o1 (.cel (eSFace (⟨a0.f0, z.map (·.2)⟩ : SFace)) 0)), (7, o1 (.own 5 (List.map (eK .u8) r10.1))), (8, oI r10.2), (40, oB y15)], [[cS r19.2.1, .sl 6 (List.map eSItem r19.2.2.1)], [cS r19.2.2.2.1, .sl 6 (List.map eSItem r19.2.2.2.2)]], 0, [1, 4, 5, 6]⟩] [(41, ag (eSFace (⟨a0.f0, z.map (·.2)⟩ : SFace))), (42, ag (eSFace a0)), (43, ag (eSFace r19.1))] [1, 4, 5, 6, 7, 8, 45] 0 [] (fun A D B => ([hz B 1, ht D 0, ht D 0, ht D 1, hG 2 [] [] none (laws_toInterface.fn h20), hm A D B 0 2 [43, 42, 1, 4, 5, 6, 7, 8, 40]], [hC 3 (laws_eqInterface.fn h22)])) ?_
   refine cm H (fun h23 H => ?_) fun h23 H => by cases H
   refine sk ?_
   refine rnL [1, 4, 5, 6, 7, 8, 9] 0 [] [] ?_
   obtain ⟨r24, h25, H⟩ := bs H
   refine TriL.back [1, 4, 5, 6, 7, 8, 9] hi hh ⟨96, [(1, o1 (.cel (eSFace a0) 0)), (4, o1 (.sl 1 (List.map (eK .u8) r6.1))), (5, oI r6.2), (6, o1 (.cel [cS a0.f0, .sc u] 0)), (7, o1 (.own 5 (List.map (eK .u8) r10.1))), (8, oI r10.2), (9, oI 1)], [], 0, []⟩ [List.all [.own 5 (List.map (eK .u8) r10.1)] PC.flatB = true, List.all [cI r10.2] PC.flatB = true, List.all [cI 1] PC.flatB = true] ⟨by simp [PC.flatB, PC.scalar, eK], rfl, rfl, trivial⟩ ?_
   refine Tri2.seq (Tri2.region ?_)
   refine ew 2 [] ?_
   have h26 : mkI.l1 k (z.map (·.2.f5)) 1 0 = some r24 := by
     have h27 : mkI.l1 k ((z.map (·.2)).map (·.f5)) 1 0 = some r24 := h25
     rwa [List.map_map] at h27
   refine TriO2.perm (ρ' := (z.map rIV ++ [⟨u, 53, z.map eIV⟩]) ++ []) (by rw [List.append_nil]) ?_
   refine TriO2.call (d := 48) [] (laws_markInterface.fn2 (u := u) (nm := a0.f0) h26) (fun res ρr ⟨e1, _⟩ => by subst e1; rfl) (fun res ρr ⟨e1, e2⟩ => ?_)
   subst e1 e2
   refine ew 1 [] ?_
   refine exx [1, 4, 5, 7, 8, 9] 0 [] ⟨96, [(1, o1 (.cel (eSFace a0) 0)), (4, o1 (.sl 1 (List.map (eK .u8) r6.1))), (5, oI r6.2), (7, o1 (.own 5 (List.map (eK .u8) r10.1))), (8, oI r10.2), (9, oI r24)], [], 0, []⟩ ?_
   refine TriO2.nil ?_
   refine Tri2.lift (Tri.mono (fun e st' h => ⟨_, h, rfl⟩) ?_)
   refine sq ?_
   refine jo H (fun y30 => ⟨96, [(1, o1 (.cel (eSFace a0) 0)), (4, o1 (.sl 1 (List.map (eK .u8) r6.1))), (5, oI r6.2), (7, o1 (.own 5 (List.map (eK .u8) r10.1))), (61, oB y30)], [], 0, []⟩) (fun y30 H => ?_) fun v32 h31 H => ?_
   ·refine cb H (fun h33 H => by cases H) fun h33 H => ?_
    refine sk ?_
    refine rn [1, 4, 5, 7, 10] 0 [] [] ?_
    obtain ⟨r34, h35, H⟩ := bs H
    refine rn [1, 4, 5, 7, 10] 0 [] [hG 2 [] [] (some (0, (.t 7 0))) (laws_markByteS_1.fn h35)] ?_
    refine rn [1, 4, 5, 7, 10, 11] 0 [] [] ?_
    obtain ⟨r36, h37, H⟩ := bs H
    refine rn [1, 4, 5, 7, 10, 11] 0 [] [hC 2 (laws_heldByteS.fn h37)] ?_
    refine sq ?_
    refine rn [1, 4, 5, 7, 10, 11, 69] 0 [] [] ?_
    refine ci H (fun h38 H => by cases H) fun h38 H => ?_
    refine sk ?_
    refine sq ?_
    refine rx [1, 4, 5, 7, 10, 72] 0 [] [] ⟨96, [(1, o1 (.cel (eSFace a0) 0)), (4, o1 (.sl 1 (List.map (eK .u8) r6.1))), (5, oI r6.2), (7, o1 (.own 5 (List.map (eK .u8) r34.2))), (10, oI r34.1), (72, oB (!(decide (r36 = r34.1))))], [], 0, []⟩ ?_
    refine cn H (fun h39 H => ?_) fun h39 H => ?_
    ·refine sk ?_
     obtain ⟨r40, h41, H⟩ := bs H
     obtain ⟨r42, h43, H⟩ := bs H
     refine rn [4, 5, 7, 10, 12, 13] 0 [] [hG 1 [] [] none (laws_toInterface.fn h41), hC 2 (impl_InterfaceBytes.fn h43) (show (List.all [.own 5 (List.map (eK .u8) r42.1), cI r42.2] PC.flatB) = true by simp [PC.flatB, PC.scalar, cI, cK, cB, cS, eK])] ?_
     refine sq ?_
     refine jo H (fun y47 => ⟨96, [(7, o1 (.own 5 (List.map (eK .u8) r34.2))), (10, oI r34.1), (87, oB y47)], [], 0, []⟩) (fun y47 H => ?_) fun v49 h48 H => ?_
     ·refine cb H (fun h50 H => by cases H) fun h50 H => ?_
      refine sk ?_
      refine rn [7, 10, 11] 0 [] [] ?_
      obtain ⟨r51, h52, H⟩ := bs H
      refine rn [10, 11] 0 [] [hC 2 (laws_heldByteS.fn h52)] ?_
      refine sq ?_
      refine rn [10, 11, 92] 0 [] [] ?_
      refine ci H (fun h53 H => by cases H) fun h53 H => ?_
      refine sk ?_
      refine sq ?_
      refine rn [95] 0 [] [] ?_
      refine cn H (fun h54 H => ?_) fun h54 H => ?_
      ·refine sk ?_
       refine rn [2] 0 [] [] ?_
       refine Tri.ret ?_
       first | exact absurd (si H) (by decide) | exact eR
      refine rn [2] 0 [] [] ?_
      refine Tri.ret ?_
      first | exact absurd (si H) (by decide) | exact eR
     obtain ⟨r44, h45, h48⟩ := bs h48
     rcases iteb_some h48 with ⟨h46, h48⟩ | ⟨h46, h48⟩
     ·refine rl [7, 10, 87] 0 [] [hC 2 (laws_eqByteS.fn h45), hB 2 h46] ?_
      exact pf (!(decide (r42.2 = r6.2))) h48
     refine rl [7, 10, 87] 0 [] [hC 2 (laws_eqByteS.fn h45), hB 2 h46] ?_
     exact pf true h48
    refine rn [2] 0 [] [] ?_
    refine Tri.ret ?_
    first | exact absurd (si H) (by decide) | exact eR
   rcases ite_some h31 with ⟨h26, h31⟩ | ⟨h26, h31⟩
   ·refine rl [1, 4, 5, 7, 61] 0 [] [hB 1 (decide_eq_true h26)] ?_
    exact pf true h31
   obtain ⟨r27, h28, h31⟩ := bs h31
   rcases iteb_some h31 with ⟨h29, h31⟩ | ⟨h29, h31⟩
   ·refine rl [1, 4, 5, 7, 61] 0 [] [hB 1 (decide_eq_false h26), hC 5 (laws_eqByteS.fn h28), hB 5 h29] ?_
    exact pf (!(decide (r10.2 = r6.2))) h31
   refine rl [1, 4, 5, 7, 61] 0 [] [hB 1 (decide_eq_false h26), hC 5 (laws_eqByteS.fn h28), hB 5 h29] ?_
   exact pf true h31
 obtain ⟨r12, h13, h16⟩ := bs h16
 rcases iteb_some h16 with ⟨h14, h16⟩ | ⟨h14, h16⟩
 ·refine rl [1, 4, 5, 6, 7, 8, 40] 0 [] [hC 2 (laws_eqByteS.fn h13), hB 2 h14] ?_
  exact pf (!(decide (r10.2 = r6.2))) h16
 refine rl [1, 4, 5, 6, 7, 8, 40] 0 [] [hC 2 (laws_eqByteS.fn h13), hB 2 h14] ?_
 exact pf true h16
end Go.Proofs.YtoclajfeeebbbaaGreatDoor.E
