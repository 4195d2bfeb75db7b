/- The law's own functions that take and give rows within rows: an interface read, written over; the law itself. -/
import Derived.Test.YtoclajfeeebbbabGreatDoorPFnExactReadInterface0
import Derived.Test.YtoclajfeeebbbabGreatDoorEng20
import Derived.Test.YtoclajfeeebbbabGreatDoorProg
set_option maxRecDepth 100000
set_option linter.unusedVariables false
set_option linter.unusedSectionVars false
set_option linter.unusedSimpArgs false
namespace Go.Proofs.YtoclajfeeebbbabGreatDoor.E
open Go.RowKit
variable [E1 : Lent]
abbrev VI := Value × SItem
def eIV (p : VI) : List PC := [cI p.2.f0, cI p.2.f1, cI p.2.f2, cI p.2.f3, cS p.2.f4, .sc p.1]
def rIV (p : VI) : Rw := ⟨p.1, 43, List.map eSParam p.2.f5⟩
theorem flat_params (l : List SParam) : flatXs (List.map eSParam l) = true := by simp [flatXs, PC.scalar, cI, cK, cB, eSParam]
theorem flat_items (l : List VI) : flatXs (List.map eIV l) = true := by simp [flatXs, PC.scalar, cI, cK, cS, eIV]
theorem at?_snd {z : List VI} {i : Int} {x : SItem} (h : at? (z.map (·.2)) i = some x) : ∃ v, at? z i = some (v, x) := by
  unfold at? at h ⊢
  split at h
  · rename_i h0
    rw [if_pos h0]
    rw [List.getElem?_map, Option.map_eq_some_iff] at h
    obtain ⟨p, hp, rfl⟩ := h
    exact ⟨p.1, hp⟩
  · cases h
theorem at?_set' {α : Type} {z : List α} {i : Int} {o n : α} (h : at? z i = some o) : at? (z.set (Int.toNat i) n) i = some n := by
  have h0 := at?_0 h
  have h1 := (List.getElem?_eq_some_iff.1 (at?_get h)).1
  unfold at?
  rw [if_pos h0]
  simp [h1]
theorem set_same {α β : Type} {f : α → β} {z : List α} {i : Nat} {a b : α} (h : f a = f b) : (z.set i a).map f = (z.set i b).map f := by rw [List.map_set, List.map_set, h]
theorem lent_items {w : World} {S' : Nat → Prop} {u : Value} {z : List VI} {o : Option Nat} (hu : RepOwn Tryz.prog w (fun _ => False) 41 (z.map eIV) u o) (hg : ∀ k, o = some k → S' k) (hz : ∀ p ∈ z, RepS w S' (.sl 2 (List.map eSParam p.2.f5)) p.1) : RepS w S' (.sl 6 (List.map eSItem (z.map (·.2)))) u := by
  rw [List.map_map]
  refine row_lent (eV := eIV) (by kernel_rfl) hu hg (fun _ _ => rfl) fun p hp j x' hx' => ?_
  rcases j with _ | _ | _ | _ | _ | _ | j <;> simp only [Function.comp, eSItem, List.getElem?_cons_zero, List.getElem?_cons_succ, List.getElem?_nil, Option.some.injEq] at hx' <;> first | (cases hx'; done) | subst hx'
  · exact ⟨_, rfl, fun v h => h.bareS rfl⟩
  · exact ⟨_, rfl, fun v h => h.bareS rfl⟩
  · exact ⟨_, rfl, fun v h => h.bareS rfl⟩
  · exact ⟨_, rfl, fun v h => h.bareS rfl⟩
  · exact ⟨_, rfl, fun v h => h.bareS rfl⟩
  · exact ⟨.sc p.1, rfl, fun v h => by rw [h.sc_eq]; exact hz p hp⟩
theorem lent_params {w : World} {S' : Nat → Prop} {p : VI} (h : RepOwn Tryz.prog w (fun _ => False) 43 (List.map eSParam p.2.f5) p.1 p.1.ownBlock) (hg : ∀ k, p.1.ownBlock = some k → S' k) : RepS w S' (.sl 2 (List.map eSParam p.2.f5)) p.1 := by
  have e : Tryz.prog.cellsOf 43 = 2 := by kernel_rfl
  have := RepOwn.share (r := ⟨fun _ => False, fun _ => 0, fun _ => none, fun _ => undef⟩) (Sh' := S') h (fun _ h => h.elim) hg
  rwa [e] at this
theorem face_env {u : Value} {z : List VI} {nb : Nat} (w : World) (r : Rs) (hh : Held Tryz.prog w r nb (z.map rIV ++ [⟨u, 41, z.map eIV⟩])) : RepS w (fun g => r.Sh g ∨ g ∈ bks (z.map rIV ++ [⟨u, 41, z.map eIV⟩])) (.sl 6 (List.map eSItem (z.map (·.2)))) u := by
  have hm : (⟨u, 41, z.map eIV⟩ : Rw) ∈ z.map rIV ++ [⟨u, 41, z.map eIV⟩] := by simp
  refine lent_items (hh.own _ hm) (fun k hk => .inr (bks_mem.2 ⟨_, hm, hk⟩)) fun p hp => ?_
  have hm2 : rIV p ∈ z.map rIV ++ [⟨u, 41, z.map eIV⟩] := List.mem_append_left _ (List.mem_map_of_mem hp)
  exact lent_params (hh.own _ hm2) fun k hk => .inr (bks_mem.2 ⟨_, hm2, hk⟩)
theorem face_enter {E2 : Lent} {u : Value} {z : List VI} {nb : Nat} (hE : E2.env = (u, PC.sl 6 (List.map eSItem (z.map (·.2)))) :: E1.env) (w : World) (r : Rs) (hh : Held Tryz.prog w r nb (z.map rIV ++ [⟨u, 41, z.map eIV⟩])) (hl : @LaidFacts.LW (@lf E1) w r.Sh) : @LaidFacts.LW (@lf E2) w (fun g => r.Sh g ∨ g ∈ bks (z.map rIV ++ [⟨u, 41, z.map eIV⟩])) := by
  refine lf_more hl (fun g h => .inl h) fun p hp => ?_
  rw [hE] at hp
  rcases List.mem_cons.1 hp with rfl | hp
  · exact .inr (face_env w r hh)
  · exact .inl hp
theorem known {E2 : Lent} {f : FuncId} {args args' : List PV} {res : PV} {u : Value} {s : Nat} {xs : List (List PC)} (hu : (u, PC.sl s xs) ∈ E2.env) (h : @Fn (@lf E2) Tryz.prog f args [] res []) (t c : Nat) (hp : ((⟨args'.length, enum 0 args', [], 0, []⟩ : St).at (.t t c), (⟨args'.length, enum 0 args', [], 0, []⟩ : St).setAt (.t t c) (.sl s xs)) = (some (.sc u), ⟨args.length, enum 0 args, [], 0, []⟩) := by kernel_rfl) : @Fn (@lf E2) Tryz.prog f args' [] res [] :=
  @Fn.known Tryz.prog (@lf E2) f args args' [] res [] h t c u (.sl s xs) (fun w Sh hl => lf_at hl hu) rfl rfl (by intro h; cases h) (fun _ _ _ _ _ h => ⟨rfl, h⟩) hp
/-! Marks. -/
def mkI.l1 : Nat → List SItem → Int → Int → Option (List SItem × Int)
  | 0, _, _, _ => none
  | k + 1, z, n, i => if i < (z.length : Int) then (at? z i).bind fun x => (laws_markText.f k (w64 (w64 (w64 (w64 (n + 1) + 1) + 1) + 1))).bind fun t => (laws_markParamS_1.f k x.f5 (w64 (w64 (w64 (w64 (w64 (n + 1) + 1) + 1) + 1) + 1))).bind fun r => mkI.l1 k (z.set (Int.toNat i) ⟨n, w64 (n + 1), w64 (w64 (n + 1) + 1), w64 (w64 (w64 (n + 1) + 1) + 1), t, r.2⟩) r.1 (w64 (i + 1)) else some (z, n)
theorem laws_markItemS.fn2 {k : Nat} {u : Value} {z0 : List VI} {a1 : Int} {r : List SItem × Int} (H : mkI.l1 k (z0.map (·.2)) a1 0 = some r) : Fn2 Tryz.prog 20 [o1 (.sc u), oI a1] (z0.map rIV ++ [⟨u, 41, z0.map eIV⟩]) (fun res ρ => res = oI r.2 ∧ ∃ z : List VI, z.map (·.2) = r.1 ∧ ρ = z.map rIV ++ [⟨u, 41, z.map eIV⟩]) := by
  refine Fn2.bodyK 4 Tryz.func20 ?_
  refine rx2 [0, 1] 0 [] [] ⟨56, [(0, o1 (.own 41 (z0.map eIV))), (1, oI a1)], [], 0, [0]⟩ ?_
  refine Tri2.join (α := List VI) (fun z => z.map (·.2) = r.1) (fun z => ⟨56, [(0, o1 (.own 41 (z.map eIV))), (1, oI r.2)], [], 0, [0]⟩) (fun z => z.map rIV) (fun z hz => ?_) ?_
  · refine rx2 [0, 4] 0 [] [] ⟨56, [(0, o1 (.own 41 (z.map eIV))), (4, oI r.2)], [], 0, [0]⟩ ?_
    refine Tri2.ret ?_
    exact ⟨oI r.2, z.map eIV, ⟨.inr rfl, rfl, rfl, by decide, flat_items z⟩, rfl, z, hz, rfl⟩
  refine rx2 [0, 1, 5] 0 [] [] ⟨56, [(0, o1 (.own 41 (z0.map eIV))), (1, oI a1), (5, oI 0)], [], 0, [0]⟩ ?_
  refine bl2 ?_
  refine Tri2.loop k (TriR2.ind (α := List VI × Int × Int) (fun k x => mkI.l1 k (x.1.map (·.2)) x.2.1 x.2.2) (fun x => ⟨56, [(0, o1 (.own 41 (x.1.map eIV))), (1, oI x.2.1), (5, oI x.2.2)], [], 0, [0]⟩) (fun x => x.1.map rIV) (fun _ => rfl) (fun k x h20 IH => ?_) k (z0, a1, 0) H)
  obtain ⟨z, n, i⟩ := x
  dsimp only at h20
  rw [mkI.l1.eq_2, List.length_map] at h20
  refine Tri2.seq ?_
  refine rn2 [0, 1, 5, 9] 0 [] [hL 2 eIV z] ?_
  refine ci2 h20 (fun h11 h20 => ?_) fun h11 h20 => ?_
  · refine Tri2.skip ?_
    refine Tri2.seq ?_
    refine bl2 ?_
    obtain ⟨x, h13, h20⟩ := bs h20
    obtain ⟨v, hz0⟩ := at?_snd h13
    obtain ⟨t, ht, h20⟩ := bs h20
    obtain ⟨r1, hr1, h20⟩ := bs h20
    have hz := at?_get hz0
    have hz1 := at?_set' (n := ((v, (⟨n, x.f1, x.f2, x.f3, x.f4, x.f5⟩ : SItem)) : VI)) hz0
    have hz2 := at?_set' (n := ((v, (⟨n, w64 (n + 1), x.f2, x.f3, x.f4, x.f5⟩ : SItem)) : VI)) hz1
    have hz3 := at?_set' (n := ((v, (⟨n, w64 (n + 1), w64 (w64 (n + 1) + 1), x.f3, x.f4, x.f5⟩ : SItem)) : VI)) hz2
    have hz4 := at?_set' (n := ((v, (⟨n, w64 (n + 1), w64 (w64 (n + 1) + 1), w64 (w64 (w64 (n + 1) + 1) + 1), x.f4, x.f5⟩ : SItem)) : VI)) hz3
    have hz5 := at?_set' (n := ((v, (⟨n, w64 (n + 1), w64 (w64 (n + 1) + 1), w64 (w64 (w64 (n + 1) + 1) + 1), t, x.f5⟩ : SItem)) : VI)) hz4
    rw [List.set_set] at hz2
    rw [List.set_set, List.set_set] at hz3
    rw [List.set_set, List.set_set, List.set_set] at hz4
    rw [List.set_set, List.set_set, List.set_set, List.set_set] at hz5
    refine rn2 [0, 1, 5] 0 [] [hE 3 eIV hz0, hF 4 eIV hz0, hW 5 (.t 0 0) 41 eIV hz0 (v, (⟨n, x.f1, x.f2, x.f3, x.f4, x.f5⟩ : SItem))] ?_
    refine rx2 [0, 1, 5] 0 [] [] ⟨56, [(0, o1 (.own 41 ((z.set (Int.toNat i) (v, (⟨n, x.f1, x.f2, x.f3, x.f4, x.f5⟩ : SItem))).map eIV))), (1, oI (w64 (n + 1))), (5, oI i)], [], 0, [0]⟩ ?_
    refine rn2 [0, 1, 5] 0 [] [hE 3 eIV hz1, hF 4 eIV hz1, hW 5 (.t 0 0) 41 eIV hz1 (v, (⟨n, w64 (n + 1), x.f2, x.f3, x.f4, x.f5⟩ : SItem))] ?_
    refine rx2 [0, 1, 5] 0 [] [] ⟨56, [(0, o1 (.own 41 (((z.set (Int.toNat i) (v, (⟨n, x.f1, x.f2, x.f3, x.f4, x.f5⟩ : SItem))).set (Int.toNat i) (v, (⟨n, w64 (n + 1), x.f2, x.f3, x.f4, x.f5⟩ : SItem))).map eIV))), (1, oI (w64 (w64 (n + 1) + 1))), (5, oI i)], [], 0, [0]⟩ ?_
    rw [List.set_set]
    refine rn2 [0, 1, 5] 0 [] [hE 3 eIV hz2, hF 4 eIV hz2, hW 5 (.t 0 0) 41 eIV hz2 (v, (⟨n, w64 (n + 1), w64 (w64 (n + 1) + 1), x.f3, x.f4, x.f5⟩ : SItem))] ?_
    refine rx2 [0, 1, 5] 0 [] [] ⟨56, [(0, o1 (.own 41 (((z.set (Int.toNat i) (v, (⟨n, w64 (n + 1), x.f2, x.f3, x.f4, x.f5⟩ : SItem))).set (Int.toNat i) (v, (⟨n, w64 (n + 1), w64 (w64 (n + 1) + 1), x.f3, x.f4, x.f5⟩ : SItem))).map eIV))), (1, oI (w64 (w64 (w64 (n + 1) + 1) + 1))), (5, oI i)], [], 0, [0]⟩ ?_
    rw [List.set_set]
    refine rn2 [0, 1, 5] 0 [] [hE 3 eIV hz3, hF 4 eIV hz3, hW 5 (.t 0 0) 41 eIV hz3 (v, (⟨n, w64 (n + 1), w64 (w64 (n + 1) + 1), w64 (w64 (w64 (n + 1) + 1) + 1), x.f4, x.f5⟩ : SItem))] ?_
    refine rx2 [0, 1, 5] 0 [] [] ⟨56, [(0, o1 (.own 41 (((z.set (Int.toNat i) (v, (⟨n, w64 (n + 1), w64 (w64 (n + 1) + 1), x.f3, x.f4, x.f5⟩ : SItem))).set (Int.toNat i) (v, (⟨n, w64 (n + 1), w64 (w64 (n + 1) + 1), w64 (w64 (w64 (n + 1) + 1) + 1), x.f4, x.f5⟩ : SItem))).map eIV))), (1, oI (w64 (w64 (w64 (w64 (n + 1) + 1) + 1) + 1))), (5, oI i)], [], 0, [0]⟩ ?_
    rw [List.set_set]
    refine rn2 [0, 1, 5] 0 [] [hC 3 (laws_markText.fn ht), hE 4 eIV hz4, hF 5 eIV hz4, hW 6 (.t 0 0) 41 eIV hz4 (v, (⟨n, w64 (n + 1), w64 (w64 (n + 1) + 1), w64 (w64 (w64 (n + 1) + 1) + 1), t, x.f5⟩ : SItem))] ?_
    refine rx2 [0, 1, 5] 0 [] [] ⟨56, [(0, o1 (.own 41 (((z.set (Int.toNat i) (v, (⟨n, w64 (n + 1), w64 (w64 (n + 1) + 1), w64 (w64 (w64 (n + 1) + 1) + 1), x.f4, x.f5⟩ : SItem))).set (Int.toNat i) (v, (⟨n, w64 (n + 1), w64 (w64 (n + 1) + 1), w64 (w64 (w64 (n + 1) + 1) + 1), t, x.f5⟩ : SItem))).map eIV))), (1, oI (w64 (w64 (w64 (w64 (w64 (n + 1) + 1) + 1) + 1) + 1))), (5, oI i)], [], 0, [0]⟩ ?_
    rw [List.set_set]
    refine Tri2.region ?_
    refine ew 6 [hE 2 eIV hz5, hF 3 eIV hz5, hF 4 eIV hz5] ?_
    refine TriO2.perm (perm_at hz) ?_
    refine TriO2.call (d := 54) [] (ρa := [rIV (v, x)]) (ρ0 := (z.eraseIdx (Int.toNat i)).map rIV) (Fn2.ofGK (laws_markParamS_1.fn hr1) rfl (flat_params _)) (fun res ρr ⟨e1, _⟩ => by subst e1; rfl) (fun res ρr ⟨e1, e2⟩ => ?_)
    subst e1 e2
    refine ew 1 [] ?_
    refine exx [0, 1, 5] 0 [] ⟨56, [(0, o1 (.own 41 ((z.set (Int.toNat i) (v, (⟨n, w64 (n + 1), w64 (w64 (n + 1) + 1), w64 (w64 (w64 (n + 1) + 1) + 1), t, x.f5⟩ : SItem))).map eIV))), (1, oI r1.1), (5, oI i)], [], 0, [0]⟩ ?_
    rw [set_same (f := eIV) (z := z) (i := Int.toNat i) (show eIV (v, (⟨n, w64 (n + 1), w64 (w64 (n + 1) + 1), w64 (w64 (w64 (n + 1) + 1) + 1), t, x.f5⟩ : SItem)) = eIV (v, (⟨n, w64 (n + 1), w64 (w64 (n + 1) + 1), w64 (w64 (w64 (n + 1) + 1) + 1), t, r1.2⟩ : SItem)) from rfl)]
    refine TriO2.perm (ρ' := (z.set (Int.toNat i) (v, (⟨n, w64 (n + 1), w64 (w64 (n + 1) + 1), w64 (w64 (w64 (n + 1) + 1) + 1), t, r1.2⟩ : SItem))).map rIV) (perm_back (f := rIV) (n := (v, (⟨n, w64 (n + 1), w64 (w64 (n + 1) + 1), w64 (w64 (w64 (n + 1) + 1) + 1), t, r1.2⟩ : SItem))) (List.getElem?_eq_some_iff.1 hz).1) ?_
    refine TriO2.nil ?_
    refine rlx2 [0, 1, 5] 0 [] [] ⟨56, [(0, o1 (.own 41 ((z.set (Int.toNat i) (v, (⟨n, w64 (n + 1), w64 (w64 (n + 1) + 1), w64 (w64 (w64 (n + 1) + 1) + 1), t, r1.2⟩ : SItem))).map eIV))), (1, oI r1.1), (5, oI (w64 (i + 1)))], [], 0, [0]⟩ ?_
    refine IH k (z.set (Int.toNat i) (v, (⟨n, w64 (n + 1), w64 (w64 (n + 1) + 1), w64 (w64 (w64 (n + 1) + 1) + 1), t, r1.2⟩ : SItem)), r1.1, w64 (i + 1)) (Nat.le_refl _) ?_
    dsimp only
    rw [List.map_set]
    exact h20
  refine fx2 [0, 1] 0 [] ?_
  refine Tri2.exit ?_
  obtain rfl := si h20
  exact ⟨z, rfl, rfl, rfl⟩
def laws_markInterface.f (k : Nat) (a0 : SFace) (a1 : Int) : Option (Int × SFace) := (mkI.l1 k a0.f1 a1 0).bind fun r => some (r.2, ⟨a0.f0, r.1⟩)
theorem laws_markInterface.fn2 {k : Nat} {u : Value} {nm : ByteArray} {z0 : List VI} {a1 : Int} {r : List SItem × Int} (H : mkI.l1 k (z0.map (·.2)) a1 0 = some r) : Fn2 Tryz.prog 10 [ag [cS nm, .sc u], oI a1] (z0.map rIV ++ [⟨u, 41, z0.map eIV⟩]) (fun res ρ => res = oI r.2 ∧ ∃ z : List VI, z.map (·.2) = r.1 ∧ ρ = z.map rIV ++ [⟨u, 41, z.map eIV⟩]) := by
  refine Fn2.body 4 Tryz.func10 ?_
  refine rn2 [1, 2] 1 [] [] ?_
  refine Tri2.seq (Tri2.region ?_)
  refine ew 3 [] ?_
  refine TriO2.perm (ρ' := (z0.map rIV ++ [⟨u, 41, z0.map eIV⟩]) ++ []) (by rw [List.append_nil]) ?_
  refine TriO2.call (d := 8) [] (laws_markItemS.fn2 H) (fun res ρr ⟨e1, _⟩ => by subst e1; rfl) (fun res ρr ⟨e1, z, hz, e2⟩ => ?_)
  subst e1 e2
  refine ew 1 [] ?_
  refine exx [1] 0 [] ⟨10, [(1, oI r.2)], [], 0, []⟩ ?_
  refine TriO2.nil ?_
  refine rx2 [4] 0 [] [] ⟨10, [(4, oI r.2)], [], 0, []⟩ ?_
  refine Tri2.ret ?_
  exact ⟨_, ⟨.inr rfl, rfl, rfl, Nat.le_refl _, rfl, by simp⟩, rfl, z, hz, List.append_nil _⟩
theorem impl_readInterface.fn2 {k : Nat} {a0 : ByteArray} {r : (SFace × Bool × ByteArray × (List SItem))} (H : impl_readInterface.f k a0 = some r) : Fn2 Tryz.prog 18 [oS a0] [] (fun res ρ => ∃ (u : Value) (z : List VI), res = tp [some 2, none] [cS r.1.f0, .sc u, cB r.2.1] ∧ z.map (·.2) = r.1.f1 ∧ ρ = z.map rIV ++ [⟨u, 41, z.map eIV⟩]) := by
  refine Fn2.bodyR [(2, some 25), (3, none)] Tryz.func18 ?_
  refine rn2 [0, 2] 1 [] [] ?_
  refine rn2 [2, 4] 2 [] [] ?_
  obtain ⟨r1, h2, H⟩ := bs H
  refine rn2 [2, 4] 2 [] [hG 1 [] [1] none (impl_reader__head_2.fn h2)] ?_
  obtain ⟨r3, h4, H⟩ := bs H
  refine rn2 [2, 4, 5] 3 [] [hG 1 [] [1] none (impl_reader__text_2.fn h4)] ?_
  obtain ⟨v151, h150, H⟩ := bs H
  refine Tri2.join (α := Int × Bool × List VI) (fun w => v151 = (w.1, w.2.1, w.2.2.map (·.2))) (fun w => ⟨63, [(2, o1 (.ref 0 0)), (4, o1 (.ref 1 0)), (5, o1 (.ref 2 0))], [[cS (⟨#[]⟩ : ByteArray), .nl], [cS a0, cI w.1, cB w.2.1], [cS r3.1, .own 41 (w.2.2.map eIV)]], 0, []⟩) (fun w => w.2.2.map rIV) (fun w hw => ?_) ?_
  · subst hw
    dsimp only at H
    obtain ⟨y157, h158, H⟩ := bs H
    obtain rfl := si H
    refine Tri2.adopt (.b 2 1) (e := 41) (flat_items w.2.2) fun u hu => ?_
    obtain ⟨E2, hE⟩ : ∃ E : Lent, E.env = (u, PC.sl 6 (List.map eSItem (w.2.2.map (·.2)))) :: E1.env := ⟨⟨_⟩, rfl⟩
    refine Tri2.enter (L1 := @lf E1) (L2 := @lf E2) [] (face_enter (E1 := E1) (E2 := E2) hE) (fun a w0 rs hi hh => ?_)
    refine TriL2.sq hi hh (Tri.mono (Q := Ex (fun st' => ∃ y, y157 = y ∧ st' = ⟨63, [(2, o1 (.ref 0 0)), (3, oB y)], [[cS r3.1, .sc u]], 0, []⟩) (fun _ _ => False)) (fun e st' q => ?_) ?_)
    · cases e <;> first | exact q.elim | skip
      obtain ⟨y, rfl, rfl⟩ := q
      refine TriL2.back [2, 3] hi hh ⟨63, [(2, o1 (.ref 0 0)), (3, oB y157)], [[cS r3.1, .sc u]], 0, []⟩ [] trivial ?_
      clear hE E2
      refine Tri2.ret ?_
      exact ⟨_, endsR (.inr rfl) (by kernel_rfl), u, w.2.2, rfl, rfl, rfl⟩
    obtain ⟨r152, h153, h158⟩ := bs h158
    rcases iteb_some h158 with ⟨h154, h158⟩ | ⟨h154, h158⟩
    · obtain ⟨r155, h156, h158⟩ := bs h158
      refine deL hmix [[], [], [1], [1, 2], [1, 2, 3], [1, 2, 3, 4], [1, 2, 3, 4, 5], [0, 1, 2, 3, 4, 5], [0, 1, 2, 3, 4, 5, 6, 7]] [7] [⟨63, [(2, o1 (.ref 0 0)), (4, o1 (.ref 1 0)), (5, o1 (.ref 2 0))], [[cS r3.1, .sc u], [cS a0, cI w.1, cB w.2.1], [cS r3.1, .sc u]], 0, []⟩] [(56, ag [cS r3.1, .sc u]), (57, o1 (.ref 1 0)), (58, oB true), (59, oB true), (60, ag [cS r3.1, .sc u]), (61, oB r155), (62, oB r155), (55, ⟨.any, []⟩)] [2, 3] 1 [] (fun A D B => ([hz B 1, ht D 0, ht D 1, hC 2 (impl_reader__ends_1.fn h153), hB 2 h154, ht D 2, ht D 3, ht D 4, hC 5 (known (E2 := E2) (args' := [ag [cS r3.1, .sc u]]) (by rw [hE]; exact List.mem_cons_self) (impl_InterfaceOK.fn h156) 0 1), ht D 5, ht D 6, ht D 6, hm A D B 0 7 [55, 56, 57, 58, 59, 60, 61, 2, 4, 5]], [])) ?_
      exact pf r155 h158
    refine deL hmix [[], [], [1], [1, 2], [1, 2, 3], [1, 2, 3, 4], [1, 2, 3, 4, 5], [0, 1, 2, 3, 4, 5], [0, 1, 2, 3, 4, 5, 6, 7]] [7] [⟨63, [(2, o1 (.ref 0 0)), (4, o1 (.ref 1 0)), (5, o1 (.ref 2 0))], [[cS r3.1, .sc u], [cS a0, cI w.1, cB w.2.1], [cS r3.1, .sc u]], 0, []⟩] [(56, ag [cS r3.1, .sc u]), (57, o1 (.ref 1 0)), (58, oB false), (59, oB false), (60, tp [] []), (61, tp [] []), (62, oB false), (55, ⟨.any, []⟩)] [2, 3] 1 [] (fun A D B => ([hz B 1, ht D 0, ht D 1, hC 2 (impl_reader__ends_1.fn h153), hB 2 h154, ht D 2, ht D 3, ht D 4, ht D 5, ht D 6, ht D 6, hm A D B 0 7 [55, 56, 57, 58, 59, 60, 61, 2, 4, 5]], [])) ?_
    exact pf false h158
  obtain ⟨r5, h6, h150⟩ := bs h150
  refine rn2 [2, 4, 5, 17, 18] 3 [] [hG 1 [] [1] none (impl_reader__number_2.fn h6)] ?_
  refine bl2 ?_
  refine fxx2 [2, 4, 5, 17, 18] 3 [.own (.b 2 1) 41] ⟨63, [(2, o1 (.ref 0 0)), (4, o1 (.ref 1 0)), (5, o1 (.ref 2 0)), (17, oI r5.1), (18, oI 0)], [[cS (⟨#[]⟩ : ByteArray), .nl], [cS a0, cI r5.2.1, cB r5.2.2], [cS r3.1, .own 41 (List.map eIV [])]], 0, []⟩ ?_
  refine Tri2.loop k (TriR2.ind (α := Int × Int × Bool × List VI) (fun k x => impl_readInterface.l4 k a0 r5 x.1 x.2.1 x.2.2.1 (x.2.2.2.map (·.2))) (fun x => ⟨63, [(2, o1 (.ref 0 0)), (4, o1 (.ref 1 0)), (5, o1 (.ref 2 0)), (17, oI r5.1), (18, oI x.1)], [[cS (⟨#[]⟩ : ByteArray), .nl], [cS a0, cI x.2.1, cB x.2.2.1], [cS r3.1, .own 41 (x.2.2.2.map eIV)]], 0, []⟩) (fun x => x.2.2.2.map rIV) (fun _ => rfl) (fun k x h150 IH => ?_) k (0, r5.2.1, r5.2.2, []) h150)
  obtain ⟨z98, z99, z100, z⟩ := x
  dsimp only at h150
  rw [impl_readInterface.l4.eq_2] at h150
  refine rn2 [2, 4, 5, 17, 18, 19] 3 [] [] ?_
  refine Tri2.seq ?_
  refine ci2 h150 (fun h102 h150 => ?_) fun h102 h150 => ?_
  · refine Tri2.skip ?_
    obtain ⟨v145, h144, h150⟩ := bs h150
    refine Tri2.join (α := Int × Bool × List VI) (fun w => v145 = (w.1, w.2.1, w.2.2.map (·.2))) (fun w => ⟨63, [(2, o1 (.ref 0 0)), (4, o1 (.ref 1 0)), (5, o1 (.ref 2 0)), (17, oI r5.1), (18, oI z98)], [[cS (⟨#[]⟩ : ByteArray), .nl], [cS a0, cI w.1, cB w.2.1], [cS r3.1, .own 41 (w.2.2.map eIV)]], 0, []⟩) (fun w => w.2.2.map rIV) (fun w hw => ?_) ?_
    · obtain ⟨y141, y142, y143⟩ := w
      subst hw
      dsimp only at h150
      refine rlx2 [2, 4, 5, 17, 18] 3 [] [] ⟨63, [(2, o1 (.ref 0 0)), (4, o1 (.ref 1 0)), (5, o1 (.ref 2 0)), (17, oI r5.1), (18, oI (w64 (z98 + 1)))], [[cS (⟨#[]⟩ : ByteArray), .nl], [cS a0, cI y141, cB y142], [cS r3.1, .own 41 (y143.map eIV)]], 0, []⟩ ?_
      exact IH k (w64 (z98 + 1), y141, y142, y143) (Nat.le_refl _) h150
    refine bl2 ?_
    obtain ⟨r103, h104, h144⟩ := bs h144
    obtain ⟨r105, h106, h144⟩ := bs h144
    obtain ⟨r107, h108, h144⟩ := bs h144
    obtain ⟨r109, h110, h144⟩ := bs h144
    obtain ⟨r111, h112, h144⟩ := bs h144
    refine rn2 [2, 4, 5, 6, 17, 18] 4 [] [hG 1 [] [1] none (impl_reader__number_2.fn h104), hG 3 [] [1] none (impl_reader__number_2.fn h106), hG 5 [] [1] none (impl_reader__number_2.fn h108), hG 7 [] [1] none (impl_reader__number_2.fn h110), hG 9 [] [1] none (impl_reader__text_2.fn h112)] ?_
    obtain ⟨v139, h138, h144⟩ := bs h144
    refine Tri2.sq (Tri.mono (Q := Ex (fun st' => ∃ w, v139 = w ∧ st' = ⟨63, [(2, o1 (.ref 0 0)), (4, o1 (.ref 1 0)), (5, o1 (.ref 2 0)), (6, o1 (.ref 3 0)), (17, oI r5.1), (18, oI z98)], [[cS (⟨#[]⟩ : ByteArray), .nl], [cS a0, cI w.1, cB w.2.1], [cS r3.1, .own 41 (z.map eIV)], [cI r103.1, cI r105.1, cI r107.1, cI r109.1, cS r111.1, .own 43 (List.map eSParam w.2.2)]], 0, []⟩) (fun _ _ => False)) (fun e st' q => ?_) ?_)
    · cases e <;> first | exact q.elim | skip
      obtain ⟨w, rfl, rfl⟩ := q
      obtain ⟨y135, y136, y137⟩ := v139
      dsimp only at h144
      obtain ⟨h140, h144⟩ := nd h144
      obtain rfl := si h144
      refine Tri2.adopt (.b 3 5) (e := 43) (flat_params y137) fun v hv => ?_
      refine rlx2 [2, 4, 5, 17, 18] 3 [] [hA 4 41 eIV (l := z) (m := [(v, (⟨r103.1, r105.1, r107.1, r109.1, r111.1, y137⟩ : SItem))]) (b := 72) (by simpa using h140)] ⟨63, [(2, o1 (.ref 0 0)), (4, o1 (.ref 1 0)), (5, o1 (.ref 2 0)), (17, oI r5.1), (18, oI z98)], [[cS (⟨#[]⟩ : ByteArray), .nl], [cS a0, cI y135, cB y136], [cS r3.1, .own 41 ((z ++ [(v, (⟨r103.1, r105.1, r107.1, r109.1, r111.1, y137⟩ : SItem))]).map eIV)]], 0, []⟩ ?_
      exact ⟨(y135, y136, z ++ [(v, (⟨r103.1, r105.1, r107.1, r109.1, r111.1, y137⟩ : SItem))]), by simp, rfl, by simp [rIV]⟩
    obtain ⟨r113, h114, h138⟩ := bs h138
    refine rn [2, 4, 5, 6, 17, 18, 32, 33] 4 [] [hG 1 [] [1] none (impl_reader__number_2.fn h114)] ?_
    refine bl ?_
    refine fx [2, 4, 5, 6, 17, 18, 32, 33] 4 [.own (.b 3 5) 43] ?_
    refine lo (Int × Int × Bool × (List SParam)) k (fun k x => impl_readInterface.l1 k a0 r113 x.1 x.2.1 x.2.2.1 x.2.2.2) (fun x => ⟨63, [(2, o1 (.ref 0 0)), (4, o1 (.ref 1 0)), (5, o1 (.ref 2 0)), (6, o1 (.ref 3 0)), (17, oI r5.1), (18, oI z98), (32, oI r113.1), (33, oI x.1)], [[cS (⟨#[]⟩ : ByteArray), .nl], [cS a0, cI x.2.1, cB x.2.2.1], [cS r3.1, .own 41 (z.map eIV)], [cI r103.1, cI r105.1, cI r107.1, cI r109.1, cS r111.1, .own 43 (List.map eSParam x.2.2.2)]], 0, []⟩) (0, r113.2.1, r113.2.2, ([] : List SParam)) h138 fun k x h138 IH134 => ?_
    obtain ⟨z126, z127, z128, z129⟩ := x
    rw [impl_readInterface.l1.eq_2] at h138
    refine rn [2, 4, 5, 6, 17, 18, 32, 33, 34] 4 [] [] ?_
    refine sq ?_
    refine ci h138 (fun h130 h138 => ?_) fun h130 h138 => ?_
    ·refine sk ?_
     refine sq ?_
     refine bl ?_
     obtain ⟨r131, h132, h138⟩ := bs h138
     refine rn [2, 4, 5, 6, 7, 17, 18, 32, 33] 4 [] [hG 1 [] [1] none (impl_reader__number_2.fn h132)] ?_
     obtain ⟨h133, h138⟩ := nd h138
     refine rl [2, 4, 5, 6, 17, 18, 32, 33] 4 [] [hA 9 43 eSParam h133] ?_
     refine rl [2, 4, 5, 6, 17, 18, 32, 33] 4 [] [] ?_
     exact lb IH134 (w64 (z126 + 1), r131.2.1, r131.2.2, z129 ++ ([(⟨iandn .i64 r131.1 8, (!(decide ((iand .i64 r131.1 8) = 0)))⟩ : SParam)] : List SParam)) h138
    refine fx [2, 4, 5, 6, 17, 18] 4 [] ?_
    refine xi ?_
    exact pf (z127, z128, z129) h138
  refine fx2 [2, 4, 5] 3 [] ?_
  refine Tri2.exit ?_
  exact ⟨(z99, z100, z), (si h150).symm, rfl, rfl⟩
theorem impl_ReadInterface.fn2 {k : Nat} {a0 : List Int} {r : (SFace × Int × ByteArray × (List SItem))} (H : impl_ReadInterface.f k a0 = some r) : Fn2 Tryz.prog 6 [o1 (.sl 1 (List.map (eK .u8) a0))] [] (fun res ρ => ∃ (u : Value) (z : List VI), res = tp [some 2, none] [cS r.1.f0, .sc u, cI r.2.1] ∧ z.map (·.2) = r.1.f1 ∧ ρ = z.map rIV ++ [⟨u, 41, z.map eIV⟩]) := by
  refine Fn2.bodyR [(2, some 25), (3, none)] Tryz.func6 ?_
  refine rn2 [0, 2] 1 [] [] ?_
  refine Tri2.seq ?_
  obtain ⟨r1, h2, H⟩ := bs H
  refine rn2 [0, 2, 8] 1 [] [hC 1 (impl_isShort___byte.fn h2)] ?_
  refine cm2 H (fun h3 H => ?_) fun h3 H => ?_
  · refine Tri2.skip ?_
    obtain ⟨r4, h5, H⟩ := bs H
    refine Tri2.seq (Tri2.region ?_)
    refine ew 2 [q1 1 (.nums a0) (rfl : List.map (eK .u8) a0 = List.map (fun n => [PC.sc (.int .u8 n)]) a0)] ?_
    refine TriO2.call (d := 13) [] (ρa := []) (ρ0 := []) (impl_readInterface.fn2 h5) (fun res ρr ⟨u, z, e1, _, _⟩ => by subst e1; rfl) (fun res ρr ⟨u, z, e1, hz, e2⟩ => ?_)
    subst e1 e2
    refine ew 6 [] ?_
    refine exx [2, 4, 5] 2 [] ⟨20, [(2, o1 (.ref 0 0)), (4, o1 (.ref 1 0)), (5, oB r4.2.1)], [[cS (⟨#[]⟩ : ByteArray), .nl], [cS r4.1.f0, .sc u]], 0, []⟩ ?_
    refine TriO2.nil ?_
    refine Tri2.seq ?_
    refine rn2 [2, 4, 17] 2 [] [] ?_
    refine cm2 H (fun h6 H => ?_) fun h6 H => ?_
    · refine Tri2.skip ?_
      refine rx2 [2, 3] 1 [] [] ⟨20, [(2, o1 (.ref 0 0)), (3, oI 0)], [[cS r4.1.f0, .sc u]], 0, []⟩ ?_
      refine Tri2.ret ?_
      obtain rfl := si H
      exact ⟨_, endsR (.inr rfl) (by kernel_rfl), u, z, rfl, hz, List.append_nil _⟩
    refine rx2 [2, 3] 1 [] [] ⟨20, [(2, o1 (.ref 0 0)), (3, oI 3)], [[cS (⟨#[]⟩ : ByteArray), .nl]], 0, []⟩ ?_
    refine Tri2.sub (ρ' := []) (by simp; rfl) ?_
    refine fxx2 [2, 3] 1 [.own (.b 0 1) 41] ⟨20, [(2, o1 (.ref 0 0)), (3, oI 3)], [[cS (⟨#[]⟩ : ByteArray), .own 41 []]], 0, []⟩ ?_
    refine Tri2.adopt (.b 0 1) (e := 41) (xs := []) rfl fun u hu => ?_
    refine Tri2.ret ?_
    obtain rfl := si H
    exact ⟨_, endsR (.inr rfl) (by kernel_rfl), u, [], rfl, rfl, rfl⟩
  refine rx2 [2, 3] 1 [] [] ⟨20, [(2, o1 (.ref 0 0)), (3, oI 2)], [[cS (⟨#[]⟩ : ByteArray), .nl]], 0, []⟩ ?_
  refine Tri2.sub (ρ' := []) (by simp; rfl) ?_
  refine fxx2 [2, 3] 1 [.own (.b 0 1) 41] ⟨20, [(2, o1 (.ref 0 0)), (3, oI 2)], [[cS (⟨#[]⟩ : ByteArray), .own 41 []]], 0, []⟩ ?_
  refine Tri2.adopt (.b 0 1) (e := 41) (xs := []) rfl fun u hu => ?_
  refine Tri2.ret ?_
  obtain rfl := si H
  exact ⟨_, endsR (.inr rfl) (by kernel_rfl), u, [], rfl, rfl, rfl⟩
def laws_FnExactReadInterface.e1 (k : Nat) (r4 r8 : SFace × Int × ByteArray × List SItem) : Option Bool := (laws_eqInterface.f k r8.1 r4.1).bind fun r10 => if r10 = true then (some (!(decide (r8.2.1 = r4.2.1)))) else (some true)
def laws_FnExactReadInterface.e2 (k : Nat) (r4 r8 : SFace × Int × ByteArray × List SItem) (n : Int) : Option Bool := if n < 0 then (some true) else ((laws_eqInterface.f k r8.1 r4.1).bind fun r25 => if r25 = true then (some (!(decide (r8.2.1 = r4.2.1)))) else (some true))
def laws_FnExactReadInterface.f (k : Nat) (a0 : List Int) : Option Bool := if (1048576 : Int) < (a0.length : Int) then (some true) else ((laws_toByteS.f k a0).bind fun r2 => (spec_ReadInterface.f k r2).bind fun r4 => (laws_toByteS.f k a0).bind fun r6 => (impl_ReadInterface.f k r6).bind fun r8 => (laws_FnExactReadInterface.e1 k r4 r8).bind fun y13 => if y13 = true then (some false) else ((laws_toByteS.f k a0).bind fun r17 => (laws_eqByteS.f k r6 r17).bind fun r19 => if r19 = true then ((laws_markByteS_1.f k r6 1).bind fun r22 => (laws_FnExactReadInterface.e2 k r4 r8 r22.1).bind fun y28 => if y28 = true then (some false) else ((laws_markInterface.f k r8.1 1).bind fun r32 => (laws_heldInterface.f k r32.2 1).bind fun r34 => if r34 < 0 then (some false) else (if r34 = r32.1 then ((laws_toByteS.f k a0).bind fun r38 => (impl_ReadInterface.f k r38).bind fun r40 => (laws_FnExactReadInterface.e1 k r4 r40).bind fun y45 => if y45 = true then (some false) else ((laws_heldInterface.f k r32.2 1).bind fun r49 => if r49 < 0 then (some false) else (if r49 = r32.1 then (some true) else (some false)))) else (some false)))) else (some false)))
theorem laws_FnExactReadInterface.fn {k : Nat} {a0 : List Int} (H : laws_FnExactReadInterface.f k a0 = some true) : Fn Tryz.prog 3 [o1 (.sl 1 (List.map (eK .u8) a0))] [] (oB true) [] := by
 refine Fn2.fn ?_
 refine Fn2.body 2 Tryz.func3 ?_
 refine rn2 [0] 0 [] [] ?_
 refine Tri2.seq ?_
 refine rn2 [0, 15] 0 [] [hL 1 (eK .u8) a0] ?_
 refine ci2 H (fun h1 H => ?_) fun h1 H => ?_
 · refine rx2 [2] 0 [] [] ⟨93, [(2, oB true)], [], 0, []⟩ ?_
   refine Tri2.ret ?_
   exact ⟨_, ⟨.inr rfl, rfl, rfl, Nat.le_refl _, rfl, by simp⟩, rfl⟩
 refine Tri2.skip ?_
 obtain ⟨r2, h3, H⟩ := bs H
 obtain ⟨r4, h5, H⟩ := bs H
 refine rn2 [0, 3, 4] 2 [] [hC 1 (laws_toByteS.fn h3) (show (List.all [.own 5 (List.map (eK .u8) r2)] PC.flatB) = true by simp [PC.flatB, PC.scalar, cI, cK, cB, cS, eK]), q0 2 (.frz (.t 18 0)), hG 2 [] [] none (spec_ReadInterface.fn h5)] ?_
 refine fb2 ⟨93, [(0, o1 (.sl 1 (List.map (eK .u8) a0))), (3, o1 (.cel (eSFace r4.1) 0)), (4, oI r4.2.1)], [[cS r4.2.2.1, .sl 6 (List.map eSItem r4.2.2.2)]], 0, []⟩ ?_
 obtain ⟨r6, h7, H⟩ := bs H
 refine rx2 [0, 3, 4, 5] 0 [] [hC 1 (laws_toByteS.fn h7) (show (List.all [.own 5 (List.map (eK .u8) r6)] PC.flatB) = true by simp [PC.flatB, PC.scalar, cI, cK, cB, cS, eK])] ⟨93, [(0, o1 (.sl 1 (List.map (eK .u8) a0))), (3, o1 (.cel (eSFace r4.1) 0)), (4, oI r4.2.1), (5, o1 (.own 5 (List.map (eK .u8) r6)))], [], 0, []⟩ ?_
 obtain ⟨r8, h9, H⟩ := bs H
 obtain ⟨⟨nm, its⟩, n8, q8⟩ := r8
 refine Tri2.seq (Tri2.region ?_)
 refine ew 1 [] ?_
 refine TriO2.callX (d := 26) [] (ρa := []) (ρ0 := []) (impl_ReadInterface.fn2 h9) (fun res ρr ⟨u, z, e1, _, _⟩ => by subst e1; rfl) (fun res ρr ⟨u, z, e1, hz, e2⟩ => ?_)
 subst e1 e2
 dsimp only at hz
 subst hz
 refine ew 6 [] ?_
 refine exx [0, 3, 4, 5, 6, 7] 1 [] ⟨93, [(0, o1 (.sl 1 (List.map (eK .u8) a0))), (3, o1 (.cel (eSFace r4.1) 0)), (4, oI r4.2.1), (5, o1 (.own 5 (List.map (eK .u8) r6))), (6, o1 (.ref 0 0)), (7, oI n8)], [[cS nm, .sc u]], 0, []⟩ ?_
 rw [List.append_nil]
 refine TriO2.nil ?_
 obtain ⟨E2, hE⟩ : ∃ E : Lent, E.env = (u, PC.sl 6 (List.map eSItem (z.map (·.2)))) :: E1.env := ⟨⟨_⟩, rfl⟩
 refine Tri2.enter (L1 := @lf E1) (L2 := @lf E2) [0, 3] (face_enter (E1 := E1) (E2 := E2) hE) (fun a w0 rs hi hh => ?_)
 refine TriL2.sq hi hh ?_
 refine jo H (fun y13 => ⟨93, [(0, o1 (.sl 1 (List.map (eK .u8) a0))), (3, o1 (.cel (eSFace r4.1) 0)), (4, oI r4.2.1), (5, o1 (.own 5 (List.map (eK .u8) r6))), (6, o1 (.ref 0 0)), (7, oI n8), (37, oB y13)], [[cS nm, .sc u]], 0, [0, 3]⟩) (fun y13 H => ?_) fun v15 h14 H => ?_
 · refine cb H (fun h16 H => by cases H) fun h16 H => ?_
   refine sk ?_
   obtain ⟨r17, h18, H⟩ := bs H
   obtain ⟨r19, h20, H⟩ := bs H
   refine TriL2.sq hi hh ?_
   refine rn [0, 3, 4, 5, 6, 7, 42] 1 [] [hC 2 (laws_toByteS.fn h18) (show (List.all [.own 5 (List.map (eK .u8) r17)] PC.flatB) = true by simp [PC.flatB, PC.scalar, cI, cK, cB, cS, eK]), hC 3 (laws_eqByteS.fn h20)] ?_
   refine cm H (fun h21 H => ?_) fun h21 H => by cases H
   refine sk ?_
   refine TriL2.sq hi hh (rl [0, 3, 4, 5, 6, 7, 8] 1 [] [] ?_)
   obtain ⟨r22, h23, H⟩ := bs H
   refine TriL2.sq hi hh (rl [0, 3, 4, 6, 7, 8] 1 [] [hG 2 [] [] (some (0, (.t 5 0))) (laws_markByteS_1.fn h23)] ?_)
   refine TriL2.sq hi hh ?_
   refine jo H (fun y28 => ⟨93, [(0, o1 (.sl 1 (List.map (eK .u8) a0))), (3, o1 (.cel (eSFace r4.1) 0)), (4, oI r4.2.1), (6, o1 (.ref 0 0)), (58, oB y28)], [[cS nm, .sc u]], 0, [0, 3]⟩) (fun y28 H => ?_) fun v30 h29 H => ?_
   · refine cb H (fun h31 H => by cases H) fun h31 H => ?_
     refine sk ?_
     refine TriL2.sq hi hh (rl [0, 3, 4, 6, 9] 1 [] [] ?_)
     obtain ⟨r32, h33, H⟩ := bs H
     obtain ⟨⟨ri, ni⟩, h33m, h34⟩ := bs h33
     obtain rfl := si h34
     refine TriL2.back [0, 3, 4, 6, 9] hi hh ⟨93, [(0, o1 (.sl 1 (List.map (eK .u8) a0))), (3, o1 (.cel (eSFace r4.1) 0)), (4, oI r4.2.1), (6, o1 (.ref 0 0)), (9, oI 1)], [[cS nm, .sc u]], 0, []⟩ [] trivial ?_
     clear hi hh hE E2 a w0 rs
     refine Tri2.seq (Tri2.region ?_)
     refine ew 2 [] ?_
     refine TriO2.perm (ρ' := (z.map rIV ++ [⟨u, 41, z.map eIV⟩]) ++ []) (by rw [List.append_nil]) ?_
     refine TriO2.call (d := 61) [] (laws_markInterface.fn2 (u := u) (nm := nm) h33m) (fun res ρr ⟨e1, _⟩ => by subst e1; rfl) (fun res ρr ⟨e1, z2, hz2, e2⟩ => ?_)
     subst e1 e2
     dsimp only at hz2
     subst hz2
     refine ew 1 [] ?_
     refine exx [0, 3, 4, 6, 9] 1 [] ⟨93, [(0, o1 (.sl 1 (List.map (eK .u8) a0))), (3, o1 (.cel (eSFace r4.1) 0)), (4, oI r4.2.1), (6, o1 (.ref 0 0)), (9, oI ni)], [[cS nm, .sc u]], 0, []⟩ ?_
     rw [List.append_nil]
     refine TriO2.nil ?_
     obtain ⟨E2, hE⟩ : ∃ E : Lent, E.env = (u, PC.sl 6 (List.map eSItem (z2.map (·.2)))) :: E1.env := ⟨⟨_⟩, rfl⟩
     refine Tri2.enter (L1 := @lf E1) (L2 := @lf E2) [0, 3] (face_enter (E1 := E1) (E2 := E2) hE) (fun a w0 rs hi hh => ?_)
     refine TriL2.end hi hh (Tri.mono (fun e st' h => ⟨_, h, rfl⟩) (Q := Ends [2] (oB true) []) ?_)
     refine rn [0, 3, 4, 6, 9, 10] 1 [] [] ?_
     obtain ⟨r34, h35, H⟩ := bs H
     refine rn [0, 3, 4, 6, 9, 10] 1 [] [hC 2 (known (E2 := E2) (args' := [ag [cS nm, .sc u], oI 1]) (by rw [hE]; exact List.mem_cons_self) (laws_heldInterface.fn h35) 0 1)] ?_
     refine sq ?_
     refine rn [0, 3, 4, 6, 9, 10, 66] 1 [] [] ?_
     refine ci H (fun h36 H => ?_) fun h36 H => ?_
     ·refine rx [2] 0 [] [] ⟨93, [(2, oB false)], [], 0, [0, 3]⟩ ?_
      refine Tri.ret ?_
      first | exact absurd (si H) (by decide) | exact eR
     refine sk ?_
     refine sq ?_
     refine rx [0, 3, 4, 6, 9, 69] 1 [] [] ⟨93, [(0, o1 (.sl 1 (List.map (eK .u8) a0))), (3, o1 (.cel (eSFace r4.1) 0)), (4, oI r4.2.1), (6, o1 (.ref 0 0)), (9, oI ni), (69, oB (!(decide (r34 = ni))))], [[cS nm, .sc u]], 0, [0, 3]⟩ ?_
     refine cn H (fun h37 H => ?_) fun h37 H => ?_
     ·refine sk ?_
      obtain ⟨r38, h39, H⟩ := bs H
      obtain ⟨r40, h41, H⟩ := bs H
      refine rn [3, 4, 6, 9, 11, 12] 3 [] [hC 1 (laws_toByteS.fn h39) (show (List.all [.own 5 (List.map (eK .u8) r38)] PC.flatB) = true by simp [PC.flatB, PC.scalar, cI, cK, cB, cS, eK]), q0 2 (.frz (.t 72 0)), hG 2 [] [] none (impl_ReadInterface.fn h41)] ?_
      refine sq ?_
      refine jo H (fun y45 => ⟨93, [(6, o1 (.ref 0 0)), (9, oI ni), (84, oB y45)], [[cS nm, .sc u]], 0, [0, 3]⟩) (fun y45 H => ?_) fun v47 h46 H => ?_
      ·refine cb H (fun h48 H => ?_) fun h48 H => ?_
       ·refine rn [2] 0 [] [] ?_
        refine Tri.ret ?_
        first | exact absurd (si H) (by decide) | exact eR
       refine sk ?_
       refine rn [6, 9, 10] 1 [] [] ?_
       obtain ⟨r49, h50, H⟩ := bs H
       refine rn [9, 10] 0 [] [hC 2 (known (E2 := E2) (args' := [ag [cS nm, .sc u], oI 1]) (by rw [hE]; exact List.mem_cons_self) (laws_heldInterface.fn h50) 0 1)] ?_
       refine sq ?_
       refine rn [9, 10, 89] 0 [] [] ?_
       refine ci H (fun h51 H => ?_) fun h51 H => ?_
       ·refine rn [2] 0 [] [] ?_
        refine Tri.ret ?_
        first | exact absurd (si H) (by decide) | exact eR
       refine sk ?_
       refine sq ?_
       refine rn [92] 0 [] [] ?_
       refine cn H (fun h52 H => ?_) fun h52 H => ?_
       ·refine sk ?_
        refine rn [2] 0 [] [] ?_
        refine Tri.ret ?_
        first | exact absurd (si H) (by decide) | exact eR
       refine rn [2] 0 [] [] ?_
       refine Tri.ret ?_
       first | exact absurd (si H) (by decide) | exact eR
      obtain ⟨r42, h43, h46⟩ := bs h46
      rcases iteb_some h46 with ⟨h44, h46⟩ | ⟨h44, h46⟩
      ·refine rl [6, 9, 84] 1 [] [hC 2 (laws_eqInterface.fn h43), hB 2 h44] ?_
       exact pf (!(decide (r40.2.1 = r4.2.1))) h46
      refine rl [6, 9, 84] 1 [] [hC 2 (laws_eqInterface.fn h43), hB 2 h44] ?_
      exact pf true h46
     refine rn [2] 0 [] [] ?_
     refine Tri.ret ?_
     first | exact absurd (si H) (by decide) | exact eR
   rcases ite_some h29 with ⟨h24, h29⟩ | ⟨h24, h29⟩
   ·refine rl [0, 3, 4, 6, 58] 1 [] [hB 1 (decide_eq_true h24)] ?_
    exact pf true h29
   obtain ⟨r25, h26, h29⟩ := bs h29
   rcases iteb_some h29 with ⟨h27, h29⟩ | ⟨h27, h29⟩
   ·refine rl [0, 3, 4, 6, 58] 1 [] [hB 1 (decide_eq_false h24), hC 5 (known (E2 := E2) (args' := [ag [cS nm, .sc u], ag (eSFace r4.1)]) (by rw [hE]; exact List.mem_cons_self) (laws_eqInterface.fn h26) 0 1), hB 5 h27] ?_
    exact pf (!(decide (n8 = r4.2.1))) h29
   refine rl [0, 3, 4, 6, 58] 1 [] [hB 1 (decide_eq_false h24), hC 5 (known (E2 := E2) (args' := [ag [cS nm, .sc u], ag (eSFace r4.1)]) (by rw [hE]; exact List.mem_cons_self) (laws_eqInterface.fn h26) 0 1), hB 5 h27] ?_
   exact pf true h29
 obtain ⟨r10, h11, h14⟩ := bs h14
 rcases iteb_some h14 with ⟨h12, h14⟩ | ⟨h12, h14⟩
 ·refine rl [0, 3, 4, 5, 6, 7, 37] 1 [] [hC 2 (known (E2 := E2) (args' := [ag [cS nm, .sc u], ag (eSFace r4.1)]) (by rw [hE]; exact List.mem_cons_self) (laws_eqInterface.fn h11) 0 1), hB 2 h12] ?_
  exact pf (!(decide (n8 = r4.2.1))) h14
 refine rl [0, 3, 4, 5, 6, 7, 37] 1 [] [hC 2 (known (E2 := E2) (args' := [ag [cS nm, .sc u], ag (eSFace r4.1)]) (by rw [hE]; exact List.mem_cons_self) (laws_eqInterface.fn h11) 0 1), hB 2 h12] ?_
 exact pf true h14
end Go.Proofs.YtoclajfeeebbbabGreatDoor.E
