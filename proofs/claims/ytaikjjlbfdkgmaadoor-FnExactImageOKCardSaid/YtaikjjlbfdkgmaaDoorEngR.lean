/- The engine, part R: rows of parts, rows made of a length, elements stored; structs of parts. Plain lemmas; no program. -/
import Derived.Test.YtaikjjlbfdkgmaaDoorEngQ
set_option linter.unusedVariables false
set_option linter.unusedSectionVars false
set_option linter.unusedSimpArgs false
namespace Go.Proofs.YtaikjjlbfdkgmaaDoor.E
open Go.RowKit
variable [LaidFacts]

section
variable {P : Program} {st : St} {o : Oper}

theorem foldl_set (off : Nat) : ∀ (l : List Value) (k : Nat) (cells : Array Value), off + k + l.length ≤ cells.size → ((l.zipIdx k).foldl (fun cs x => cs.setIfInBounds (off + x.2) x.1) cells).toList = put3 cells.toList (off + k) l
  | [], k, cells, h => by simp [put3]
  | v :: l, k, cells, h => by
    simp only [List.zipIdx_cons, List.foldl_cons]
    simp only [List.length_cons] at h
    rw [foldl_set off l (k + 1) _ (by simp; omega)]
    have hsz : cells.toList.length = cells.size := by simp
    apply List.ext_getElem?
    intro c
    rw [put3_at (by simp; omega), put3_at (by rw [hsz]; simp; omega), Array.toList_setIfInBounds, List.getElem?_set]
    simp only [List.length_cons, List.length_set]
    by_cases h1 : off + (k + 1) ≤ c ∧ c < off + (k + 1) + l.length
    · rw [if_pos h1, if_pos (by omega), show c - (off + k) = (c - (off + (k + 1))) + 1 by omega, List.getElem?_cons_succ]
    · rw [if_neg h1]
      by_cases h2 : off + k = c
      · subst h2
        rw [if_pos rfl, if_pos (by omega), if_pos (by omega), Nat.sub_self, List.getElem?_cons_zero]
      · rw [if_neg h2, if_neg (by omega)]

theorem fill_step {place : Nat → Option (Nat × Nat)} {cells : Array Value} {i : Nat} {v : Value} {rest : List (Nat × Value)} {off size : Nat} (hp : place i = some (off, size)) (hs : v.cells.size = size) (hle : off + size ≤ cells.size) :
    Instr.fill place cells ((i, v) :: rest) = Instr.fill place (put3 cells.toList off v.cells.toList).toArray rest := by
  simp only [Instr.fill, hp]
  rw [if_neg (by simp [hs]; omega)]
  congr 1
  apply Array.toList_inj.1
  have := foldl_set off v.cells.toList 0 cells (by simp [hs]; omega)
  simp only [Nat.add_zero] at this
  rw [List.toList_toArray, ← this, ← Array.foldl_toList, Array.toList_zipIdx]

/-- The parts, in their order, all of them. -/
theorem fill_all {size : Nat} : ∀ (vs : List Value) (k : Nat) (cells : Array Value), (∀ v ∈ vs, v.cells.size = size) → cells.size = (k + vs.length) * size →
    Instr.fill (fun i => some (i * size, size)) cells ((vs.zipIdx k).map fun x => (x.2, x.1)) = some (cells.toList.take (k * size) ++ vs.flatMap fun v => v.cells.toList).toArray
  | [], k, cells, _, hc => by
    simp only [List.zipIdx_nil, List.map_nil, Instr.fill, List.flatMap_nil, List.append_nil, Option.some.injEq]
    apply Array.toList_inj.1
    rw [List.toList_toArray, List.take_of_length_le (by simp [hc])]
  | v :: vs, k, cells, hv, hc => by
    have hs := hv v (List.mem_cons_self ..)
    simp only [List.length_cons] at hc
    have hmul : (k + (vs.length + 1)) * size = k * size + size + vs.length * size := by rw [Nat.add_mul, Nat.add_mul]; omega
    have hle : k * size + size ≤ cells.size := by rw [hc, hmul]; omega
    simp only [List.zipIdx_cons, List.map_cons]
    rw [fill_step (off := k * size) rfl hs hle]
    have hl3 : (put3 cells.toList (k * size) v.cells.toList).length = cells.size := by rw [put3_length (by simp [hs]; omega)]; simp
    rw [fill_all vs (k + 1) _ (fun u hu => hv u (List.mem_cons_of_mem _ hu)) (by rw [List.size_toArray, hl3, hc]; congr 1; omega)]
    congr 2
    simp only [List.flatMap_cons]
    rw [← List.append_assoc]
    congr 1
    rw [show (k + 1) * size = k * size + size by rw [Nat.add_mul]; omega]
    simp only [put3]
    rw [List.append_assoc, ← List.append_assoc]
    refine List.take_left' ?_
    simp [hs]
    omega

variable {a : Act} {w : World} {r : Rs}

/-- The values of parts. -/
theorem parts_rep (hi : Inv P st a w r) {s : Nat} : ∀ {xs : List Operand} {pvs : List PV}, xs.map st.use = pvs.map some → (∀ pv ∈ pvs, notTup pv.sh = true ∧ pv.cs.length = s ∧ pv.cs.all PC.plain = true) →
    (∀ v ∈ xs.map a.eval, v.cells.size = s ∧ ∀ y ∈ v.cells, y.oneCell' = true) ∧ ((xs.map a.eval).flatMap fun v => v.cells.toList).length = pvs.length * s ∧
    ∀ (i : Nat) (x : PC), (pvs.map (·.cs)).flatten[i]? = some x → ∃ u, ((xs.map a.eval).flatMap fun v => v.cells.toList)[i]? = some u ∧ RepS w r.Sh x u
  | [], [], _, _ => by simp
  | x :: xs, pv :: pvs, hu, hp => by
    simp only [List.map_cons, List.cons.injEq] at hu
    obtain ⟨h1, h2, h3⟩ := hp pv (List.mem_cons_self ..)
    obtain ⟨i1, i2, i3⟩ := parts_rep hi hu.2 fun q hq => hp q (List.mem_cons_of_mem _ hq)
    obtain ⟨hf, hc⟩ := hi.use hu.1
    obtain ⟨f1, f2, f3, _⟩ := fits_flat hf (fun l hl => by rw [hl] at h1; simp [notTup] at h1)
    have hsz : (a.eval x).cells.size = s := by rw [← h2, ← f1]; simp
    refine ⟨fun v hv => ?_, ?_, fun i z hz => ?_⟩
    · simp only [List.map_cons, List.mem_cons] at hv
      rcases hv with rfl | hv
      · exact ⟨hsz, f3⟩
      · exact i1 v hv
    · simp only [List.map_cons, List.flatMap_cons, List.length_append, i2, f1, h2, List.length_cons, Nat.add_mul]; omega
    · simp only [List.map_cons, List.flatten_cons, List.getElem?_append] at hz
      simp only [List.map_cons, List.flatMap_cons]
      split at hz
      · rename_i hlt
        obtain ⟨h4, _⟩ := hc i z hz
        have h5 := plain_rep (List.all_eq_true.1 h3 z (List.mem_of_getElem? hz)) h4
        refine ⟨_, ?_, h5⟩
        rw [List.getElem?_append_left (by rw [f1]; exact hlt), f2, List.getD_eq_getElem?_getD]
        have : i < (flat (a.eval x)).length := by rw [← f2, f1]; exact hlt
        rw [List.getElem?_eq_getElem this]; rfl
      · rename_i hge
        obtain ⟨u, hu', hr⟩ := i3 _ z hz
        exact ⟨u, by rw [List.getElem?_append_right (by rw [f1]; omega), f1]; exact hu', hr⟩
  | [], _ :: _, hu, _ => by simp at hu
  | _ :: _, [], hu, _ => by simp at hu

/-- A row of parts. -/
theorem OpOK.rowOf {d : Nat} {t e : TypeId} {n s by' : Nat} {parts : Array (Nat × Operand)} {xs : List Operand} {pvs : List PV} (ho : o.op = .buildSlice t n parts) (hod : o.dst = some d) (hd : st.okd d) (ht : P.underlying t = some (.slice e)) (he : P.elem? e = some (s, by')) (hs0 : 0 < s)
    (hparts : parts.toList = (xs.zipIdx 0).map fun x => (x.2, x.1)) (hn : n = xs.length) (hsmall : n * s ≤ 2 ^ 24) (hu : xs.map st.use = pvs.map some) (hp : (pvs.all fun pv => notTup pv.sh && Nat.beq pv.cs.length s && pv.cs.all PC.plain) = true) :
    OpOK P o st (st.assign d ⟨.one, [.own e (pvs.map (·.cs))]⟩) := by
  intro a w r hi K Q hK
  obtain ⟨i, z, hi', hz, hsize, hbytes, hzs, hcs, hsz⟩ := elem?_spec he
  have hp' : ∀ pv ∈ pvs, notTup pv.sh = true ∧ pv.cs.length = s ∧ pv.cs.all PC.plain = true := fun pv hpv => by
    have := List.all_eq_true.1 hp pv hpv
    simp only [Bool.and_eq_true] at this
    exact ⟨this.1.1, Nat.eq_of_beq_eq_true this.1.2, this.2⟩
  obtain ⟨h1, h2, h3⟩ := parts_rep hi hu hp'
  have hlen : pvs.length = xs.length := by have := congrArg List.length hu; simpa using this.symm
  let vals := (xs.map a.eval).flatMap fun v => v.cells.toList
  have hvl : vals.length = n * s := by rw [hn, ← hlen]; exact h2
  have hfill := fill_all (size := s) (xs.map a.eval) 0 ((Array.range (n * s)).map fun j => (z.cells)[j % z.cells.size]!) (fun v hv => (h1 v hv).1) (by simp [hn])
  have hrun : (execOp a.eval o).run P w = .ok (.value (.slice (some ⟨w.heap.size, 0, none⟩) n n)) (w.alloc (.cells vals.toArray e)) := by
    have hpm : (parts.map fun x => (x.1, a.eval x.2)).toList = ((xs.map a.eval).zipIdx 0).map fun x => (x.2, x.1) := by
      rw [Array.toList_map, hparts, List.zipIdx_map]
      simp [List.map_map, Function.comp_def]
    have hbig : ¬ (n * s > 2 ^ 24) := by omega
    simp only [Nat.zero_mul, List.take_zero, List.nil_append] at hfill
    have hz0 : ((if n * s = 0 then (pure #[] : Sem (Array Value)) else do pure (← zeroValue e).cells)).run P w = .ok (if n * s = 0 then #[] else z.cells) w := by
      split
      · rfl
      · simp [zeroValue, typeInfo, hi', hz]
    have hfill' : Instr.fill (fun i => some (i * s, s)) ((Array.range (n * s)).map fun j => ((if n * s = 0 then #[] else z.cells : Array Value))[j % (if n * s = 0 then #[] else z.cells : Array Value).size]!) (parts.map fun x => (x.1, a.eval x.2)).toList = some vals.toArray := by
      rw [hpm, ← hfill]
      by_cases h0 : n * s = 0
      · have hr0 : Array.range 0 = #[] := rfl
        rw [h0, hr0]; simp only [Array.map_empty]
      · rw [if_neg h0]
    simp only [execOp, ho, Instr.buildSlice, Sem.run_bind, Sem.run_pure, Result.andThen_ok, run_underlying ht, run_sizeOf hsz]
    rw [Sem.run_ite, if_neg hbig]
    by_cases h0 : n * s = 0
    · simp only [if_pos h0] at hfill'
      rw [if_pos h0]
      simp only [Sem.run_bind, Sem.run_pure, Result.andThen_ok, hfill']
      simp [newRow]
    · simp only [if_neg h0] at hfill'
      rw [if_neg h0]
      simp only [Sem.run_bind, Sem.run_pure, Result.andThen_ok, zeroValue, typeInfo, run_program, hi', hz, hfill']
      simp [newRow]
  have hsm : n ≤ 2 ^ 24 := Nat.le_trans (Nat.le_mul_of_pos_right n hs0) hsmall
  have hrow := World.ownsRow_lit (base := 0) (e := e) (size := s) w vals.toArray n (Nat.zero_le _) (by simp only [maxLen]; omega) (by simpa using hvl)
  have hel : ∀ el ∈ pvs.map (·.cs), el.length = s := fun el hel => by obtain ⟨pv, hpv, rfl⟩ := List.mem_map.1 hel; exact (hp' pv hpv).2.1
  have hown : RepOwn P (w.alloc (.cells vals.toArray e)) r.Sh e (pvs.map (·.cs)) (.slice (some ⟨w.heap.size, 0, none⟩) n n) (Value.slice (some ⟨w.heap.size, 0, none⟩) n n).ownBlock := by
    refine ⟨vals, by rw [hcs, List.length_map, hlen, ← hn]; exact hrow, rfl, by rw [hcs]; exact hel, fun i x hx => ?_⟩
    obtain ⟨u, hu', hr⟩ := h3 i x hx
    exact ⟨u, hu', hr.mono (fun _ h => h) (fun g hg => heap_alloc_old w _ g (hi.sh g hg).1)⟩
  have hblk : ∀ g, (Value.slice (some ⟨w.heap.size, 0, none⟩) n n).ownBlock = some g → w.heap.size ≤ g := fun g hg => by simp [Value.ownBlock] at hg; omega
  have hinv := hi.newRow (w' := w.alloc (.cells vals.toArray e)) hd hown (fun g hg => heap_alloc_old w _ g hg) (by simp) hblk
  unfold Oper.wp
  rw [hrun, Oper.upon_value, hod]
  rw [hod] at hK
  exact hK _ (w.alloc (.cells vals.toArray e)) _ St.assign_m hinv (by rw [St.assign_bx]; exact Step.newRow (w := w) (w' := w.alloc (.cells vals.toArray e)) rfl rfl rfl (fun g hg => heap_alloc_old w (.cells vals.toArray e) g hg) (by simp) hblk)

/-- A row made of a length. -/
theorem OpOK.make {d : Nat} {t e : TypeId} {x y : Operand} {k k' : IntKind} {n : Int} {s by' : Nat} {z : List Value} (ho : o.op = .makeSlice t x y) (hod : o.dst = some d) (hd : st.okd d) (ht : P.underlying t = some (.slice e)) (he : P.elem? e = some (s, by')) (hs0 : 0 < s) (hz : P.zero? e = some z)
    (hz1 : z.all (·.oneCell') = true) (hx : st.use x = some ⟨.one, [.sc (.int k n)]⟩) (hy : st.use y = some ⟨.one, [.sc (.int k' n)]⟩) (h0 : 0 ≤ n) (h1 : n ≤ 9223372036854775807) (h2 : n * by' ≤ 140737488355328) :
    OpOK P o st (st.assign d ⟨.one, [.own e (List.replicate n.toNat (z.map zeroPC))]⟩) := by
  intro a w r hi K Q hK
  obtain ⟨i, zv, hi', hzv, hsize, hbytes, hzs, hcs, hsz⟩ := elem?_spec he
  have hzz : z = zv.cells.toList := by
    simp only [Program.zero?, hi', Option.bind_some, hzv, Option.map_some, Option.some.injEq] at hz
    exact hz.symm
  have e1 := (hi.use hx).out_sc
  have e2 := (hi.use hy).out_sc
  obtain ⟨m, rfl⟩ := Int.eq_ofNat_of_zero_le h0
  have hbm : i.bytes * m ≤ 281474976710656 := by
    rw [hbytes]
    have h3 : ((m * by' : Nat) : Int) ≤ 140737488355328 := by rw [Int.natCast_mul]; exact h2
    have : m * by' ≤ 140737488355328 := by omega
    rw [Nat.mul_comm]; omega
  obtain ⟨w', h3, h4, h5⟩ := run_make_full (P := P) w 0 t e i zv s ht hi' hzv hsize k k' m hbm (by simp only [maxLen]; omega) (Nat.zero_le _)
  have hrun : (execOp a.eval o).run P w = .ok (.value (.slice (some ⟨w.heap.size, 0, none⟩) m m)) w' := by
    simp [execOp, ho, e1, e2, h3]
  have hzl : z.length = s := by rw [hzz]; simpa using hzs
  have hown : RepOwn P w' r.Sh e (List.replicate m (z.map zeroPC)) (.slice (some ⟨w.heap.size, 0, none⟩) m m) (Value.slice (some ⟨w.heap.size, 0, none⟩) m m).ownBlock := by
    have hel : ∀ el ∈ List.replicate m (z.map zeroPC), el.length = s := fun el hel => by rw [List.eq_of_mem_replicate hel]; simpa using hzl
    refine ⟨_, by rw [hcs, List.length_replicate]; exact h4, rfl, by rw [hcs]; exact hel, fun j x hx => ?_⟩
    have hlt : j < m * s := by have := (List.getElem?_eq_some_iff.1 hx).1; rw [flatten_length hel, List.length_replicate] at this; exact this
    obtain ⟨el, h6, h7⟩ := flatten_split hs0 hel hx
    have : el = z.map zeroPC := List.eq_of_mem_replicate (List.mem_of_getElem? h6)
    subst this
    rw [List.getElem?_map, Option.map_eq_some_iff] at h7
    obtain ⟨u, hu, rfl⟩ := h7
    have hu1 := List.all_eq_true.1 hz1 u (List.mem_of_getElem? hu)
    refine ⟨u, ?_, (zeroPC_rep (r := r) (w := w') hu1)⟩
    have hjs : j % s < zv.cells.size := by rw [hzs]; exact Nat.mod_lt _ hs0
    have hu' : zv.cells[j % s] = u := by
      rw [hzz, Array.getElem?_toList, Array.getElem?_eq_getElem hjs] at hu
      exact Option.some.inj hu
    simp only [madeCells, Array.toList_map, List.getElem?_map, Array.toList_range]
    rw [List.getElem?_range hlt]
    simp only [Option.map_some, Option.some.injEq]
    rw [getElem!_pos zv.cells (j % zv.cells.size) (Nat.mod_lt _ (by omega))]
    simp only [hzs]
    exact hu'
  have hblk : ∀ g, (Value.slice (some ⟨w.heap.size, 0, none⟩) m m).ownBlock = some g → w.heap.size ≤ g := fun g hg => by simp [Value.ownBlock] at hg; omega
  have hinv := hi.newRow hd hown (fun g hg => h5.block g hg (by simp)) h5.size hblk
  unfold Oper.wp
  rw [hrun, Oper.upon_value, hod]
  rw [hod] at hK
  exact hK _ _ _ St.assign_m hinv (by rw [St.assign_bx]; exact Step.newRow h5.os h5.tape h5.output (fun g hg => h5.block g hg (by simp)) h5.size hblk)


/-! An element stored into. -/
theorem Inv.reown (hi : Inv P st a w r) {p : Place} {e : TypeId} {xs xs' : List (List PC)} (hp : st.at p = some (.own e xs)) {w' : World} (hown : RepOwn P w' r.Sh e xs' (alpha a w r p) (r.γ p))
    (hw : ∀ g, g < w.heap.size → r.γ p ≠ some g → w'.heap[g]? = w.heap[g]?) (hs : w.heap.size ≤ w'.heap.size) : Inv P (st.setAt p (.own e xs')) a w' r := by
  have hat := fun q => St.at_setAt (x := .own e xs') hp q
  have hlen := St.setAt_len (st := st) (p := p) (x := .own e xs')
  have hSh : ∀ g, r.Sh g → w'.heap[g]? = w.heap[g]? := fun g hg => hw g (hi.sh g hg).1 fun e => (hi.sh g hg).2.1 p e
  have hβ : ∀ b, b < st.bx.length → w'.heap[r.β b]? = w.heap[r.β b]? := fun b hb => hw _ (hi.X_lt (.inr ⟨b, hb, rfl⟩)) fun e => hi.exb p _ b e hb rfl
  have hal : ∀ q, st.ex q → alpha a w' r q = alpha a w r q := by
    intro q hq
    cases q with
    | t t c => rfl
    | b b c => exact alpha_box_eq rfl (hβ b hq)
  have hex : ∀ q x, st.at q = some x → st.ex q := fun q x hq => by
    cases q with
    | t t c => obtain ⟨pv, h1, _⟩ := St.at_tmp hq; exact ⟨pv, h1⟩
    | b b c => exact (St.at_box hq).1
  have hlv : ∀ q, (st.setAt p (.own e xs')).lives q → st.lives q := by
    intro q ⟨y, h1, h2⟩
    rw [hat] at h1
    split at h1
    · rename_i hq; subst hq; exact ⟨_, hp, by simp⟩
    · exact ⟨y, h1, h2⟩
  have hexs : ∀ q, st.ex q → (st.setAt p (.own e xs')).ex q := by
    intro q hq
    cases q with
    | t k c =>
      obtain ⟨pv, hq⟩ := hq
      cases p with
      | t t d =>
        simp only [St.ex, St.setAt]
        split
        · rw [St.get_rep]; split
          · exact ⟨_, rfl⟩
          · exact ⟨pv, hq⟩
        · exact ⟨pv, hq⟩
      | b b d => exact ⟨pv, hq⟩
    | b b c => simp only [St.ex, hlen]; exact hq
  refine ⟨by rw [St.setAt_n]; exact hi.sz, by rw [St.setAt_m, hlen]; exact hi.m, fun t pv' ht => ?_, fun b cs' hb => ?_, fun q x hx => ?_, fun q x q' hx hq' => ?_, fun q g hg => ?_, hi.inj, by rw [hlen]; exact hi.exb, by rw [hlen]; exact hi.bb, fun g hg => ?_, hi.defers, LaidFacts.mono (fun _ h => h) hSh hi.lw, by rw [St.setAt_fx]; exact hi.fx⟩
  · obtain ⟨pv, h1, h2, h3⟩ := St.get_setAt ht
    obtain ⟨v, h4, h5⟩ := hi.tm t pv h1
    exact ⟨v, h4, by rw [← h2, ← h3]; exact h5⟩
  · cases p with
    | t t c =>
      have hb' : st.bx[b]? = some cs' := by
        simp only [St.setAt] at hb
        split at hb <;> exact hb
      obtain ⟨⟨vals, e', h1, h2⟩, h3⟩ := hi.bx b cs' hb'
      exact ⟨⟨vals, e', by rw [hβ b (List.getElem?_eq_some_iff.1 hb').1]; exact h1, h2⟩, h3⟩
    | b b' c =>
      simp only [St.setAt, List.getElem?_modify] at hb
      obtain ⟨cs, h1, h2⟩ := Option.map_eq_some_iff.1 hb
      obtain ⟨⟨vals, e', h3, h4, h5⟩, h6⟩ := hi.bx b cs h1
      refine ⟨⟨vals, e', by rw [hβ b (List.getElem?_eq_some_iff.1 h1).1]; exact h3, by rw [h4]; subst h2; split <;> simp, h5⟩, fun x hx => ?_⟩
      subst h2
      split at hx
      · rcases List.mem_or_eq_of_mem_set hx with h7 | rfl
        · exact h6 x h7
        · rfl
      · exact h6 x hx
  · rw [hat] at hx
    split at hx
    · rename_i hq; subst hq; cases hx
      rw [hal q (hex q _ hp)]
      exact hown
    · rename_i hq
      rw [hal q (hex q x hx)]
      exact (hi.cell q x hx).mono (fun _ h => h) hSh (fun g hg => hw g (hi.X_lt (.inl ⟨q, hg⟩)) fun e => hq (hi.inj q p g hg e)) (fun b hb => ⟨by rw [hlen]; exact hb, rfl⟩) (fun q' hq' hl => ⟨hlv q' hl, hal q' (hi.nm q x q' hx hq')⟩)
  · rw [hat] at hx
    split at hx
    · cases hx; simp [PC.names] at hq'
    · exact hexs q' (hi.nm q x q' hx hq')
  · obtain ⟨e', ys, h1⟩ := hi.live q g hg
    by_cases hq : q = p
    · subst hq; exact ⟨e, xs', by rw [hat, if_pos rfl]⟩
    · exact ⟨e', ys, by rw [hat, if_neg hq]; exact h1⟩
  · obtain ⟨h1, h2, h3⟩ := hi.sh g hg
    exact ⟨Nat.lt_of_lt_of_le h1 hs, h2, by rw [hlen]; exact h3⟩

theorem flatten_set {α : Type} {s : Nat} {xs : List (List α)} (hs : 0 < s) (hz : ∀ e ∈ xs, e.length = s) {i off : Nat} {el l : List α} (hi : xs[i]? = some el) (hle : off + l.length ≤ s) : (xs.set i (put3 el off l)).flatten = put3 xs.flatten (i * s + off) l := by
  have hel : el.length = s := hz el (List.mem_of_getElem? hi)
  have hil : i < xs.length := (List.getElem?_eq_some_iff.1 hi).1
  have hp : (put3 el off l).length = s := by rw [put3_length (by omega), hel]
  have hz' : ∀ e ∈ xs.set i (put3 el off l), e.length = s := fun e he => by
    rcases List.mem_or_eq_of_mem_set he with h | rfl
    · exact hz e h
    · exact hp
  have hfl := flatten_length hz
  have hmul : i * s + s ≤ xs.length * s := by rw [← Nat.succ_mul]; exact Nat.mul_le_mul_right s hil
  apply List.ext_getElem?
  intro k
  rw [put3_at (by rw [hfl]; omega)]
  by_cases hk : k < xs.length * s
  · have hki : k / s < xs.length := (Nat.div_lt_iff_lt_mul hs).2 hk
    have hkj : k % s < s := Nat.mod_lt _ hs
    have hkk : k / s * s + k % s = k := by rw [Nat.mul_comm]; exact Nat.div_add_mod k s
    have hold := flatten_at hz (List.getElem?_eq_getElem hki) (List.getElem?_eq_getElem (l := xs[k / s]) (i := k % s) (by rw [hz _ (List.getElem_mem hki)]; exact hkj))
    rw [hkk] at hold
    by_cases hik : k / s = i
    · subst hik
      have hnew := flatten_at (xs := xs.set (k / s) (put3 el off l)) hz' (i := k / s) (j := k % s) (e := put3 el off l) (x := (put3 el off l)[k % s]'(by rw [hp]; exact hkj)) (by rw [List.getElem?_set]; simp [hki]) (List.getElem?_eq_getElem _)
      rw [hkk] at hnew
      rw [hnew]
      have hee : xs[k / s] = el := by have := List.getElem?_eq_getElem hki; rw [hi] at this; exact (Option.some.inj this).symm
      have h3 := put3_at (cs := el) (off := off) (l := l) (by omega) (k % s)
      rw [List.getElem?_eq_getElem (by rw [hp]; exact hkj)] at h3
      rw [h3]
      by_cases hc : off ≤ k % s ∧ k % s < off + l.length
      · rw [if_pos hc, if_pos (by omega)]
        congr 1; omega
      · rw [if_neg hc, if_neg (by omega), hold]
        simp only [hee]
        rw [List.getElem?_eq_getElem (by rw [hel]; exact hkj)]
    · have hnew := flatten_at (xs := xs.set i (put3 el off l)) hz' (i := k / s) (j := k % s) (e := xs[k / s]) (x := xs[k / s][k % s]'(by rw [hz _ (List.getElem_mem hki)]; exact hkj)) (by rw [List.getElem?_set, if_neg (fun h => hik h.symm)]; exact List.getElem?_eq_getElem hki) (List.getElem?_eq_getElem _)
      rw [hkk] at hnew
      have hnot : ¬ (i * s + off ≤ k ∧ k < i * s + off + l.length) := by
        rintro ⟨h1, h2⟩
        apply hik
        have h4 : i ≤ k / s := (Nat.le_div_iff_mul_le hs).2 (by omega)
        have h5 : k / s < i + 1 := (Nat.div_lt_iff_lt_mul hs).2 (by rw [Nat.add_mul]; omega)
        omega
      rw [hnew, if_neg hnot, hold]
  · rw [List.getElem?_eq_none (by rw [flatten_length hz', List.length_set]; omega), if_neg (by omega), List.getElem?_eq_none (by omega)]

theorem OpOK.storeEl {t : TypeId} {x y : Operand} {p : Place} {i off n s : Nat} {e : TypeId} {xs : List (List PC)} {el : List PC} {pv : PV} (ho : o.op = .store t x y) (hd : o.dst = none) (hs : P.size? t = some n) (hx : st.use x = some ⟨.one, [.el p i off s]⟩) (hp : st.at p = some (.own e xs)) (hes : P.cellsOf e = s) (hs0 : 0 < s)
    (hy : st.use y = some pv) (hsh : notTup pv.sh = true) (hn : pv.cs.length = n) (hle : off + n ≤ s) (hpl : pv.cs.all PC.plain = true) (hel : xs[i]? = some el) :
    OpOK P o st (st.setAt p (.own e (xs.set i (put3 el off pv.cs)))) := by
  intro a w r hi K Q hK
  obtain ⟨_, hxc, _⟩ := (hi.use hx).out
  have hlv : st.lives p := ⟨_, hp, by simp⟩
  have hv := hxc.2 hlv
  obtain ⟨hf, hcc⟩ := hi.use hy
  obtain ⟨f1, f2, f3, _⟩ := fits_flat hf (fun l hl => by rw [hl] at hsh; simp [notTup] at hsh)
  have hc := hi.cell p _ hp
  simp only [RepC] at hc
  obtain ⟨vals, ho1, ho2, ho3, ho4⟩ := hc
  subst hes
  have hil : i < xs.length := (List.getElem?_eq_some_iff.1 hel).1
  rcases ho1.2 with ⟨_, hnil⟩ | ⟨g, cap, cur, hav, _, hh, hnc, hcm, hcs, htake⟩
  · omega
  · rw [hav] at hv
    simp only [elVal, add_mk, Nat.zero_add] at hv
    have hsz : (a.eval y).cells.size = n := by rw [← hn, ← f1]; simp
    have hmul : i * P.cellsOf e + P.cellsOf e ≤ xs.length * P.cellsOf e := by rw [← Nat.succ_mul]; exact Nat.mul_le_mul_right _ hil
    have hcap : xs.length * P.cellsOf e ≤ cap * P.cellsOf e := Nat.mul_le_mul_right _ hnc
    have hrun := execOp_store (P := P) (a := a) (w := w) ho hv rfl (by rw [hs, hsz]) hh (by rw [hsz, hcs]; omega) f3
    have hγ : r.γ p = some g := by rw [← ho2, hav]; rfl
    let l := (a.eval y).cells.toList
    have hll : l.length = n := by show (a.eval y).cells.toList.length = n; simpa using hsz
    have hvl := ho1.1
    have hnew : (w.setRow g (put3 cur.toList (i * P.cellsOf e + off) l).toArray).heap[g]? = some (.cells (put3 cur.toList (i * P.cellsOf e + off) l).toArray e (0, 0)) := setRow_heap w g _ _ e (0, 0) hh
    have hcl : cur.toList.length = cap * P.cellsOf e := by simpa using hcs
    have hput : (put3 cur.toList (i * P.cellsOf e + off) l).length = cap * P.cellsOf e := by rw [put3_length (by rw [hcl, hll]; omega), hcl]
    have htk : (put3 cur.toList (i * P.cellsOf e + off) l).take (xs.length * P.cellsOf e) = put3 vals (i * P.cellsOf e + off) l := by
      apply List.ext_getElem?
      intro k
      rw [put3_at (by rw [hvl, hll]; omega), List.getElem?_take, put3_at (by rw [hcl, hll]; omega), ← htake, List.getElem?_take]
      by_cases hk : k < xs.length * P.cellsOf e
      · rw [if_pos hk, if_pos hk]
      · rw [if_neg hk, if_neg hk, if_neg (by rw [hll]; omega)]
    have hown : RepOwn P (w.setRow g (put3 cur.toList (i * P.cellsOf e + off) l).toArray) r.Sh e (xs.set i (put3 el off pv.cs)) (alpha a w r p) (r.γ p) := by
      have hpv : off + pv.cs.length ≤ P.cellsOf e := by omega
      refine ⟨put3 vals (i * P.cellsOf e + off) l, ⟨by rw [put3_length (by rw [hvl, hll]; omega), hvl, List.length_set], .inr ⟨g, cap, _, by rw [hav, List.length_set], Nat.zero_le _, hnew, by rw [List.length_set]; exact hnc, hcm, by rw [List.size_toArray]; exact hput, by rw [List.length_set]; exact htk⟩⟩, ho2, fun z hz => ?_, fun k x hx => ?_⟩
      · rcases List.mem_or_eq_of_mem_set hz with h | rfl
        · exact ho3 z h
        · rw [put3_length (by rw [ho3 el (List.mem_of_getElem? hel)]; omega)]; exact ho3 el (List.mem_of_getElem? hel)
      · rw [flatten_set hs0 ho3 hel hpv, put3_at (by rw [flatten_length ho3]; omega)] at hx
        rw [put3_at (by rw [hvl, hll]; omega)]
        have hSh : ∀ k, r.Sh k → (w.setRow g (put3 cur.toList (i * P.cellsOf e + off) l).toArray).heap[k]? = w.heap[k]? := fun k hk => setRow_other w g k _ fun e => (hi.sh k hk).2.1 p (by rw [hγ, e])
        split at hx
        · rename_i hcond
          obtain ⟨h6, _⟩ := hcc _ x hx
          have h7 := plain_rep (List.all_eq_true.1 hpl x (List.mem_of_getElem? hx)) h6
          rw [if_pos (by rw [hll, ← hn]; exact hcond)]
          have hlt : k - (i * P.cellsOf e + off) < l.length := by rw [hll, ← hn]; omega
          refine ⟨l[k - (i * P.cellsOf e + off)], List.getElem?_eq_getElem hlt, ?_⟩
          have hfl : (flat (a.eval y)).getD (k - (i * P.cellsOf e + off)) undef = l[k - (i * P.cellsOf e + off)] := by
            rw [← f2, List.getD_eq_getElem?_getD, List.getElem?_eq_getElem hlt]; rfl
          rw [hfl] at h7
          exact h7.mono (fun _ h => h) hSh
        · rename_i hcond
          obtain ⟨u, hu, hru⟩ := ho4 k x hx
          rw [if_neg (by rw [hll, ← hn]; exact hcond)]
          exact ⟨u, hu, hru.mono (fun _ h => h) hSh⟩
    have hinv := hi.reown hp hown (fun k hk hne => setRow_other w g k _ fun e => hne (by rw [hγ, e])) (by simp [World.setRow])
    unfold Oper.wp
    rw [hrun, Oper.upon_skip, hd]
    rw [hd] at hK
    exact hK undef _ r St.setAt_m hinv (by rw [St.setAt_len]; exact Step.setRow (.inl ⟨p, hγ⟩) rfl rfl (fun _ h => h))

end
end Go.Proofs.YtaikjjlbfdkgmaaDoor.E
