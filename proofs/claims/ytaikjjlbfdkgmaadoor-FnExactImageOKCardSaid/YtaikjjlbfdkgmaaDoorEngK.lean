/- The engine, part K: rows that a place owns: grown, made, stored into. Plain lemmas; no program. -/
import Derived.Test.YtaikjjlbfdkgmaaDoorEngJ
set_option linter.unusedVariables false
set_option linter.unusedSectionVars false
set_option linter.unusedSimpArgs false
namespace Go.Proofs.YtaikjjlbfdkgmaaDoor.E
open Go.RowKit
variable [LaidFacts]

section
variable {P : Program}

/-- An element type's count of cells and of bytes. -/
def _root_.Go.Program.elem? (P : Program) (e : TypeId) : Option (Nat × Nat) :=
  match P.info? e with
  | some i => match i.zero with
    | some z => if z.cells.size = i.size then some (i.size, i.bytes) else none
    | none => none
  | none => none

theorem elem?_spec {e : TypeId} {s b : Nat} (h : P.elem? e = some (s, b)) : ∃ i z, P.info? e = some i ∧ i.zero = some z ∧ i.size = s ∧ i.bytes = b ∧ z.cells.size = s ∧ P.cellsOf e = s ∧ P.size? e = some s := by
  unfold Program.elem? at h
  split at h
  · rename_i i hi
    split at h
    · rename_i z hz
      split at h
      · rename_i hs
        simp only [Option.some.injEq, Prod.mk.injEq] at h
        exact ⟨i, z, hi, hz, h.1, h.2, hs.trans h.1, by simp [Program.cellsOf, hi, h.1], by simp [Program.size?, hi, h.1]⟩
      · cases h
    · cases h
  · cases h

theorem append_spec (w : World) (t ty e : TypeId) {s by' : Nat} (ht : P.underlying t = some (.slice e)) (he : P.elem? e = some (s, by')) (hs0 : 0 < s) {v : Value} {n : Nat} {xs : List Value} (hown : w.ownsRow 0 e s v n xs)
    (a : Addr) (m c : Nat) (news : List Value) (hl : news.length = m * s) (hnews : ∀ (j : Nat) (u : Value), news[j]? = some u → w.cell? (a.add j) = some u) (h1 : ∀ u ∈ news, u.oneCell' = true) (h63 : n + m ≤ maxLen) (hbytes : (n + m) * by' ≤ 140737488355328) :
    ∃ v' w', (Builtin.append_ #[t, t] ty #[v, .slice (some a) m c]).run P w = .ok v' w' ∧ w'.ownsRow 0 e s v' (n + m) (xs ++ news) ∧ w.grownBy w' v.ownBlock ∧ ∀ g, v'.ownBlock = some g → v.ownBlock = some g ∨ w.heap.size ≤ g := by
  obtain ⟨i, z, hi, hz, hsize, hby, hzs, _, _⟩ := elem?_spec he
  rcases hown.2 with ⟨rfl, rfl⟩ | ⟨g, cap, cur, rfl, hbg, hg, hnc, hcm, hcs, htake⟩
  · have hx : xs = [] := List.eq_nil_of_length_eq_zero (by simpa using hown.1)
    subst hx
    obtain ⟨v', w', h2, h3, h4, _⟩ := run_append_own (P := P) w w.heap.size t ty e i z s by' ht hi hz hsize hby hzs hs0 (.slice none 0 0) 0 [] (World.ownsRow_nil w _ e s) a m c news hl hnews h1 h63 hbytes (Nat.le_refl _)
    refine ⟨v', w', h2, ⟨h3.1, ?_⟩, h4, fun g hg => .inr (h3.lt g hg).1⟩
    rcases h3.2 with h5 | ⟨g, cap, cur, h5, h6, h7⟩
    · exact .inl h5
    · exact .inr ⟨g, cap, cur, h5, Nat.zero_le _, h7⟩
  · by_cases hroom : n + m ≤ cap
    · obtain ⟨w', h2, h3, h4⟩ := run_append_fits (P := P) w 0 t ty e i s ht hi hsize g n cap xs hown a m c news hl hnews h1 hroom
      exact ⟨_, w', h2, h3, h4, fun k hk => .inl hk⟩
    · subst hsize
      subst hby
      have hsmall : ((n + m : Nat) : Int) ≤ 9223372036854775807 := by simp only [maxLen] at h63; omega
      have holds : ∀ (j : Nat) (u : Value), xs[j]? = some u → w.cell? ((⟨g, 0, none⟩ : Addr).add j) = some u := hown.cells (g := g) rfl
      have hr := run_append_grow (P := P) w t ty e i z ht hi hz ⟨g, 0, none⟩ n cap xs hown.1 holds a m c news hl hnews (by omega) hsmall (growslice_fits (by omega) hbytes)
      have hlen : (xs ++ news).length = (n + m) * i.size := by rw [List.length_append, hown.1, hl, Nat.add_mul]
      have hge := grownCap_ge w (n + m) cap e
      refine ⟨_, _, hr, ⟨hlen, .inr ⟨w.heap.size, _, _, rfl, Nat.zero_le _, heap_alloc_new w.drew _, hge, grownCap_le_maxLen w (n + m) cap e h63, ?_, ?_⟩⟩, ⟨rfl, rfl, rfl, by simp, fun k hk _ => heap_alloc_old w.drew _ k hk⟩, fun k hk => ?_⟩
      · simp only [Array.size_append, List.size_toArray, size_zeroCells, hzs, hown.1, hl, ← Nat.add_mul]
        congr 1
        omega
      · simp only [Array.toList_append, List.append_assoc]
        rw [← List.append_assoc, ← hlen]
        exact List.take_left
      · simp only [Value.ownBlock, Option.some.injEq] at hk
        exact .inr (by omega)

/-- A string's bytes, as cells. -/
def strVals (b : ByteArray) : List Value := b.data.toList.map fun x => Value.int .u8 (x.toNat : Int)
def strRow (b : ByteArray) : List (List PC) := b.data.toList.map fun x => [PC.sc (.int .u8 (x.toNat : Int))]
theorem strVals_length (b : ByteArray) : (strVals b).length = b.size := by simp only [strVals, List.length_map, Array.length_toList]; rfl
theorem strRow_length (b : ByteArray) : (strRow b).length = b.size := by simp only [strRow, List.length_map, Array.length_toList]; rfl
theorem run_firstCells_str (w : World) (b : ByteArray) (size : Nat) : (Builtin.firstCells size b.size (.string b)).run P w = .ok (strVals b).toArray w := by
  have hx : (Array.map (fun b : UInt8 => Value.int IntKind.u8 (b.toNat : Int)) b.data).extract 0 b.size = Array.map (fun b : UInt8 => Value.int IntKind.u8 (b.toNat : Int)) b.data := by
    have hs : b.size = (Array.map (fun b : UInt8 => Value.int IntKind.u8 (b.toNat : Int)) b.data).size := by rw [Array.size_map]; rfl
    rw [hs, Array.extract_size]
  simp [Builtin.firstCells, hx]
  apply Array.ext'
  simp [strVals]
theorem append_specS (w : World) (t u ty e : TypeId) {by' : Nat} (ht : P.underlying t = some (.slice e)) (hu : P.underlying u = some .string) (he : P.elem? e = some (1, by')) {v : Value} {n : Nat} {xs : List Value} (hown : w.ownsRow 0 e 1 v n xs)
    (b : ByteArray) (h63 : n + b.size ≤ maxLen) (hbytes : (n + b.size) * by' ≤ 140737488355328) :
    ∃ v' w', (Builtin.append_ #[t, u] ty #[v, .string b]).run P w = .ok v' w' ∧ w'.ownsRow 0 e 1 v' (n + b.size) (xs ++ strVals b) ∧ w.grownBy w' v.ownBlock ∧ ∀ g, v'.ownBlock = some g → v.ownBlock = some g ∨ w.heap.size ≤ g := by
  obtain ⟨i, z, hi, hz, hsize, hby, hzs, _, _⟩ := elem?_spec he
  have hf := run_firstCells_str (P := P) w b
  have h1 : ∀ u ∈ strVals b, u.oneCell' = true := fun u hu => by obtain ⟨x, _, rfl⟩ := List.mem_map.1 hu; rfl
  have hvl := strVals_length b
  rcases hown.2 with ⟨rfl, rfl⟩ | ⟨g, cap, cur, rfl, hbg, hg, hnc, hcm, hcs, htake⟩
  · have hx : xs = [] := List.eq_nil_of_length_eq_zero (by simpa using hown.1)
    subst hx
    by_cases h0 : b.size = 0
    · have hs : strVals b = [] := List.eq_nil_of_length_eq_zero (by omega)
      refine ⟨.slice none 0 0, w, ?_, by rw [h0, hs]; exact World.ownsRow_nil w 0 e 1, ⟨rfl, rfl, rfl, Nat.le_refl _, fun _ _ _ => rfl⟩, fun g hg => by cases hg⟩
      have hf' := hf 1
      rw [h0] at hf'
      simp [Builtin.append_, run_underlying ht, run_underlying hu, sizeOf, typeInfo, hi, Builtin.lenOf, h0, hsize, hf']
    · have hr := run_append_nil_string (P := P) (w := w) t u ty e i z ht hu hi hz b (by omega) (by simp only [maxLen] at h63; omega) (by rw [hby]; rw [Nat.zero_add] at hbytes; omega)
      have hge := grownCap_ge w b.size 0 e
      refine ⟨_, _, hr, ⟨by simp [hvl], .inr ⟨w.heap.size, _, _, by rw [Nat.zero_add], Nat.zero_le _, heap_alloc_new w.drew _, by omega, grownCap_le_maxLen w b.size 0 e (by omega), ?_, ?_⟩⟩, ⟨rfl, rfl, rfl, by simp, fun k hk _ => heap_alloc_old w.drew _ k hk⟩, fun k hk => ?_⟩
      · simp only [Array.size_append, Array.size_map, size_zeroCells, hzs]
        have : b.data.size = b.size := rfl
        omega
      · have e1 : (b.data.map (fun b => Value.int .u8 (b.toNat : Int))).toList = strVals b := by simp [strVals]
        rw [Array.toList_append, e1, List.nil_append, Nat.zero_add, Nat.mul_one, ← hvl]
        exact List.take_left
      · simp only [Value.ownBlock, Option.some.injEq] at hk
        exact .inr (by omega)
  · by_cases hroom : n + b.size ≤ cap
    · have hfit : n * i.size + (strVals b).length ≤ cur.size := by rw [hvl, hcs, hsize]; omega
      have hst := run_storeCells_at P g (n * i.size) e (strVals b) 0 cur w hg (by simpa using hfit) h1
      simp only [Nat.add_zero] at hst
      have hr : (Builtin.append_ #[t, u] ty #[.slice (some ⟨g, 0, none⟩) n cap, .string b]).run P w = .ok (.slice (some ⟨g, 0, none⟩) (n + b.size) cap) (w.setRow g (cur.toList.take (n * i.size) ++ strVals b ++ cur.toList.drop (n * i.size + (strVals b).length)).toArray) := by
        simp [Builtin.append_, run_underlying ht, run_underlying hu, sizeOf, typeInfo, hi, Builtin.lenOf, hroom, hf, Addr.add_lit, hst]
      have hlen : (xs ++ strVals b).length = (n + b.size) * 1 := by rw [List.length_append, hown.1, hvl]; omega
      refine ⟨_, _, hr, ⟨hlen, .inr ⟨g, cap, _, rfl, hbg, setRow_heap w g cur _ e _ hg, hroom, hcm, ?_, ?_⟩⟩, ⟨rfl, rfl, rfl, by simp, fun k _ hk => setRow_other w g k _ (fun e => hk (by rw [e]; rfl))⟩, fun k hk => .inl hk⟩
      · simp only [List.size_toArray, List.length_append, List.length_take, List.length_drop, Array.length_toList]
        omega
      · rw [hsize, htake, ← hlen]
        exact List.take_left
    · have hsmall : ((n + b.size : Nat) : Int) ≤ 9223372036854775807 := by simp only [maxLen] at h63; omega
      have holds : ∀ (j : Nat) (u : Value), xs[j]? = some u → w.cell? ((⟨g, 0, none⟩ : Addr).add j) = some u := hown.cells (g := g) rfl
      have hn : ¬ (n + b.size ≤ cap) := hroom
      have h63' : ¬ (9223372036854775807 < ((n : Int) + (b.size : Int))) := by omega
      have h48' : ¬ (281474976710656 < Builtin.nextslicecap (n + b.size) cap * i.bytes) := by
        have := growslice_fits (need := n + b.size) (old := cap) (bytes := i.bytes) (by omega) (by rw [hby]; exact hbytes)
        omega
      have hfo := run_firstCells_some (P := P) w.drew i.size n ⟨g, 0, none⟩ n cap xs (by rw [hown.1, hsize]) (by simpa using holds)
      have hfs := run_firstCells_str (P := P) w.drew b
      have hr : (Builtin.append_ #[t, u] ty #[.slice (some ⟨g, 0, none⟩) n cap, .string b]).run P w = .ok (.slice (some ⟨w.heap.size, 0, none⟩) (n + b.size) (grownCap w (n + b.size) cap e))
          (w.drew.alloc (.cells (xs.toArray ++ (strVals b).toArray ++ Builtin.zeroCells z.cells (grownCap w (n + b.size) cap e - (n + b.size))) e)) := by
        simp [Builtin.append_, run_underlying ht, run_underlying hu, sizeOf, typeInfo, zeroValue, hi, hz, Builtin.lenOf, hn, h63', h48', Question.forced, hfs, hfo, newRow, grownCap]
        congr 2
        apply Array.ext'
        simp [List.append_assoc]
      have hlen : (xs ++ strVals b).length = (n + b.size) * 1 := by rw [List.length_append, hown.1, hvl]; omega
      have hge := grownCap_ge w (n + b.size) cap e
      refine ⟨_, _, hr, ⟨hlen, .inr ⟨w.heap.size, _, _, rfl, Nat.zero_le _, heap_alloc_new w.drew _, hge, grownCap_le_maxLen w (n + b.size) cap e h63, ?_, ?_⟩⟩, ⟨rfl, rfl, rfl, by simp, fun k hk _ => heap_alloc_old w.drew _ k hk⟩, fun k hk => ?_⟩
      · simp only [Array.size_append, List.size_toArray, size_zeroCells, hzs, hown.1, hvl]
        omega
      · simp only [Array.toList_append, List.append_assoc]
        rw [← List.append_assoc, ← hlen]
        exact List.take_left
      · simp only [Value.ownBlock, Option.some.injEq] at hk
        exact .inr (by omega)

variable {st : St} {a : Act} {w : World} {r : Rs}

theorem flatten_length {α : Type} {s : Nat} : ∀ {xs : List (List α)}, (∀ e ∈ xs, e.length = s) → xs.flatten.length = xs.length * s
  | [], _ => by simp
  | y :: ys, h => by
    have := flatten_length (xs := ys) fun e he => h e (List.mem_cons_of_mem _ he)
    have hy := h y (List.mem_cons_self ..)
    simp only [List.flatten_cons, List.length_append, this, hy, List.length_cons, Nat.add_mul]
    omega

theorem flatten_split {α : Type} {s : Nat} (hs : 0 < s) {xs : List (List α)} (hz : ∀ e ∈ xs, e.length = s) {k : Nat} {x : α} (h : xs.flatten[k]? = some x) : ∃ e, xs[k / s]? = some e ∧ e[k % s]? = some x := by
  have hlt : k < xs.length * s := by rw [← flatten_length hz]; exact (List.getElem?_eq_some_iff.1 h).1
  have hi : k / s < xs.length := (Nat.div_lt_iff_lt_mul hs).2 hlt
  have hj : k % s < xs[k / s].length := by rw [hz _ (List.getElem_mem hi)]; exact Nat.mod_lt _ hs
  have h2 := flatten_at hz (List.getElem?_eq_getElem hi) (List.getElem?_eq_getElem hj)
  rw [show k / s * s + k % s = k by rw [Nat.mul_comm]; exact Nat.div_add_mod k s] at h2
  refine ⟨_, List.getElem?_eq_getElem hi, ?_⟩
  rw [List.getElem?_eq_getElem hj]
  rw [h] at h2
  exact h2.symm

/-- A row that reads, as the values of its cells. -/
theorem RowRep.news {Sh : Nat → Prop} {s : Nat} {xs : List (List PC)} {v : Value} (hs : 0 < s) (h : RowRep w Sh s xs v) (hne : xs ≠ []) :
    ∃ ad c, ∃ news : List Value, v = .slice (some ad) xs.length c ∧ news.length = xs.length * s ∧ (∀ el ∈ xs, el.length = s) ∧ (∀ (j : Nat) (u : Value), news[j]? = some u → w.cell? (ad.add j) = some u) ∧ (∀ u ∈ news, u.oneCell' = true) ∧
      ∀ (i : Nat) (x : PC), xs.flatten[i]? = some x → ∃ u, news[i]? = some u ∧ RepS w Sh x u := by
  obtain ⟨b, c, hv, hc, hb⟩ := h
  obtain ⟨k, off, rfl, hz, hcell⟩ := hb hne
  have hget : ∀ j, j < xs.length * s → ∃ u x, w.cell? ⟨k, off + j, none⟩ = some u ∧ xs.flatten[j]? = some x ∧ RepS w Sh x u := by
    intro j hj
    have hlt : j < xs.flatten.length := by rw [flatten_length hz]; exact hj
    obtain ⟨e, he, hx⟩ := flatten_split hs hz (List.getElem?_eq_getElem hlt)
    obtain ⟨u, hu, hr⟩ := hcell _ _ e _ he hx
    refine ⟨u, _, ?_, List.getElem?_eq_getElem hlt, hr⟩
    rw [← hu]; congr 2
    rw [Nat.add_assoc, Nat.mul_comm (j / s), Nat.div_add_mod]
  refine ⟨⟨k, off, none⟩, c, (List.range (xs.length * s)).map fun j => (w.cell? ⟨k, off + j, none⟩).getD undef, hv, by simp, hz, fun j u hj => ?_, fun u hu => ?_, fun i x hx => ?_⟩
  · by_cases hlt : j < xs.length * s
    · rw [List.getElem?_map, List.getElem?_eq_getElem (by simpa using hlt)] at hj
      simp only [List.getElem_range, Option.map_some, Option.some.injEq] at hj
      subst hj
      obtain ⟨u, x, hu, _⟩ := hget j hlt
      rw [add_mk, hu]; rfl
    · rw [List.getElem?_eq_none (by simpa using hlt)] at hj; cases hj
  · simp only [List.mem_map, List.mem_range] at hu
    obtain ⟨j, hj, rfl⟩ := hu
    obtain ⟨u, x, hu, _, hr⟩ := hget j hj
    rw [hu]; exact hr.one
  · have hlt : i < xs.length * s := by rw [← flatten_length hz]; exact (List.getElem?_eq_some_iff.1 hx).1
    obtain ⟨u, x', hu, hx', hr⟩ := hget i hlt
    rw [hx] at hx'; cases hx'
    exact ⟨u, by simp [hlt, hu], hr⟩

/-- Behind an append: the row it has read and the row it had. -/
theorem RepOwn.grown {Sh : Nat → Prop} {w' : World} {e : TypeId} {xs ys : List (List PC)} {vals news : List Value} {v' : Value} {s : Nat} (hs : P.cellsOf e = s) (hx : ∀ el ∈ xs, el.length = s) (hy : ∀ el ∈ ys, el.length = s) (hvl : vals.length = xs.length * s)
    (ho : w'.ownsRow 0 e s v' (xs.length + ys.length) (vals ++ news)) (hw : ∀ k, Sh k → w'.heap[k]? = w.heap[k]?)
    (hr : ∀ (i : Nat) (x : PC), xs.flatten[i]? = some x → ∃ u, vals[i]? = some u ∧ RepS w Sh x u) (hn : ∀ (i : Nat) (x : PC), ys.flatten[i]? = some x → ∃ u, news[i]? = some u ∧ RepS w Sh x u) :
    RepOwn P w' Sh e (xs ++ ys) v' v'.ownBlock := by
  refine ⟨vals ++ news, by rw [hs, List.length_append]; exact ho, rfl, fun el hel => ?_, fun i x hi => ?_⟩
  · rw [hs]
    rcases List.mem_append.1 hel with h | h
    · exact hx el h
    · exact hy el h
  · rw [List.flatten_append, List.getElem?_append] at hi
    split at hi
    · rename_i hlt
      obtain ⟨u, hu, hru⟩ := hr i x hi
      exact ⟨u, by rw [List.getElem?_append_left (List.getElem?_eq_some_iff.1 hu).1]; exact hu, hru.mono (fun _ h => h) hw⟩
    · rename_i hge
      obtain ⟨u, hu, hru⟩ := hn _ x hi
      have hfl := flatten_length hx
      exact ⟨u, by rw [List.getElem?_append_right (by omega), hvl, ← hfl]; exact hu, hru.mono (fun _ h => h) hw⟩

/-- The row is owned by a place, or is nil. -/
def St.ownedAt (st : St) (e : TypeId) (c : PC) : Option (Option Place × List (List PC)) :=
  match c with
  | .nl => some (none, [])
  | .al p => match st.at p with
    | some (.own e' xs) => if e' = e then some (some p, xs) else none
    | some .nl => some (none, [])
    | _ => none
  | _ => none
def St.killed (st : St) : Option Place → St
  | some p => st.setAt p .dead
  | none => st

theorem OpOK.append {o : Oper} {d : Nat} {x y : Operand} {t t' e : TypeId} {c c' : PC} {s by' : Nat} {q : Option Place} {xs ys : List (List PC)} (ho : o.op = .call { callee := .builtin .append, args := #[x, y], argTypes := #[t, t'] }) (hod : o.dst = some d) (hd : st.okd d)
    (ht : P.underlying t = some (.slice e)) (he : P.elem? e = some (s, by')) (hs0 : 0 < s) (hx : st.use x = some ⟨.one, [c]⟩) (hq : st.ownedAt e c = some (q, xs)) (hy : st.use y = some ⟨.one, [c']⟩) (hr : (t = t' ∧ (St.row P st 4 c' = some (s, ys) ∨ (∃ s', St.row P st 4 c' = some (s', ys) ∧ ys = []))) ∨ (P.underlying t' = some .string ∧ s = 1 ∧ ∃ b, c' = .sc (.string b) ∧ ys = strRow b))
    (hlen : xs.length + ys.length ≤ 9223372036854775807) (hby : (xs.length + ys.length) * by' ≤ 140737488355328) :
    OpOK P o st ((st.killed q).assign d ⟨.one, [.own e (xs ++ ys)]⟩) := by
  intro a w r hi K Q hK
  obtain ⟨i, z, hi', hz, hsize, hbytes, hzs, hcs, hsz⟩ := elem?_spec he
  obtain ⟨hx1, hxc, hxn⟩ := (hi.use hx).out
  obtain ⟨hy1, hyc, hyn⟩ := (hi.use hy).out
  clear hxn hyn hy1 hx1
  -- what the first row is
  have hown : ∃ vals : List Value, w.ownsRow 0 e s (a.eval x) xs.length vals ∧ (∀ el ∈ xs, el.length = s) ∧ (∀ (i : Nat) (x : PC), xs.flatten[i]? = some x → ∃ u, vals[i]? = some u ∧ RepS w r.Sh x u) ∧
      (∀ p, q = some p → r.γ p = (a.eval x).ownBlock ∧ ∃ y, st.at p = some y) ∧ (q = none → (a.eval x).ownBlock = none) := by
    cases c <;> simp only [St.ownedAt] at hq <;> try (cases hq; done)
    case nl =>
      simp only [Option.some.injEq, Prod.mk.injEq] at hq
      obtain ⟨rfl, rfl⟩ := hq
      have hv : a.eval x = .slice none 0 0 := by
        obtain ⟨_, hxc⟩ := hxc
        generalize a.eval x = v at hxc
        cases hxc with | s h => cases h; rfl
      rw [hv]
      exact ⟨[], World.ownsRow_nil w 0 e s, by simp, fun i x h => by simp at h, (fun _ h => nomatch h), (fun _ => rfl)⟩
    case al p =>
      generalize hpe : st.at p = spy at hq
      split at hq
      · rename_i e' xs'
        have hp := hpe
        split at hq
        · rename_i ee; subst ee
          simp only [Option.some.injEq, Prod.mk.injEq] at hq
          obtain ⟨rfl, rfl⟩ := hq
          have hv := hxc.2 ⟨_, hp, by simp⟩
          have hc := hi.cell p _ hp
          simp only [RepC] at hc
          obtain ⟨vals, h1, h2, h3, h4⟩ := hc
          rw [hcs] at h1 h3
          rw [hv]
          exact ⟨vals, h1, h3, h4, (fun _ h => by cases h; exact ⟨h2.symm, _, hp⟩), (fun h => nomatch h)⟩
        · cases hq
      · have hp := hpe
        simp only [Option.some.injEq, Prod.mk.injEq] at hq
        obtain ⟨rfl, rfl⟩ := hq
        have hv := hxc.2 ⟨_, hp, by simp⟩
        have hc := hi.cell p _ hp
        have hv' : alpha a w r p = .slice none 0 0 := by
          obtain ⟨_, hc⟩ := hc
          generalize alpha a w r p = v at hc
          cases hc with | s h => cases h; rfl
        rw [hv, hv']
        exact ⟨[], World.ownsRow_nil w 0 e s, by simp, fun i x h => by simp at h, (fun _ h => nomatch h), (fun _ => rfl)⟩
      · cases hq
  obtain ⟨vals, hown, hxl, hxr, hγs, hγn⟩ := hown
  have hvl : vals.length = xs.length * s := hown.1
  -- what the append leaves
  have hrun : ∃ v' w', (Builtin.append_ #[t, t'] o.type #[a.eval x, a.eval y]).run P w = .ok v' w' ∧ RepOwn P w' r.Sh e (xs ++ ys) v' v'.ownBlock ∧ w.grownBy w' (a.eval x).ownBlock ∧ ∀ g, v'.ownBlock = some g → (a.eval x).ownBlock = some g ∨ w.heap.size ≤ g := by
    have hSh : ∀ {w' : World}, w.grownBy w' (a.eval x).ownBlock → ∀ k, r.Sh k → w'.heap[k]? = w.heap[k]? := by
      intro w' hg k hk
      refine hg.block k (hi.sh k hk).1 fun e' => ?_
      cases q with
      | some p => exact (hi.sh k hk).2.1 p ((hγs p rfl).1.trans e'.symm)
      | none => rw [hγn rfl] at e'; cases e'
    rcases hr with ⟨rfl, hr⟩ | ⟨hu, rfl, b, rfl, rfl⟩
    rotate_left
    · have hv : a.eval y = .string b := by
        obtain ⟨_, hyc⟩ := hyc
        generalize a.eval y = v at hyc
        cases hyc with | s h => cases h; rfl
      rw [strRow_length] at hlen hby
      obtain ⟨v', w', h1, h2, h3, h4⟩ := append_specS (P := P) w t t' o.type e ht hu he hown b (by simp only [maxLen]; omega) hby
      rw [← hv] at h1
      refine ⟨v', w', h1, RepOwn.grown hcs hxl (fun el hel => by obtain ⟨x, _, rfl⟩ := List.mem_map.1 hel; rfl) hvl (by rw [strRow_length]; exact h2) (hSh h3) hxr (fun i x hx => ?_), h3, h4⟩
      have hfl : ∀ l : List UInt8, (l.map fun x => [PC.sc (.int .u8 (x.toNat : Int))]).flatten = l.map fun x => PC.sc (.int .u8 (x.toNat : Int)) := fun l => by
        induction l with
        | nil => rfl
        | cons y l ih => simp [ih]
      unfold strRow at hx
      rw [hfl, List.getElem?_map] at hx
      obtain ⟨y, hy, rfl⟩ := Option.map_eq_some_iff.1 hx
      exact ⟨_, by unfold strVals; rw [List.getElem?_map, hy]; rfl, .sc rfl⟩
    by_cases hne : ys = []
    · subst hne
      obtain ⟨s', b, cp, hv, _⟩ : ∃ s' b cp, a.eval y = .slice b 0 cp ∧ True := by
        rcases hr with hr | ⟨s', hr, _⟩
        · obtain ⟨b, cp, h, _⟩ := hi.row 4 hyc hr; exact ⟨s, b, cp, h, trivial⟩
        · obtain ⟨b, cp, h, _⟩ := hi.row 4 hyc hr; exact ⟨s', b, cp, h, trivial⟩
      have hr' : (Builtin.append_ #[t, t] o.type #[a.eval x, a.eval y]).run P w = .ok (a.eval x) w := by
        rw [hv]
        rcases hown.2 with ⟨h1, h2⟩ | ⟨g, cap, cur, h1, _, _, hnc, _⟩
        · rw [h1]; cases b <;> simp [Builtin.append_, run_underlying ht, sizeOf, typeInfo, hi', Builtin.lenOf, Builtin.firstCells, loadCells, loadCellsFrom]
        · rw [h1]; cases b <;> simp [Builtin.append_, run_underlying ht, sizeOf, typeInfo, hi', Builtin.lenOf, Builtin.firstCells, loadCells, loadCellsFrom, hnc, storeCells]
      refine ⟨_, w, hr', ?_, ⟨rfl, rfl, rfl, Nat.le_refl _, fun _ _ _ => rfl⟩, fun g hg => .inl hg⟩
      have := RepOwn.grown (P := P) (w := w) (w' := w) (Sh := r.Sh) (e := e) (ys := []) (news := []) (v' := a.eval x) hcs hxl (by simp) hvl (by simpa using hown) (fun _ _ => rfl) hxr (fun i x h => by simp at h)
      simpa using this
    · have hrow : RowRep w r.Sh s ys (a.eval y) := by
        rcases hr with hr | ⟨s', _, h⟩
        · exact hi.row 4 hyc hr
        · exact absurd h hne
      obtain ⟨ad, cp, news, hv, hnl, hyl, hncell, hn1, hnr⟩ := hrow.news hs0 hne
      obtain ⟨v', w', h1, h2, h3, h4⟩ := append_spec (P := P) w t o.type e ht he hs0 hown ad ys.length cp news hnl hncell hn1 (by simp only [maxLen]; omega) hby
      rw [← hv] at h1
      exact ⟨v', w', h1, RepOwn.grown hcs hxl hyl hvl h2 (hSh h3) hxr hnr, h3, h4⟩
  obtain ⟨v', w', hrun, hrep, hgrow, hblk⟩ := hrun
  unfold Oper.wp
  have hex : (execOp a.eval o).run P w = .ok (.value v') w' := by
    simp only [execOp, ho, resolve, invoke, builtin, Sem.run_bind, Sem.run_pure, Result.andThen_ok, List.map_toArray, List.map_cons, List.map_nil, hrun]
  rw [hex, Oper.upon_value, hod]
  rw [hod] at hK
  have h1 : v'.oneCell' = true := by
    obtain ⟨vs, hvs, _⟩ := hrep
    rcases hvs.2 with ⟨rfl, _⟩ | ⟨_, _, _, rfl, _⟩ <;> rfl
  -- the frame without the place
  have key : ∀ (stk : St) (rk : Rs), Inv P stk a w rk → rk.Sh = r.Sh → rk.β = r.β → stk.n = st.n → stk.m = st.m → stk.fx = st.fx → rk.κ = r.κ → stk.bx.length = st.bx.length → (∀ p g, rk.γ p = some g → r.γ p = some g ∧ (a.eval x).ownBlock ≠ some g) →
      Inv P (stk.assign d ⟨.one, [.own e (xs ++ ys)]⟩) (a.put (some d) v') w' ((rk.dropT d).setT d fun c => if c = 0 then v'.ownBlock else none) ∧
      Step st.m w r st.bx.length w' ((rk.dropT d).setT d fun c => if c = 0 then v'.ownBlock else none) st.bx.length := by
    intro stk rk hk hSh hβ hn hm hfx hκ hlen' hγk
    have hnotown : ∀ g, (a.eval x).ownBlock = some g → ¬ rk.Sh g ∧ ¬ rk.X stk.bx.length g := by
      intro g hg
      have hγg : ∃ p, r.γ p = some g := by
        cases q with
        | some p => exact ⟨p, (hγs p rfl).1.trans hg⟩
        | none => rw [hγn rfl] at hg; cases hg
      obtain ⟨p, hp⟩ := hγg
      refine ⟨fun hs => (hi.sh g (hSh ▸ hs)).2.1 p hp, fun hx => ?_⟩
      rcases hx with ⟨p', hp'⟩ | ⟨b, hb, hbe⟩
      · exact (hγk p' g hp').2 hg
      · rw [hβ] at hbe; exact hi.exb p g b hp (by omega) hbe
    have hw : Inv P stk a w' rk := hk.world (fun g hg => hgrow.block g (by rcases hg with h | h; exact (hk.sh g h).1; exact hk.X_lt h) (fun e' => by
      have := hnotown g e'.symm
      rcases hg with h | h
      · exact this.1 h
      · exact this.2 h)) hgrow.size
    refine ⟨hw.assign ⟨by rw [hn]; exact hd.1, by rw [hfx]; exact hd.2⟩ ⟨rfl, h1⟩ (fun c x hx => ?_) (fun c x q hx hn => ?_) (fun c g hg => ?_) (fun c c' g hg hg' => ?_), ?_⟩
    · cases c with
      | zero =>
        simp only [List.getElem?_cons_zero, Option.some.injEq] at hx
        subst hx
        refine ⟨fun q hq => by simp [PC.names] at hq, ?_⟩
        rw [flat_one h1]
        simp only [RepC, if_true]
        rw [hSh]
        exact hrep
      | succ c => simp at hx
    · cases c with
      | zero => simp only [List.getElem?_cons_zero, Option.some.injEq] at hx; subst hx; simp [PC.names] at hn
      | succ c => simp at hx
    · split at hg
      · rename_i e0; subst e0
        refine ⟨⟨e, _, rfl⟩, ?_⟩
        have hX : ∀ g, (rk.dropT d).X stk.bx.length g → rk.X stk.bx.length g := fun g hx => by
          rcases hx with ⟨p, hp⟩ | hb
          · simp only [Rs.dropT] at hp
            split at hp
            · cases hp
            · exact .inl ⟨p, hp⟩
          · exact .inr hb
        rcases hblk g hg with h2 | h2
        · exact ⟨(hnotown g h2).1, fun hx => (hnotown g h2).2 (hX g hx)⟩
        · exact ⟨fun hs => by have := (hk.sh g hs).1; omega, fun hx => by have := hk.X_lt (hX g hx); omega⟩
      · cases hg
    · split at hg <;> split at hg' <;> first | omega | (cases hg; done) | (cases hg'; done)
    · have hXown : ∀ g, (a.eval x).ownBlock = some g → r.X st.bx.length g := fun g hg => by
        cases q with
        | some p => exact .inl ⟨p, (hγs p rfl).1.trans hg⟩
        | none => rw [hγn rfl] at hg; cases hg
      refine ⟨hgrow.os, hgrow.tape, hgrow.output, hgrow.size, fun g hg hx => hgrow.block g hg (fun e' => hx (hXown g e'.symm)), fun g hg => hSh ▸ hg, fun g hg => .inl (hSh ▸ hg), fun g hg => ?_, fun b _ => by show rk.β b = r.β b; rw [hβ], hκ⟩
      rcases hg with ⟨p, hp⟩ | ⟨b, hb, hbe⟩
      · cases p with
        | t k c =>
          simp only [Rs.setT, Rs.dropT] at hp
          split at hp
          · split at hp
            · rcases hblk g hp with h2 | h2
              · exact .inl (hXown g h2)
              · exact .inr h2
            · cases hp
          · split at hp
            · cases hp
            · exact .inl (.inl ⟨_, (hγk _ g hp).1⟩)
        | b b c =>
          simp only [Rs.setT, Rs.dropT, Place.isT] at hp
          exact .inl (.inl ⟨_, (hγk _ g (by simpa using hp)).1⟩)
      · have : rk.β b = g := hbe
        rw [hβ] at this
        exact .inl (.inr ⟨b, hb, this⟩)
  cases q with
  | none =>
    obtain ⟨h2, h3⟩ := key st r hi rfl rfl rfl rfl rfl rfl rfl (fun p g hp => ⟨hp, by rw [hγn rfl]; simp⟩)
    exact hK v' w' _ (by rw [St.assign_m]; rfl) h2 (by rw [St.assign_bx]; exact h3)
  | some p =>
    obtain ⟨hγ1, y', hpy⟩ := hγs p rfl
    obtain ⟨h2, h3⟩ := key (st.setAt p .dead) (r.clr p false) (hi.kill hpy) (by funext g; simp [Rs.clr]) rfl St.setAt_n St.setAt_m St.setAt_fx rfl St.setAt_len (fun p' g hp' => by
      simp only [Rs.clr] at hp'
      split at hp'
      · cases hp'
      · rename_i hne
        refine ⟨hp', fun hg => hne ?_⟩
        exact hi.inj p' p g hp' (hγ1.trans hg))
    exact hK v' w' _ (by rw [St.assign_m]; exact St.setAt_m) h2 (by rw [St.assign_bx]; simp only [St.killed, St.setAt_len]; exact h3)

end
end Go.Proofs.YtaikjjlbfdkgmaaDoor.E
