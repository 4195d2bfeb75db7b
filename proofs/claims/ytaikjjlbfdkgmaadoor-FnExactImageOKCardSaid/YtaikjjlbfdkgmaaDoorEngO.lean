/- The engine, part O: operations carried out by computation. Plain lemmas; no program. -/
import Derived.Test.YtaikjjlbfdkgmaaDoorEngN
import Derived.KernelRfl
set_option linter.unusedVariables false
set_option linter.unusedSectionVars false
set_option linter.unusedSimpArgs false
namespace Go.Proofs.YtaikjjlbfdkgmaaDoor.E
open Go.RowKit
variable [LaidFacts]

/-- All of them hold. -/
def AllP : List Prop → Prop
  | [] => True
  | c :: l => c ∧ AllP l

/-- A binary operation: what must hold, what it yields. -/
def evInt (op : BinOp) (k : IntKind) (a b : Int) : Option (List Prop × Value) :=
  match op with
  | .add => some ([], .int k (k.wrap (a + b)))
  | .sub => some ([], .int k (k.wrap (a - b)))
  | .mul => some ([], .int k (k.wrap (a * b)))
  | .quo => some ([b ≠ 0], .int k (k.wrap (a.tdiv b)))
  | .rem => some ([b ≠ 0], .int k (a.tmod b))
  | .eql => some ([], .bool (decide (a = b)))
  | .neq => some ([], .bool (!decide (a = b)))
  | .lss => some ([], .bool (decide (a < b)))
  | .leq => some ([], .bool (decide (a ≤ b)))
  | .gtr => some ([], .bool (decide (b < a)))
  | .geq => some ([], .bool (decide (b ≤ a)))
  | _ => none
def evStr (op : BinOp) (a b : ByteArray) : Option (List Prop × Value) :=
  match op with
  | .add => some ([a.size + b.size ≤ 9223372036854775807], .string (a ++ b))
  | .eql => some ([], .bool (decide (a = b)))
  | .neq => some ([], .bool (!decide (a = b)))
  | .lss => some ([], .bool (Op.bytesLess a.toList b.toList))
  | _ => none
def sameKind : IntKind → IntKind → Bool
  | .i8, .i8 | .i16, .i16 | .i32, .i32 | .i64, .i64 | .u8, .u8 | .u16, .u16 | .u32, .u32 | .u64, .u64 => true
  | _, _ => false
def evBin (d : Option TypeDesc) (op : BinOp) (x y : PC) : Option (List Prop × Value) :=
  match x, y with
  | .sc (.int k a), .sc (.int k' b) => match sameKind k k' with
    | true => evInt op k a b
    | false => none
  | .sc (.string a), .sc (.string b) => evStr op a b
  | .sc (.bool a), .sc (.bool b) => match d, op with
    | some .bool, .eql => some ([], .bool (a == b))
    | some .bool, .neq => some ([], .bool (!(a == b)))
    | _, _ => none
  | _, _ => none

theorem sameKind_eq {k k' : IntKind} (h : sameKind k k' = true) : k = k' := by cases k <;> cases k' <;> first | rfl | cases h

theorem evInt_spec {op : BinOp} {k : IntKind} {a b : Int} {c : List Prop} {v : Value} (h : evInt op k a b = some (c, v)) (hc : AllP c) : intV op k a b = some v := by
  cases op <;> simp only [evInt] at h <;> first
    | (cases h; done)
    | (cases h; rfl)
    | (cases h; simp only [intV]; rw [if_neg hc.1])
theorem evStr_spec {op : BinOp} {a b : ByteArray} {c : List Prop} {v : Value} (h : evStr op a b = some (c, v)) (hc : AllP c) : strV op a b = some v := by
  cases op <;> simp only [evStr] at h <;> first
    | (cases h; done)
    | (cases h; rfl)
    | (cases h; simp only [strV]; rw [if_pos hc.1])
theorem evBin_spec {d : Option TypeDesc} {op : BinOp} {x y : PC} {c : List Prop} {v : Value} (h : evBin d op x y = some (c, v)) (hc : AllP c) : binV d op x y = some v := by
  unfold evBin at h
  split at h
  · split at h
    · rename_i hk
      have := sameKind_eq hk
      subst this
      simp only [binV, if_true]
      exact evInt_spec h hc
    · cases h
  · exact evStr_spec h hc
  · split at h <;> first | (cases h; done) | (cases h; rfl)
  · cases h

section
variable {P : Program}

/-- One cell. -/
def one? : Option PV → Option PC
  | some ⟨.one, [c]⟩ => some c
  | _ => none
theorem one?_eq {x : Option PV} {c : PC} (h : one? x = some c) : x = some ⟨.one, [c]⟩ := by
  unfold one? at h
  split at h
  · cases h; rfl
  · cases h

def elPC : PC → List PC → Nat → Nat → Option PC
  | .sl _ _, el, _, _ => some (.cel el 0)
  | .al p, _, i, s => some (.el p i 0 s)
  | .vw p lo _ _, _, i, s => some (.el p (lo + i) 0 s)
  | _, _, _, _ => none

/-- An operation that reads: what must hold, its value; elements that are met are told ahead. -/
def evRd (P : Program) (st : St) (hs : List (List PC)) (o : Oper) : Option (List Prop × PV × List (List PC)) :=
  match o.op with
  | .move x | .assign x => (st.use x).map fun pv => ([], pv, hs)
  | .pick c x y => match one? (st.use c) with
    | some (.sc (.bool true)) => (st.use x).map fun pv => ([], pv, hs)
    | some (.sc (.bool false)) => (st.use y).map fun pv => ([], pv, hs)
    | _ => none
  | .binOp op t x y _ => match one? (st.use x), one? (st.use y) with
    | some c, some d => (evBin (P.underlying t) op c d).map fun v => (v.1, ⟨.one, [.sc v.2]⟩, hs)
    | _, _ => none
  | .unOp .not _ x => match one? (st.use x) with
    | some (.sc (.bool b)) => some ([], ⟨.one, [.sc (.bool (!b))]⟩, hs)
    | _ => none
  | .unOp .neg _ x => match one? (st.use x) with
    | some (.sc (.int k n)) => some ([], ⟨.one, [.sc (.int k (k.wrap (0 - n)))]⟩, hs)
    | _ => none
  | .convert s t x => match P.underlying s, P.underlying t, one? (st.use x) with
    | some _, some (.int k), some (.sc (.int _ n)) => some ([], ⟨.one, [.sc (.int k (k.wrap n))]⟩, hs)
    | some (.int _), some .string, some (.sc (.int _ n)) => some ([], ⟨.one, [.sc (.string (Utf8.encode n))]⟩, hs)
    | some .string, some .string, some (.sc (.string b)) => some ([], ⟨.one, [.sc (.string b)]⟩, hs)
    | _, _, _ => none
  | .call { callee := .builtin .len, args := as, argTypes := ts } => match as.toList, ts.toList with
    | [x], [t] => match P.underlying t, one? (st.use x) with
      | some .string, some (.sc (.string b)) => some ([], ⟨.one, [.sc (.int .i64 (b.size : Int))]⟩, hs)
      | some (.slice _), some c => (St.row P st 4 c).map fun r => ([], ⟨.one, [.sc (.int .i64 (r.2.length : Int))]⟩, hs)
      | _, _ => none
    | _, _ => none
  | .index t x y => match P.underlying t, one? (st.use x), one? (st.use y) with
    | some .string, some (.sc (.string b)), some (.sc (.int _ i)) => some ([0 ≤ i, i < (b.size : Int)], ⟨.one, [.sc (.int .u8 (byteAt b i))]⟩, hs)
    | _, _, _ => none
  | .indexAddr t x y => match P.underlying t, one? (st.use x), one? (st.use y), hs with
    | some (.slice e), some c, some (.sc (.int _ i)), el :: hs => match P.size? e, St.row P st 4 c with
      | some s, some (s', xs) => match Nat.beq s s', elPC c el i.toNat s with
        | true, some d => some ([0 ≤ i, xs[i.toNat]? = some el], ⟨.one, [d]⟩, hs)
        | _, _ => none
      | _, _ => none
    | _, _, _, _ => none
  | .fieldAddr t x j => match P.underlying t, one? (st.use x) with
    | some (.struct fs), some c => match fs[j]? with
      | some f => match P.size? f.type, c.at f.offset with
        | some (_ + 1), some d => match c with
          | .ref b off => match st.bx[b]? with
            | some cs => match Nat.ble off cs.length with | true => some ([], ⟨.one, [d]⟩, hs) | false => none
            | none => none
          | .cel cs off => match Nat.ble off cs.length with | true => some ([], ⟨.one, [d]⟩, hs) | false => none
          | .el p i off s => match hs, (st.at p).bind (St.row P st 3) with
            | el :: hs, some (s', xs) => match Nat.beq s' s, Nat.ble off el.length with | true, true => some ([xs[i]? = some el], ⟨.one, [d]⟩, hs) | _, _ => none
            | _, _ => none
          | _ => none
        | _, _ => none
      | none => none
    | _, _ => none
  | .load t x => match P.agg? t, P.size? t, one? (st.use x) with
    | some false, some 1, some c => (rdCells c 1).bind fun x => match x.2.1 with | [d] => some (x.1, ⟨.one, [d]⟩, x.2.2) | _ => none
    | some true, some n, some c => (rdCells c n).map fun x => (x.1, ⟨.agg, x.2.1⟩, x.2.2)
    | _, _, _ => none
  | _ => none
where
  rdCells (c : PC) (n : Nat) : Option (List Prop × List PC × List (List PC)) :=
    match c with
    | .ref b off => match st.bx[b]? with
      | some cs => match Nat.ble (off + n) cs.length with | true => some ([], seenAll (.b b) off ((cs.drop off).take n), hs) | false => none
      | none => none
    | .cel cs off => match Nat.ble (off + n) cs.length with | true => some ([], (cs.drop off).take n, hs) | false => none
    | .el p i off s => match hs, (st.at p).bind (St.row P st 3) with
      | el :: hs, some (s', xs) => match Nat.beq s' s, Nat.ble (off + n) el.length with | true, true => some ([xs[i]? = some el], (el.drop off).take n, hs) | _, _ => none
      | _, _ => none
    | _ => none

theorem rdCells_spec {st : St} {hs hs' : List (List PC)} {c : PC} {n : Nat} {q : List Prop} {l : List PC} (h : evRd.rdCells P st hs c n = some (q, l, hs')) (hq : AllP q) : st.cellsAt P c n = some l := by
  unfold evRd.rdCells at h
  split at h
  · rename_i b off
    split at h
    · rename_i cs hcs
      split at h
      · rename_i hle
        simp only [Option.some.injEq, Prod.mk.injEq] at h
        obtain ⟨_, rfl, _⟩ := h
        simp only [St.cellsAt, hcs, Option.bind_some]
        rw [if_pos (Nat.le_of_ble_eq_true hle)]
      · cases h
    · cases h
  · split at h
    · rename_i hle
      simp only [Option.some.injEq, Prod.mk.injEq] at h
      obtain ⟨_, rfl, _⟩ := h
      simp only [St.cellsAt]
      rw [if_pos (Nat.le_of_ble_eq_true hle)]
    · cases h
  · split at h
    · rename_i el hs2 s' xs hrow
      split at h
      · rename_i hs3 hle
        simp only [Option.some.injEq, Prod.mk.injEq] at h
        obtain ⟨rfl, rfl, _⟩ := h
        simp only [St.cellsAt, hrow, Option.bind_some]
        rw [if_pos (Nat.eq_of_beq_eq_true hs3), hq.1, Option.bind_some, if_pos (Nat.le_of_ble_eq_true hle)]
      · cases h
    · cases h
  · cases h

theorem evRd_spec {st : St} {hs hs' : List (List PC)} {o : Oper} {q : List Prop} {pv : PV} (h : evRd P st hs o = some (q, pv, hs')) (hq : AllP q) : Reads P o st pv := by
  unfold evRd at h
  split at h
  · rename_i x ho
    obtain ⟨z, hz, he⟩ := Option.map_eq_some_iff.1 h
    simp only [Prod.mk.injEq] at he; obtain ⟨_, rfl, _⟩ := he
    exact Reads.move (.inl ho) hz
  · rename_i x ho
    obtain ⟨z, hz, he⟩ := Option.map_eq_some_iff.1 h
    simp only [Prod.mk.injEq] at he; obtain ⟨_, rfl, _⟩ := he
    exact Reads.move (.inr ho) hz
  · rename_i c x y ho
    split at h
    · rename_i hc
      obtain ⟨z, hz, he⟩ := Option.map_eq_some_iff.1 h
      simp only [Prod.mk.injEq] at he; obtain ⟨_, rfl, _⟩ := he
      exact Reads.pick (b := true) ho (one?_eq hc) hz
    · rename_i hc
      obtain ⟨z, hz, he⟩ := Option.map_eq_some_iff.1 h
      simp only [Prod.mk.injEq] at he; obtain ⟨_, rfl, _⟩ := he
      exact Reads.pick (b := false) ho (one?_eq hc) hz
    · cases h
  · rename_i op t x y t' ho
    split at h
    · rename_i c d hc hd
      obtain ⟨z, hz, he⟩ := Option.map_eq_some_iff.1 h
      simp only [Prod.mk.injEq] at he; obtain ⟨rfl, rfl, _⟩ := he
      exact Reads.binOp ho (one?_eq hc) (one?_eq hd) (evBin_spec hz hq)
    · cases h
  · rename_i t x ho
    split at h
    · rename_i hx
      simp only [Option.some.injEq, Prod.mk.injEq] at h; obtain ⟨_, rfl, _⟩ := h
      exact Reads.not ho (one?_eq hx)
    · cases h
  · rename_i t x ho
    split at h
    · rename_i hx
      simp only [Option.some.injEq, Prod.mk.injEq] at h; obtain ⟨_, rfl, _⟩ := h
      exact Reads.neg ho (one?_eq hx)
    · cases h
  · rename_i s t x ho
    split at h
    · rename_i h1 h2 h3
      simp only [Option.some.injEq, Prod.mk.injEq] at h; obtain ⟨_, rfl, _⟩ := h
      exact Reads.toInt ho h1 h2 (one?_eq h3)
    · rename_i h1 h2 h3
      simp only [Option.some.injEq, Prod.mk.injEq] at h; obtain ⟨_, rfl, _⟩ := h
      exact Reads.charStr ho h1 h2 (one?_eq h3)
    · rename_i h1 h2 h3
      simp only [Option.some.injEq, Prod.mk.injEq] at h; obtain ⟨_, rfl, _⟩ := h
      exact Reads.toStr ho h1 h2 (one?_eq h3)
    · cases h
  · rename_i as ts ho
    split at h
    · rename_i x t has hts
      have e1 : as = #[x] := by apply Array.toList_inj.1; simpa using has
      have e2 : ts = #[t] := by apply Array.toList_inj.1; simpa using hts
      subst e1 e2
      split at h
      · rename_i h1 h2
        simp only [Option.some.injEq, Prod.mk.injEq] at h; obtain ⟨_, rfl, _⟩ := h
        exact Reads.lenStr ho h1 (one?_eq h2)
      · rename_i h1 h2
        obtain ⟨z, hz, he⟩ := Option.map_eq_some_iff.1 h
        simp only [Prod.mk.injEq] at he; obtain ⟨_, rfl, _⟩ := he
        exact Reads.lenRow ho h1 (one?_eq h2) hz
      · cases h
    · cases h
  · rename_i t x y ho
    split at h
    · rename_i h1 h2 h3
      simp only [Option.some.injEq, Prod.mk.injEq] at h; obtain ⟨rfl, rfl, _⟩ := h
      exact Reads.byte ho h1 (one?_eq h2) (one?_eq h3) hq.1 hq.2.1
    · cases h
  · rename_i t x y ho
    split at h
    · rename_i e c k i el hs2 h1 h2 h3
      split at h
      · rename_i s s' xs h4 h5
        split at h
        · rename_i d h6 h7
          simp only [Option.some.injEq, Prod.mk.injEq] at h; obtain ⟨rfl, rfl, _⟩ := h
          have hss := Nat.eq_of_beq_eq_true h6
          subst hss
          have hlt := (List.getElem?_eq_some_iff.1 hq.2.1).1
          refine Reads.addrOf ho h1 h4 (one?_eq h2) (one?_eq h3) h5 hq.1 (by omega) ?_
          cases c <;> simp only [elPC] at h7 <;> first | (cases h7; done) | (cases h7; simp [hq.2.1]) 
        · cases h
      · cases h
    · cases h
  · rename_i t x j ho
    split at h
    · rename_i fs c h1 h2
      split at h
      · rename_i f h3
        split at h
        · rename_i n d h4 h5
          split at h
          · rename_i b off
            split at h
            · rename_i cs h6
              split at h
              · rename_i h7
                simp only [Option.some.injEq, Prod.mk.injEq] at h; obtain ⟨_, rfl, _⟩ := h
                exact Reads.field ho h1 h3 h4 (one?_eq h2) (by simp only [St.cellsAt, h6, Option.bind_some, Nat.add_zero]; rw [if_pos (Nat.le_of_ble_eq_true h7)]; rfl) h5
              · cases h
            · cases h
          · split at h
            · rename_i h7
              simp only [Option.some.injEq, Prod.mk.injEq] at h; obtain ⟨_, rfl, _⟩ := h
              exact Reads.field ho h1 h3 h4 (one?_eq h2) (by simp only [St.cellsAt, Nat.add_zero]; rw [if_pos (Nat.le_of_ble_eq_true h7)]; rfl) h5
            · cases h
          · split at h
            · rename_i el hs2 s' xs hrow
              split at h
              · rename_i hs3 hle
                simp only [Option.some.injEq, Prod.mk.injEq] at h
                obtain ⟨rfl, rfl, _⟩ := h
                exact Reads.field ho h1 h3 h4 (one?_eq h2) (by simp only [St.cellsAt, hrow, Option.bind_some, Nat.add_zero]; rw [if_pos (Nat.eq_of_beq_eq_true hs3), hq.1, Option.bind_some, if_pos (Nat.le_of_ble_eq_true hle)]; rfl) h5
              · cases h
            · cases h
          · cases h
        · cases h
      · cases h
    · cases h
  · rename_i t x ho
    split at h
    · rename_i c h1 h2 h3
      obtain ⟨z, hz, he⟩ := Option.bind_eq_some_iff.1 h
      split at he
      · rename_i d hd
        simp only [Option.some.injEq, Prod.mk.injEq] at he; obtain ⟨rfl, rfl, _⟩ := he
        obtain ⟨z1, z2, z3⟩ := z
        simp only at hd hq
        subst hd
        exact Reads.loadOne ho h1 (one?_eq h3) (rdCells_spec hz hq)
      · cases he
    · rename_i n c h1 h2 h3
      obtain ⟨z, hz, he⟩ := Option.map_eq_some_iff.1 h
      simp only [Prod.mk.injEq] at he; obtain ⟨rfl, rfl, _⟩ := he
      obtain ⟨z1, z2, z3⟩ := z
      exact Reads.loadAgg ho h1 h2 (one?_eq h3) (rdCells_spec hz hq)
    · cases h
  · cases h

end
end Go.Proofs.YtaikjjlbfdkgmaaDoor.E
