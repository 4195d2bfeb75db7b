/- Loops of printed functions in general form: over a list, by an index: a list made element by element, two lists compared, what is left of a bound. Plain lemmas. -/
import Derived.Test.YtaikjjlbfdkgmaaDoorWWords
set_option linter.unusedVariables false
set_option linter.unusedSimpArgs false
namespace Go.Proofs.YtaikjjlbfdkgmaaDoorW.Loops
open Go.RowKit Go.Proofs.YtaikjjlbfdkgmaaDoorW.PrintWords

theorem wrap_next {i n : Nat} (h : i < n) (hn : n ≤ 9223372036854775807) : wrap64 ((i : Int) + 1) = ((i + 1 : Nat) : Int) := by
  unfold wrap64
  omega

theorem ev_step {α : Type} {g : Nat → Option α} {r : α} (f : Nat → Option α) (h : ∀ k, g (k + 1) = f k) (k : Ev f r) : Ev g r := Ev.step h k
theorem ev_congr {α : Type} {g : Nat → Option α} {r : α} (f : Nat → Option α) (h : ∀ k, g k = f k) (k : Ev f r) : Ev g r := Ev.congr h k
theorem ev_some {α : Type} {r : α} : Ev (fun _ => some r) r := Ev.now r
theorem ev_bind {α β : Type} {g : Nat → Option α} {f : Nat → α → Option β} {r : β} (a : α) (h : Ev g a) (k : Ev (fun n => f n a) r) : Ev (fun n => (g n).bind (f n)) r := Ev.bind h k
theorem ev_map {α β : Type} {g : Nat → Option α} {a : α} (f : α → β) (h : Ev g a) : Ev (fun n => (g n).map f) (f a) := by
  obtain ⟨K, h⟩ := h
  exact ⟨K, fun k hk => by simp [h k hk]⟩
theorem ev_eq {α : Type} {g : Nat → Option α} {a b : α} (h : Ev g a) (e : a = b) : Ev g b := e ▸ h

theorem ev_const {α : Type} {o : Option α} {a : α} (h : o = some a) : Ev (fun _ => o) a := ⟨0, fun _ _ => h⟩
theorem ev_if_pos {α : Type} {c : Prop} [Decidable c] {f g : Nat → Option α} {r : α} (h : c) (k : Ev f r) : Ev (fun n => if c then f n else g n) r := by simpa [h] using k
theorem ev_if_neg {α : Type} {c : Prop} [Decidable c] {f g : Nat → Option α} {r : α} (h : ¬ c) (k : Ev g r) : Ev (fun n => if c then f n else g n) r := by simpa [h] using k

theorem wf_i64 {a : Int} (h : (Lit.int .i64 a).wf = true) : -9223372036854775808 ≤ a ∧ a ≤ 9223372036854775807 := by
  simpa [Lit.wf, IntKind.min, IntKind.max, IntKind.signed, IntKind.bits] using h

theorem getD_at {α : Type} (xs : List α) (d : α) (i : Nat) (h : i < xs.length) : xs.getD ((i : Int).toNat) d = xs[i] := by
  simp [List.getD_eq_getElem?_getD, List.getElem?_eq_getElem h]

/-- A list made out of another one, element by element. -/
theorem map_loop {α β : Type} (xs : List α) (d : α) (h : α → β) (z : β) (g : Nat → α → Option β) (L : Nat → List β → Int → Option (List β))
    (hL : ∀ k acc i, L (k + 1) acc i = if i < (xs.length : Int) then (if 0 ≤ i then ((g k (xs.getD i.toNat d)).bind fun y => (if i < (acc.length : Int) then L k (acc.set i.toNat y) (wrap64 (i + 1)) else none)) else none) else some acc)
    (hg : ∀ x, x ∈ xs → Ev (fun k => g k x) (h x)) (hn : xs.length ≤ 9223372036854775806) :
    Ev (fun k => L k (List.replicate xs.length z) 0) (xs.map h) := by
  have main : ∀ (m i : Nat) (acc : List β), i + m = xs.length → acc = (xs.take i).map h ++ List.replicate m z → Ev (fun k => L k acc (i : Int)) (xs.map h) := by
    intro m
    induction m with
    | zero =>
      intro i acc hi ha
      refine ev_step (fun k => some acc) (fun k => ?_) ?_
      · rw [hL, if_neg (by omega)]
      · subst ha
        have : xs.take i = xs := List.take_of_length_le (by omega)
        simp only [this, List.replicate_zero, List.append_nil]
        exact ev_some
    | succ m ih =>
      intro i acc hi ha
      have hlt : i < xs.length := by omega
      have hal : acc.length = xs.length := by subst ha; simp; omega
      refine ev_step (fun k => (g k xs[i]).bind fun y => L k (acc.set i y) ((i + 1 : Nat) : Int)) (fun k => ?_) ?_
      · rw [hL, if_pos (by omega), if_pos (by omega), getD_at xs d i hlt]
        congr 1
        funext y
        rw [if_pos (by omega), wrap_next hlt (by omega)]
        rfl
      · refine ev_bind _ (hg xs[i] (List.getElem_mem hlt)) (ih (i + 1) _ (by omega) ?_)
        subst ha
        have hl : ((xs.take i).map h).length = i := by simp; omega
        rw [List.set_append_right _ _ (by omega), hl, Nat.sub_self, List.replicate_succ, List.set_cons_zero, List.take_succ_eq_append_getElem hlt, List.map_append, List.append_assoc]
        rfl
  exact main xs.length 0 _ (by omega) (by simp)

/-- A list compared with itself. -/
theorem same_loop {α : Type} (xs : List α) (d : α) (e : Nat → α → α → Option Bool) (L : Nat → Int → Option Bool)
    (hL : ∀ k i, L (k + 1) i = if i < (xs.length : Int) then (if 0 ≤ i then (if i < (xs.length : Int) then ((e k (xs.getD i.toNat d) (xs.getD i.toNat d)).bind fun t => (if t = true then L k (wrap64 (i + 1)) else some false)) else none) else none) else some true)
    (he : ∀ x, x ∈ xs → Ev (fun k => e k x x) true) (hn : xs.length ≤ 9223372036854775806) :
    Ev (fun k => L k 0) true := by
  have main : ∀ (m i : Nat), i + m = xs.length → Ev (fun k => L k (i : Int)) true := by
    intro m
    induction m with
    | zero =>
      intro i hi
      refine ev_step (fun k => some true) (fun k => ?_) ev_some
      rw [hL, if_neg (by omega)]
    | succ m ih =>
      intro i hi
      have hlt : i < xs.length := by omega
      refine ev_step (fun k => (e k xs[i] xs[i]).bind fun t => (if t = true then L k ((i + 1 : Nat) : Int) else some false)) (fun k => ?_) ?_
      · rw [hL, if_pos (by omega), if_pos (by omega), if_pos (by omega), getD_at xs d i hlt, wrap_next hlt (by omega)]
      · refine ev_bind _ (he xs[i] (List.getElem_mem hlt)) ?_
        simpa using ih (i + 1) (by omega)
  exact main xs.length 0 (by omega)

/-- What is left of a bound: below 0, or the bound less the weight. -/
def LeftOf (left : Int) (w : Nat) (t : Int) : Prop := t < 0 ∨ (0 ≤ t ∧ t = left - w)

theorem left_loop {α : Type} (xs : List α) (d : α) (w : α → Nat) (B : Int) (s : Nat → α → Int → Option Int) (L : Nat → Int → Int → Option Int)
    (hL : ∀ k left i, L (k + 1) left i = if i < (xs.length : Int) then (if 0 ≤ i then ((s k (xs.getD i.toNat d) left).bind fun t => (if t < 0 then some (-1) else L k t (wrap64 (i + 1)))) else none) else some left)
    (hs : ∀ x, x ∈ xs → ∀ left : Int, 0 ≤ left → left ≤ B → ∃ t, Ev (fun k => s k x left) t ∧ LeftOf left (w x) t) (hn : xs.length ≤ 9223372036854775806) :
    ∀ left : Int, 0 ≤ left → left ≤ B → ∃ t, Ev (fun k => L k left 0) t ∧ LeftOf left (xs.map w).sum t := by
  have main : ∀ (m i : Nat), i + m = xs.length → ∀ left : Int, 0 ≤ left → left ≤ B → ∃ t, Ev (fun k => L k left (i : Int)) t ∧ LeftOf left ((xs.drop i).map w).sum t := by
    intro m
    induction m with
    | zero =>
      intro i hi left h0 hB
      refine ⟨left, ev_step (fun k => some left) (fun k => ?_) ev_some, .inr ⟨h0, ?_⟩⟩
      · rw [hL, if_neg (by omega)]
      · rw [List.drop_eq_nil_of_le (by omega)]; simp
    | succ m ih =>
      intro i hi left h0 hB
      have hlt : i < xs.length := by omega
      obtain ⟨t, ht, hw⟩ := hs xs[i] (List.getElem_mem hlt) left h0 hB
      have hstep : ∀ k, L (k + 1) left (i : Int) = (s k xs[i] left).bind fun t => (if t < 0 then some (-1) else L k t ((i + 1 : Nat) : Int)) := by
        intro k
        rw [hL, if_pos (by omega), if_pos (by omega), getD_at xs d i hlt, wrap_next hlt (by omega)]
      rcases hw with hw | ⟨hw0, hw⟩
      · refine ⟨-1, ev_step _ hstep (ev_bind t ht ?_), .inl (by omega)⟩
        simp only [if_pos hw]
        exact ev_some
      · obtain ⟨t2, ht2, hw2⟩ := ih (i + 1) (by omega) t hw0 (by omega)
        refine ⟨t2, ev_step _ hstep (ev_bind t ht ?_), ?_⟩
        · simp only [if_neg (show ¬ t < 0 by omega)]
          exact ht2
        · rw [List.drop_eq_getElem_cons hlt]
          simp only [List.map_cons, List.sum_cons]
          rcases hw2 with h | ⟨h, h'⟩
          · exact .inl h
          · exact .inr ⟨h, by omega⟩
  intro left h0 hB
  have := main xs.length 0 (by omega) left h0 hB
  simpa using this

/-- The first place at which something is so; -1 if there is none. -/
def idxOf {α : Type} (b : α → Bool) (xs : List α) : Int := match xs.findIdx? b with
  | some i => (i : Int)
  | none => -1
theorem idxOf_nil {α : Type} (b : α → Bool) : idxOf b ([] : List α) = -1 := rfl
theorem idxOf_ge {α : Type} (b : α → Bool) (xs : List α) : decide (idxOf b xs ≥ 0) = xs.any b := by
  unfold idxOf
  cases h : xs.findIdx? b with
  | none =>
    rw [List.findIdx?_eq_none_iff] at h
    have : xs.any b = false := by
      rw [List.any_eq_false]
      intro x hx
      simp [h x hx]
    simp [this]
  | some i =>
    rw [List.findIdx?_eq_some_iff_getElem] at h
    obtain ⟨hi, hb, _⟩ := h
    have : xs.any b = true := by
      rw [List.any_eq_true]
      exact ⟨xs[i], List.getElem_mem hi, hb⟩
    simp [this]

/-- The search for a first place. -/
theorem idx_loop {α : Type} (xs : List α) (d : α) (b : α → Bool) (p : Nat → α → Option Bool) (L : Nat → Int → Option Int)
    (hL : ∀ k i, L (k + 1) i = if i < (xs.length : Int) then (if 0 ≤ i then (if i < (xs.length : Int) then ((p k (xs.getD i.toNat d)).bind fun t => (if t = true then some i else L k (wrap64 (i + 1)))) else none) else none) else some (-1))
    (hp : ∀ x, x ∈ xs → Ev (fun k => p k x) (b x)) (hn : xs.length ≤ 9223372036854775806) :
    Ev (fun k => L k 0) (idxOf b xs) := by
  have main : ∀ (m i : Nat), i + m = xs.length → (∀ j (h : j < xs.length), j < i → b xs[j] = false) → Ev (fun k => L k (i : Int)) (idxOf b xs) := by
    intro m
    induction m with
    | zero =>
      intro i hi hb
      have hnone : xs.findIdx? b = none := by
        rw [List.findIdx?_eq_none_iff]
        intro x hx
        obtain ⟨j, hj, rfl⟩ := List.mem_iff_getElem.1 hx
        exact hb j hj (by omega)
      have e : idxOf b xs = -1 := by unfold idxOf; rw [hnone]
      rw [e]
      refine ev_step (fun k => some (-1)) (fun k => ?_) ev_some
      rw [hL, if_neg (by omega)]
    | succ m ih =>
      intro i hi hb
      have hlt : i < xs.length := by omega
      refine ev_step (fun k => (p k xs[i]).bind fun t => (if t = true then some (i : Int) else L k ((i + 1 : Nat) : Int))) (fun k => ?_) ?_
      · rw [hL, if_pos (by omega), if_pos (by omega), if_pos (by omega), getD_at xs d i hlt, wrap_next hlt (by omega)]
      · refine ev_bind _ (hp xs[i] (List.getElem_mem hlt)) ?_
        cases hbi : b xs[i] with
        | true =>
          have hsome : xs.findIdx? b = some i := by
            rw [List.findIdx?_eq_some_iff_getElem]
            exact ⟨hlt, hbi, fun j hj => by simpa using hb j (by omega) hj⟩
          have e : idxOf b xs = i := by unfold idxOf; rw [hsome]
          rw [e]
          simpa using ev_some
        | false =>
          simpa using ih (i + 1) (by omega) (fun j h hj => by
            by_cases hji : j = i
            · subst hji; exact hbi
            · exact hb j h (by omega))
  exact main xs.length 0 (by omega) (fun j h hj => by omega)

/-- The search for a first place, told place by place. -/
theorem place_loop {α : Type} (xs : List α) (d : α) (b : α → Bool) (L : Nat → Int → Option Int)
    (hL : ∀ k (i : Nat), i < xs.length → L (k + 1) (i : Int) = if b (xs.getD i d) = true then some (i : Int) else L k (wrap64 ((i : Int) + 1)))
    (hE : ∀ k, L (k + 1) (xs.length : Int) = some (-1)) (hn : xs.length ≤ 9223372036854775806) :
    Ev (fun k => L k 0) (idxOf b xs) := by
  have main : ∀ (m i : Nat), i + m = xs.length → (∀ j (h : j < xs.length), j < i → b xs[j] = false) → Ev (fun k => L k (i : Int)) (idxOf b xs) := by
    intro m
    induction m with
    | zero =>
      intro i hi hb
      have hnone : xs.findIdx? b = none := by
        rw [List.findIdx?_eq_none_iff]
        intro x hx
        obtain ⟨j, hj, rfl⟩ := List.mem_iff_getElem.1 hx
        exact hb j hj (by omega)
      have e : idxOf b xs = -1 := by unfold idxOf; rw [hnone]
      rw [e]
      refine ev_step (fun k => some (-1)) (fun k => ?_) ev_some
      have hi' : i = xs.length := by omega
      rw [hi', hE]
    | succ m ih =>
      intro i hi hb
      have hlt : i < xs.length := by omega
      have hg : xs.getD i d = xs[i] := by simp [List.getD_eq_getElem?_getD, List.getElem?_eq_getElem hlt]
      refine ev_step (fun k => if b xs[i] = true then some (i : Int) else L k ((i + 1 : Nat) : Int)) (fun k => ?_) ?_
      · rw [hL k i hlt, hg, wrap_next hlt (by omega)]
      · cases hbi : b xs[i] with
        | true =>
          have hsome : xs.findIdx? b = some i := by
            rw [List.findIdx?_eq_some_iff_getElem]
            exact ⟨hlt, hbi, fun j hj => by simpa using hb j (by omega) hj⟩
          have e : idxOf b xs = i := by unfold idxOf; rw [hsome]
          rw [e]
          simpa using ev_some
        | false =>
          simpa using ih (i + 1) (by omega) (fun j h hj => by
            by_cases hji : j = i
            · subst hji; exact hbi
            · exact hb j h (by omega))
  exact main xs.length 0 (by omega) (fun j h hj => by omega)

/-- A loop that goes on while a test holds, told place by place. -/
theorem scan_loop {β : Type} (n : Nat) (b : Nat → Bool) (L : Nat → Int → Option β) (e f : β)
    (hT : ∀ i, i < n → b i = true → ∀ r, Ev (fun k => L k ((i + 1 : Nat) : Int)) r → Ev (fun k => L k (i : Int)) r)
    (hF : ∀ i, i < n → b i = false → Ev (fun k => L k (i : Int)) f) (hE : Ev (fun k => L k (n : Int)) e) :
    Ev (fun k => L k 0) (if (List.range n).all b then e else f) := by
  have main : ∀ (m i : Nat), i + m = n → Ev (fun k => L k (i : Int)) (if ((List.range n).drop i).all b then e else f) := by
    intro m
    induction m with
    | zero =>
      intro i hi
      have h0 : (List.range n).drop i = [] := List.drop_eq_nil_of_le (by simp; omega)
      have hi' : i = n := by omega
      rw [h0, hi']
      simpa using hE
    | succ m ih =>
      intro i hi
      have hlt : i < (List.range n).length := by simp; omega
      rw [List.drop_eq_getElem_cons hlt, List.all_cons, List.getElem_range]
      cases hb : b i with
      | true => simpa using hT i (by omega) hb _ (ih (i + 1) (by omega))
      | false => simpa using hF i (by omega) hb
  simpa using main n 0 (by omega)
theorem wrap_prev {i : Nat} (h : 0 < i) (hn : i ≤ 9223372036854775807) : wrap64 ((i : Int) - 1) = ((i - 1 : Nat) : Int) := by
  unfold wrap64
  omega
theorem le_sum_of {α : Type} (f : α → Nat) {l : List α} {x : α} (h : x ∈ l) : f x ≤ (l.map f).sum := by
  induction l with
  | nil => cases h
  | cons y ys ih =>
    simp only [List.map_cons, List.sum_cons]
    rcases List.mem_cons.1 h with rfl | h
    · omega
    · have := ih h
      omega

/-- A function that first takes a list's length off what is left, and then runs the loop. -/
theorem left_rows {α : Type} (xs : List α) (d : α) (w : α → Nat) (s : Nat → α → Int → Option Int) (L : Nat → Int → Int → Option Int) (F : Nat → Int → Option Int)
    (hF : ∀ k left, F k left = if wrap64 (left - (xs.length : Int)) < 0 then some (-1) else L k (wrap64 (left - (xs.length : Int))) 0)
    (hL : ∀ k left i, L (k + 1) left i = if i < (xs.length : Int) then (if 0 ≤ i then ((s k (xs.getD i.toNat d) left).bind fun t => (if t < 0 then some (-1) else L k t (wrap64 (i + 1)))) else none) else some left)
    (hs : ∀ x, x ∈ xs → ∀ left : Int, 0 ≤ left → left ≤ 1048576 → ∃ t, Ev (fun k => s k x left) t ∧ LeftOf left (w x) t) (hn : xs.length ≤ 9223372036854775807) :
    ∀ left : Int, 0 ≤ left → left ≤ 1048576 → ∃ t, Ev (fun k => F k left) t ∧ LeftOf left (xs.length + (xs.map w).sum) t := by
  intro left h0 hB
  have e1 : wrap64 (left - (xs.length : Int)) = left - xs.length := by unfold wrap64; omega
  by_cases c : left - (xs.length : Int) < 0
  · exact ⟨-1, ev_congr _ (fun k => by rw [hF, e1, if_pos c]) ev_some, .inl (by omega)⟩
  · obtain ⟨t, ht, hw⟩ := left_loop xs d w 1048576 s L hL hs (by omega) (left - xs.length) (by omega) (by omega)
    refine ⟨t, ev_congr _ (fun k => by rw [hF, e1, if_neg c]) ht, ?_⟩
    rcases hw with h | ⟨h, h'⟩
    · exact .inl h
    · exact .inr ⟨h, by omega⟩
/-- The step of one text. -/
theorem left_str (x : ByteArray) (hx : x.size ≤ maxLen) (left : Int) (h0 : 0 ≤ left) (hB : left ≤ 1048576) : LeftOf left x.size (wrap64 (left - (x.size : Int))) := by
  have hm : (maxLen : Nat) = 9223372036854775807 := rfl
  have e1 : wrap64 (left - (x.size : Int)) = left - x.size := by unfold wrap64; omega
  rw [e1]
  by_cases c : left - (x.size : Int) < 0
  · exact .inl c
  · exact .inr ⟨by omega, rfl⟩
theorem getD_mem {α : Type} (xs : List α) (d : α) (i : Nat) (h : i < xs.length) : xs.getD i d ∈ xs := by
  simp [List.getD_eq_getElem?_getD, List.getElem?_eq_getElem h]

theorem all_range {α : Type} (l : List α) (d : α) (q : α → Bool) : (List.range l.length).all (fun i => q (l.getD i d)) = l.all q := by
  rw [Bool.eq_iff_iff]
  simp only [List.all_eq_true, List.mem_range]
  constructor
  · intro h x hx
    obtain ⟨i, hi, rfl⟩ := List.mem_iff_getElem.1 hx
    have := h i hi
    simpa [List.getD_eq_getElem?_getD, List.getElem?_eq_getElem hi] using this
  · intro h i hi
    exact h _ (getD_mem l d i hi)

theorem together3 {α β : Type} {g : Nat → Option α} {f : Nat → Option β} {a : α} {b : β} (h : Ev g a) (k : Ev f b) : ∃ n, g n = some a ∧ f n = some b := by
  obtain ⟨K, h⟩ := h
  obtain ⟨K', k⟩ := k
  exact ⟨max K K', h _ (by omega), k _ (by omega)⟩

end Go.Proofs.YtaikjjlbfdkgmaaDoorW.Loops
