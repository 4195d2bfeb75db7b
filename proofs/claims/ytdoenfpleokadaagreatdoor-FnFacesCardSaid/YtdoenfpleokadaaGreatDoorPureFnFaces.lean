/- The law FnFaces, in plain Lean: bytes with one byte changed are no interface of the same print. -/
import Derived.Test.YtdoenfpleokadaaGreatDoorPlPFnFaces
import Derived.Test.YtdoenfpleokadaaGreatDoorPlSFnFaces
set_option linter.unusedVariables false
set_option linter.unusedSimpArgs false
namespace Go.Proofs.YtdoenfpleokadaaGreatDoor.V
open Go.RowKit Go.Proofs.YtdoenfpleokadaaGreatDoor.E
/-! What is read is written as it stood. -/
theorem bind_D {α β : Type} {d : D α} {f : α → D β} {s s2 : List Int} {y : β} (h : D.bind d f s = some (y, s2)) : ∃ x s1, d s = some (x, s1) ∧ f x s1 = some (y, s2) := by
  unfold D.bind at h
  cases hd : d s with
  | none => rw [hd] at h; cases h
  | some p => rw [hd] at h; exact ⟨p.1, p.2, rfl, h⟩
def Enc {α : Type} (d : D α) (f : α → List Int) : Prop := ∀ s x s1, Oct s → d s = some (x, s1) → s = f x ++ s1
theorem oct_tail {s a b : List Int} (h : Oct s) (e : s = a ++ b) : Oct b := fun v hv => h v (e ▸ List.mem_append_right _ hv)
theorem take_enc {n : Nat} {s l s1 : List Int} (h : takeD n s = some (l, s1)) : s = l ++ s1 ∧ l.length = n := by
  unfold takeD at h
  split at h
  · rename_i hn
    simp only [Option.some.injEq, Prod.mk.injEq] at h
    obtain ⟨rfl, rfl⟩ := h
    exact ⟨(List.take_append_drop n s).symm, by rw [List.length_take]; omega⟩
  · cases h
theorem pure_D {α : Type} {a x : α} {s s1 : List Int} (h : D.pure a s = some (x, s1)) : a = x ∧ s = s1 := by
  simp only [D.pure, Option.some.injEq, Prod.mk.injEq] at h
  exact h
theorem u8_same {v : Int} (h0 : 0 ≤ v) (h1 : v < 256) : u8 v = v := IntWalk.u8_in v (by omega)
theorem num1_enc {s s1 : List Int} {v : Int} (hs : Oct s) (h : numD 1 s = some (v, s1)) : s = [u8 v] ++ s1 ∧ 0 ≤ v ∧ v < 256 := by
  obtain ⟨l, s2, h1, h2⟩ := bind_D h
  obtain ⟨e1, e2⟩ := take_enc h1
  obtain ⟨e3, rfl⟩ := pure_D h2
  match l, e2 with
  | [b], _ =>
    obtain ⟨g0, g1⟩ := hs b (by rw [e1]; simp)
    rw [numV_one g0 g1] at e3
    subst e3
    rw [u8_same g0 g1]
    exact ⟨e1, g0, g1⟩
theorem num8_enc {s s1 : List Int} {v : Int} (hs : Oct s) (h : numD 8 s = some (v, s1)) : s = bigL v 8 ++ s1 := by
  obtain ⟨l, s2, h1, h2⟩ := bind_D h
  obtain ⟨e1, e2⟩ := take_enc h1
  obtain ⟨e3, rfl⟩ := pure_D h2
  match l, e2 with
  | [b0, b1, b2, b3, b4, b5, b6, b7], _ =>
    have g : ∀ b ∈ [b0, b1, b2, b3, b4, b5, b6, b7], 0 ≤ b ∧ b < 256 := fun b hb => hs b (by rw [e1]; exact List.mem_append_left _ hb)
    have := num_bytes g
    rw [e3] at this
    have e : bigL v 8 = [b0, b1, b2, b3, b4, b5, b6, b7] := this
    rw [e]
    exact e1
theorem text_enc : Enc textD textL := by
  intro s x s1 hs h
  obtain ⟨n, s2, h1, h2⟩ := bind_D h
  obtain ⟨e1, g0, g1⟩ := num1_enc hs h1
  obtain ⟨l, s3, h3, h4⟩ := bind_D h2
  obtain ⟨e3, e4⟩ := take_enc h3
  obtain ⟨rfl, rfl⟩ := pure_D h4
  have ol : Oct l := fun v hv => oct_tail hs e1 v (by rw [e3]; exact List.mem_append_left _ hv)
  have hb := bytes_str ol
  have hz : ((strOfNums l).size : Int) = n := by rw [size_bytes, hb, e4]; omega
  unfold textL
  rw [hz, hb, e1, e3, List.append_assoc]
theorem many_enc {α : Type} {d : D α} {f : α → List Int} (h : Enc d f) : ∀ (n : Nat) (s : List Int) (l : List α) (s1 : List Int), Oct s → D.many d n s = some (l, s1) → s = l.flatMap f ++ s1 ∧ l.length = n
  | 0, s, l, s1, hs, e => by
    obtain ⟨rfl, rfl⟩ := pure_D e
    exact ⟨rfl, rfl⟩
  | n + 1, s, l, s1, hs, e => by
    obtain ⟨x, s2, h1, h2⟩ := bind_D e
    have e1 := h s x s2 hs h1
    obtain ⟨l', s3, h3, h4⟩ := bind_D h2
    obtain ⟨e2, hl⟩ := many_enc h n s2 l' s3 (oct_tail hs e1) h3
    obtain ⟨rfl, rfl⟩ := pure_D h4
    exact ⟨by rw [e1, e2, List.flatMap_cons, List.append_assoc], by simp [hl]⟩
theorem flag_all : ∀ n : Fin 256, u8 (paramN (flagP ((n.val : Nat) : Int))) = ((n.val : Nat) : Int) := by decide +kernel
theorem param_enc : Enc paramD paramL := by
  intro s x s1 hs h
  obtain ⟨v, s2, h1, h2⟩ := bind_D h
  obtain ⟨e1, g0, g1⟩ := num1_enc hs h1
  obtain ⟨rfl, rfl⟩ := pure_D h2
  have := flag_all ⟨v.toNat, by omega⟩
  have e : ((v.toNat : Nat) : Int) = v := by omega
  simp only [e] at this
  unfold paramL
  rw [this, e1, u8_same g0 g1]
theorem item_enc : Enc itemD itemL := by
  intro s x s1 hs h
  obtain ⟨a, z1, h1, h⟩ := bind_D h
  obtain ⟨e1, _⟩ := num1_enc hs h1
  have o1 := oct_tail hs e1
  obtain ⟨b, z2, h2, h⟩ := bind_D h
  obtain ⟨e2, _⟩ := num1_enc o1 h2
  have o2 := oct_tail o1 e2
  obtain ⟨c, z3, h3, h⟩ := bind_D h
  obtain ⟨e3, _⟩ := num1_enc o2 h3
  have o3 := oct_tail o2 e3
  obtain ⟨e, z4, h4, h⟩ := bind_D h
  have e4 := num8_enc o3 h4
  have o4 := oct_tail o3 e4
  obtain ⟨n, z5, h5, h⟩ := bind_D h
  have e5 := text_enc _ _ _ o4 h5
  have o5 := oct_tail o4 e5
  obtain ⟨m, z6, h6, h⟩ := bind_D h
  obtain ⟨e6, g0, g1⟩ := num1_enc o5 h6
  have o6 := oct_tail o5 e6
  obtain ⟨ps, z7, h7, h⟩ := bind_D h
  obtain ⟨e7, hl⟩ := many_enc param_enc _ _ _ _ o6 h7
  obtain ⟨rfl, rfl⟩ := pure_D h
  have hm : ((ps.length : Nat) : Int) = m := by omega
  unfold itemL headL
  simp only [hm]
  rw [e1, e2, e3, e4, e5, e6, e7]
  simp only [List.append_assoc, List.cons_append, List.nil_append]
theorem face_enc : Enc faceD faceL := by
  intro s x s1 hs h
  obtain ⟨u, z1, h1, h⟩ := bind_D h
  obtain ⟨l, z0, h0, hh⟩ := bind_D h1
  obtain ⟨e0, _⟩ := take_enc h0
  have e1 : s = [79, 73, 49] ++ z1 := by
    split at hh
    · rename_i hl
      simp only [Option.some.injEq, Prod.mk.injEq] at hh
      rw [e0, hl, hh.2]
    · cases hh
  have o1 := oct_tail hs e1
  obtain ⟨n, z2, h2, h⟩ := bind_D h
  have e2 := text_enc _ _ _ o1 h2
  have o2 := oct_tail o1 e2
  obtain ⟨m, z3, h3, h⟩ := bind_D h
  obtain ⟨e3, g0, g1⟩ := num1_enc o2 h3
  have o3 := oct_tail o2 e3
  obtain ⟨l', z4, h4, h⟩ := bind_D h
  obtain ⟨e4, hl⟩ := many_enc item_enc _ _ _ _ o3 h4
  obtain ⟨rfl, rfl⟩ := pure_D h
  have hm : ((l'.length : Nat) : Int) = m := by omega
  unfold faceL faceH
  simp only [hm]
  rw [e1, e2, e3, e4]
  simp only [List.append_assoc, List.cons_append, List.nil_append]
/-! One byte changed is another sum. -/
def stepM (z x : Int) : Int := Int.tmod (w64 ((ixor .i64 z (w64 x)) * 16777619)) 4294967296
def In32 (z : Int) : Prop := 0 ≤ z ∧ z < 4294967296
theorem xor_nat {z x : Int} (hz : In32 z) (hx : 0 ≤ x ∧ x < 256) : ixor .i64 z (w64 x) = ((z.toNat ^^^ x.toNat : Nat) : Int) ∧ (z.toNat ^^^ x.toNat) < 4294967296 := by
  obtain ⟨z0, z1⟩ := hz
  have hl : z.toNat ^^^ x.toNat < 2 ^ 32 := Nat.xor_lt_two_pow (by omega) (by omega)
  have hl' : z.toNat ^^^ x.toNat < 4294967296 := by simpa using hl
  refine ⟨?_, hl'⟩
  rw [w64_id (by omega) (by omega)]
  unfold ixor
  show IntKind.i64.wrap (((BitVec.ofInt 64 z ^^^ BitVec.ofInt 64 x).toNat : Nat) : Int) = _
  rw [BitVec.toNat_xor, ofInt_nat, ofInt_nat]
  have e1 : (z % 18446744073709551616).toNat = z.toNat := by omega
  have e2 : (x % 18446744073709551616).toNat = x.toNat := by omega
  rw [e1, e2]
  exact IntWalk.i64_in _ (by omega)
theorem step_nat {z x : Int} (hz : In32 z) (hx : 0 ≤ x ∧ x < 256) : stepM z x = (((z.toNat ^^^ x.toNat) * 16777619 % 4294967296 : Nat) : Int) := by
  obtain ⟨e, hl⟩ := xor_nat hz hx
  unfold stepM
  rw [e, w64_id (by omega) (by omega)]
  generalize (z.toNat ^^^ x.toNat) = n
  rw [Int.tmod_eq_emod_of_nonneg (by omega)]
  omega
theorem step_in {z x : Int} (hz : In32 z) (hx : 0 ≤ x ∧ x < 256) : In32 (stepM z x) := by
  rw [step_nat hz hx]
  unfold In32
  omega
theorem mul_inj {a b : Nat} (ha : a < 4294967296) (hb : b < 4294967296) (h : a * 16777619 % 4294967296 = b * 16777619 % 4294967296) : a = b := by
  have key : ∀ c : Nat, c < 4294967296 → (c * 16777619 % 4294967296) * 899433627 % 4294967296 = c := by
    intro c hc
    have pq : 16777619 * 899433627 = 1 + 4294967296 * 3513497 := by decide
    rw [Nat.mul_mod, Nat.mod_mod, ← Nat.mul_mod, Nat.mul_assoc, pq, Nat.mul_add, Nat.mul_one, Nat.mul_left_comm, Nat.add_mul_mod_self_left]
    exact Nat.mod_eq_of_lt hc
  rw [← key a ha, h, key b hb]
theorem step_z {z z' x : Int} (hz : In32 z) (hz' : In32 z') (hx : 0 ≤ x ∧ x < 256) (h : stepM z x = stepM z' x) : z = z' := by
  rw [step_nat hz hx, step_nat hz' hx] at h
  have h1 := mul_inj (xor_nat hz hx).2 (xor_nat hz' hx).2 (by omega)
  have h2 : z.toNat = z'.toNat := by
    have := congrArg (· ^^^ x.toNat) h1
    simpa [Nat.xor_assoc] using this
  unfold In32 at hz hz'
  omega
theorem step_x {z x x' : Int} (hz : In32 z) (hx : 0 ≤ x ∧ x < 256) (hx' : 0 ≤ x' ∧ x' < 256) (h : stepM z x = stepM z x') : x = x' := by
  rw [step_nat hz hx, step_nat hz hx'] at h
  have h1 := mul_inj (xor_nat hz hx).2 (xor_nat hz hx').2 (by omega)
  have h2 : x.toNat = x'.toNat := by
    have := congrArg (z.toNat ^^^ ·) h1
    simpa [← Nat.xor_assoc] using this
  omega
theorem fold_in : ∀ (l : List Int) (z : Int), In32 z → Oct l → In32 (l.foldl stepM z)
  | [], z, hz, _ => hz
  | x :: l, z, hz, hl => fold_in l _ (step_in hz (hl x (List.mem_cons_self ..))) fun v hv => hl v (List.mem_cons_of_mem _ hv)
theorem fold_inj : ∀ (l : List Int) (z z' : Int), In32 z → In32 z' → Oct l → l.foldl stepM z = l.foldl stepM z' → z = z'
  | [], z, z', _, _, _, h => h
  | x :: l, z, z', hz, hz', hl, h => by
    have hx := hl x (List.mem_cons_self ..)
    exact step_z hz hz' hx (fold_inj l _ _ (step_in hz hx) (step_in hz' hx) (fun v hv => hl v (List.mem_cons_of_mem _ hv)) h)
theorem sum_ne {l : List Int} (hl : Oct l) {p : Nat} (hp : p < l.length) {y : Int} (hy : 0 ≤ y ∧ y < 256) (hne : y ≠ l[p]) : sumM (l.set p y) ≠ sumM l := by
  intro h
  have e1 : l = l.take p ++ l[p] :: l.drop (p + 1) := by
    rw [← List.drop_eq_getElem_cons hp, List.take_append_drop]
  have e2 : l.set p y = l.take p ++ y :: l.drop (p + 1) := List.set_eq_take_append_cons_drop.trans (if_pos hp)
  have ot : Oct (l.take p) := fun v hv => hl v (List.mem_of_mem_take hv)
  have od : Oct (l.drop (p + 1)) := fun v hv => hl v (List.mem_of_mem_drop hv)
  have hx := hl l[p] (List.getElem_mem hp)
  have h' : (l.set p y).foldl stepM 2166136261 = l.foldl stepM 2166136261 := h
  rw [e2] at h'
  conv at h' => rhs; rw [e1]
  rw [List.foldl_append, List.foldl_append, List.foldl_cons, List.foldl_cons] at h'
  have hz := fold_in (l.take p) 2166136261 ⟨by omega, by omega⟩ ot
  have := fold_inj _ _ _ (step_in hz hy) (step_in hz hx) od h'
  exact hne (step_x hz hy hx this)
/-! The law. -/
def faceX : SFace := ((spec_l03A.f 0).getD (⟨⟨#[]⟩, []⟩, ⟨#[]⟩, [])).1
theorem faceX_right : faceB faceX = true := by decide +kernel
theorem faceX_len : 1 ≤ (faceL faceX).length ∧ (faceL faceX).length ≤ 65536 := by decide +kernel
theorem at_ev (k : Nat) (a : List Int) (ha : Oct a) (hl : a.length ≤ 1048576) (i n : Int) (hi : 0 ≤ i ∧ i ≤ 10) (hn : 1 ≤ n ∧ n ≤ 1000000) : ∃ r, (∀ k, laws_at.f k a i n = some r) ∧ 0 ≤ r ∧ r < n := by
  unfold laws_at.f
  by_cases h1 : n ≤ 1
  · exact ⟨0, fun k => if_pos h1, by omega, by omega⟩
  simp only [if_neg h1]
  by_cases h2 : (a.length : Int) = 0
  · simp only [if_pos h2, if_pos (show n ≠ 0 by omega)]
    refine ⟨_, fun k => rfl, ?_⟩
    rw [w64_id (by omega) (by omega), Int.tmod_eq_emod_of_nonneg (by omega)]
    exact ⟨Int.emod_nonneg _ (by omega), Int.emod_lt_of_pos _ (by omega)⟩
  · have h3 : (a.length : Int) ≠ 0 := h2
    simp only [if_neg h2, if_pos h3, if_pos (show n ≠ 0 by omega)]
    have b1 : 0 ≤ Int.tmod i (a.length : Int) ∧ Int.tmod i (a.length : Int) < a.length := by
      rw [Int.tmod_eq_emod_of_nonneg hi.1]
      exact ⟨Int.emod_nonneg _ h3, Int.emod_lt_of_pos _ (by omega)⟩
    have e1 : w64 (i + 1) = i + 1 := w64_id (by omega) (by omega)
    have b2 : 0 ≤ Int.tmod (i + 1) (a.length : Int) ∧ Int.tmod (i + 1) (a.length : Int) < a.length := by
      rw [Int.tmod_eq_emod_of_nonneg (by omega)]
      exact ⟨Int.emod_nonneg _ h3, Int.emod_lt_of_pos _ (by omega)⟩
    rw [e1, at?_int b1.1 b1.2, at?_int b2.1 b2.2]
    simp only [Option.bind_some]
    refine ⟨_, fun k => rfl, ?_⟩
    have o1 := ha _ (List.getElem_mem (l := a) (n := (Int.tmod i (a.length : Int)).toNat) (by omega))
    have o2 := ha _ (List.getElem_mem (l := a) (n := (Int.tmod (i + 1) (a.length : Int)).toNat) (by omega))
    have b3 : 0 ≤ Int.tdiv i (a.length : Int) ∧ Int.tdiv i (a.length : Int) ≤ 10 := by
      rw [Int.tdiv_eq_ediv_of_nonneg hi.1]
      exact ⟨Int.ediv_nonneg hi.1 (by omega), Int.le_trans (Int.ediv_le_self _ hi.1) hi.2⟩
    generalize a[(Int.tmod i (a.length : Int)).toNat] = u at o1 ⊢
    generalize a[(Int.tmod (i + 1) (a.length : Int)).toNat] = v at o2 ⊢
    generalize Int.tdiv i (a.length : Int) = q at b3 ⊢
    rw [w64_id (n := u) (by omega) (by omega), w64_id (n := v) (by omega) (by omega), w64_id (n := q) (by omega) (by omega), w64_id (n := u * 31) (by omega) (by omega), w64_id (n := u * 31 + v) (by omega) (by omega), w64_id (n := u * 31 + v + q) (by omega) (by omega), Int.tmod_eq_emod_of_nonneg (by omega)]
    exact ⟨Int.emod_nonneg _ (by omega), Int.emod_lt_of_pos _ (by omega)⟩
theorem oct_of {x : List Int} (h : ∀ y, y ∈ x → (Lit.int .u8 y).wf = true) : Oct x := fun v hv => by
  have := h v hv
  simp [Lit.wf, IntKind.min, IntKind.max, IntKind.signed, IntKind.bits] at this
  omega
end Go.Proofs.YtdoenfpleokadaaGreatDoor.V
namespace Go.Proofs.YtdoenfpleokadaaGreatDoor.E
open Go.RowKit Go.Proofs.YtdoenfpleokadaaGreatDoor.V
theorem pureFnFaces (x0 : (List Int)) (x1 : (List Int)) (h0 : (x0.length ≤ maxLen ∧ ∀ y_, y_ ∈ x0 → (Lit.int .u8 y_).wf = true)) (h1 : (x1.length ≤ maxLen ∧ ∀ y_, y_ ∈ x1 → (Lit.int .u8 y_).wf = true)) : ∃ k, laws_FnFaces.f k x0 x1 = some true := by
  refine Evr.rounds (g := fun k => laws_FnFaces.f k x0 x1) ?_
  have o0 := oct_of h0.2
  have o1 := oct_of h1.2
  unfold laws_FnFaces.f
  by_cases hb : (1048576 : Int) < (x0.length : Int)
  · refine ev_bind true (ev_of fun k => ?_) (ev_pos rfl ev_some)
    unfold laws_FnFaces.e1
    rw [if_pos hb]
  by_cases hb' : (1048576 : Int) < (x1.length : Int)
  · refine ev_bind true (ev_of fun k => ?_) (ev_pos rfl ev_some)
    unfold laws_FnFaces.e1
    rw [if_neg hb, decide_eq_true hb']
  refine ev_bind false (ev_of fun k => ?_) (ev_neg (by simp) ?_)
  · unfold laws_FnFaces.e1
    rw [if_neg hb, decide_eq_false hb']
  have hX := faceX_right
  have hL := faceX_len
  have fx := fitI hX
  have ob := faceL_ok faceX
  obtain ⟨r6, e6⟩ : ∃ r6, ∀ k, spec_FaceOf.f k = some r6 ∧ r6.1 = faceX := ⟨_, fun k => ⟨rfl, rfl⟩⟩
  refine ev_bind r6 (ev_of fun k => (e6 k).1) ?_
  rw [(e6 0).2]
  have hsz : faceX.f0.size < 9223372036854775807 ∧ faceX.f1.length ≤ 1048576 ∧ ∀ x ∈ faceX.f1, x.f4.size < 9223372036854775807 ∧ x.f5.length < 9223372036854775807 := by
    refine ⟨by have := fx.nm; omega, by have := fx.len; omega, fun x hx => ?_⟩
    have := fx.item x hx
    omega
  obtain ⟨sp, ip⟩ := answers_ev faceX hsz.1 hsz.2.1 hsz.2.2
  have pm : printM faceX = (sumM (faceL faceX), 0) := if_pos hX
  rw [pm] at sp ip
  refine ev_bind (faceL faceX, 0) ?_ (ev_bind _ ip (ev_bind _ sp (ev_bind false (ev_of fun k => ?_) (ev_neg (by simp) ?_))))
  · unfold impl_InterfaceBytes.f
    refine ev_bind true ?_ (ev_pos rfl (ev_bind _ (ibytes_ev faceX fx) (ev_pos ?_ (ev_eq ev_some ?_))))
    · have := iface_ev faceX hsz.1 hsz.2.1 hsz.2.2
      rwa [hX] at this
    · rw [size_bytes, bytes_str ob]; omega
    · rw [bytes_str ob]
  · unfold laws_FnFaces.e2
    have : ¬ ((faceL faceX).length : Int) = 0 := by omega
    simp only [if_true]
    rw [decide_eq_false this]
  obtain ⟨p, ep, p0, p1⟩ := at_ev 0 x1 o1 (by omega) 0 ((faceL faceX).length : Int) (by omega) (by omega)
  obtain ⟨q, eq, q0, q1⟩ := at_ev 0 x0 o0 (by omega) 1 255 (by omega) (by omega)
  refine ev_bind p (ev_of ep) ?_
  simp only
  rw [at?_int p0 p1]
  simp only [Option.bind_some]
  refine ev_bind q (ev_of eq) ?_
  have hp : p.toNat < (faceL faceX).length := by omega
  have hx := ob _ (List.getElem_mem hp)
  generalize hv : (faceL faceX)[p.toNat] = v at hx ⊢
  have ey : IntKind.u8.wrap (v + IntKind.u8.wrap (w64 (1 + q))) = u8 (v + (1 + q)) := by
    rw [w64_id (by omega) (by omega), IntWalk.u8_in (1 + q) (by omega)]
    rfl
  rw [ey]
  have hy := u8_ok (v + (1 + q))
  have hne : u8 (v + (1 + q)) ≠ v := by
    unfold u8
    rw [IntKind.wrap_u8]
    omega
  generalize u8 (v + (1 + q)) = y at hy hne ⊢
  have hdiff := sum_ne ob hp hy (by rw [hv]; exact hne)
  have obs : Oct ((faceL faceX).set p.toNat y) := fun z hz => by
    rcases List.mem_or_eq_of_mem_set hz with h | h
    · exact ob z h
    · rw [h]; exact hy
  have hlen : ((faceL faceX).set p.toNat y).length = (faceL faceX).length := List.length_set
  generalize (faceL faceX).set p.toNat y = b at hdiff obs hlen ⊢
  have hbs := bytes_str obs
  obtain ⟨x, ex, gx⟩ := iread_ev (strOfNums b) (by rw [size_bytes, hbs, hlen]; omega)
  rw [hbs] at ex gx
  have hne0 : b ≠ [] := fun e => by
    rw [e] at hlen
    have h : ([] : List Int).length = 0 := rfl
    omega
  cases hok : (decide ((faceD b).map Prod.snd = some []) && faceB x) with
  | false =>
    rw [hok] at ex
    refine ev_bind (⟨⟨#[]⟩, []⟩, 3, ⟨#[]⟩, []) ?_ (ev_neg (by decide) (ev_eq ev_some (by decide)))
    unfold impl_ReadInterface.f impl_isShort___byte.f
    refine ev_bind true (ev_const (by rw [decide_eq_true (by omega)])) (ev_pos rfl (ev_bind _ ex (ev_neg (by simp) ev_some)))
  | true =>
    rw [hok] at ex
    simp only [Bool.and_eq_true, decide_eq_true_eq] at hok
    obtain ⟨hd, hf⟩ := hok
    refine ev_bind (x, 0, x.f0, x.f1) ?_ (ev_pos rfl ?_)
    · unfold impl_ReadInterface.f impl_isShort___byte.f
      exact ev_bind true (ev_const (by rw [decide_eq_true (by omega)])) (ev_pos rfl (ev_bind _ ex (ev_pos rfl ev_some)))
    obtain ⟨⟨x', s'⟩, hd1, hd2⟩ := Option.map_eq_some_iff.1 hd
    have hd2 : s' = [] := hd2
    subst hd2
    have hxx : x = x' := gx x' [] hd1
    subst hxx
    have hbb : b = faceL x := by
      have := face_enc b x [] obs hd1
      rwa [List.append_nil] at this
    have ff := fitI hf
    have fsz : x.f0.size < 9223372036854775807 ∧ x.f1.length ≤ 1048576 ∧ ∀ y ∈ x.f1, y.f4.size < 9223372036854775807 ∧ y.f5.length < 9223372036854775807 := by
      refine ⟨by have := ff.nm; omega, by have := ff.len; omega, fun y hy => ?_⟩
      have := ff.item y hy
      omega
    obtain ⟨_, ip2⟩ := answers_ev x fsz.1 fsz.2.1 fsz.2.2
    have pm2 : printM x = (sumM (faceL x), 0) := if_pos hf
    rw [pm2] at ip2
    refine ev_bind _ ip2 (ev_bind true (ev_of fun k => ?_) ev_some)
    unfold laws_FnFaces.e3
    rw [← hbb]
    simp [hdiff]
end Go.Proofs.YtdoenfpleokadaaGreatDoor.E
