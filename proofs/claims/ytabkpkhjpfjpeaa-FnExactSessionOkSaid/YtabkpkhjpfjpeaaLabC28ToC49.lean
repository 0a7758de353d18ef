/- Part of the proof of FnExactSessionOk: that for every input the law answers true and leaves what it reads as it was. Conditions: none beyond the given statement. -/
import Derived.Test.YtabkpkhjpfjpeaaLabC1ToC27
set_option linter.all false
/- Contracts: a clause's tensor (impl). -/
namespace Go.Abs
set_option linter.unusedVariables false
set_option linter.unusedSimpArgs false

def setV (V : List Int) (ps : List (Int × Int)) : List Int := ps.foldl (fun v p => v.set p.1.toNat p.2) V
theorem setV_len : ∀ (ps : List (Int × Int)) (V : List Int), (setV V ps).length = V.length
  | [], V => rfl
  | p :: ps, V => by show (setV (V.set _ _) ps).length = _; rw [setV_len ps]; simp
theorem setV_snoc (V : List Int) (ps : List (Int × Int)) (p : Int × Int) : setV V (ps ++ [p]) = (setV V ps).set p.1.toNat p.2 := by simp [setV]
/-- Only what lies off the labels counts. -/
theorem setV_off : ∀ (L I V Z : List Int), L.length = I.length → V.length = Z.length → (∀ x ∈ L, 0 ≤ x) → (∀ i : Nat, (i : Int) ∉ L → V[i]? = Z[i]?) → setV V (L.zip I) = setV Z (L.zip I)
  | [], I, V, Z, _, _, _, h => by
    have : V = Z := List.ext_getElem? fun i => h i (by simp)
    rw [this]
  | x :: L, [], _, _, h, _, _, _ => by simp at h
  | x :: L, y :: I, V, Z, h1, h2, h3, h4 => by
    show setV (V.set x.toNat y) (L.zip I) = setV (Z.set x.toNat y) (L.zip I)
    refine setV_off L I _ _ (by simpa using h1) (by simpa using h2) (fun z hz => h3 z (List.mem_cons_of_mem _ hz)) fun i hi => ?_
    have hx := h3 x List.mem_cons_self
    rw [List.getElem?_set, List.getElem?_set, h2]
    by_cases e : x.toNat = i
    · rw [if_pos e, if_pos e]
    · rw [if_neg e, if_neg e]
      refine h4 i fun hm => ?_
      rcases List.mem_cons.1 hm with hm | hm
      · omega
      · exact hi hm
theorem setV_get_off : ∀ (L I V : List Int) (i : Nat), (∀ x ∈ L, 0 ≤ x) → (i : Int) ∉ L → (setV V (L.zip I))[i]? = V[i]?
  | [], I, V, i, _, _ => by simp [setV]
  | x :: L, [], V, i, _, _ => by simp [setV]
  | x :: L, y :: I, V, i, h, hi => by
    show (setV (V.set x.toNat y) (L.zip I))[i]? = _
    simp only [List.mem_cons, not_or] at hi
    rw [setV_get_off L I _ i (fun z hz => h z (List.mem_cons_of_mem _ hz)) hi.2, List.getElem?_set_ne (by have := h x List.mem_cons_self; omega)]
theorem setV_mem : ∀ (ps : List (Int × Int)) (V : List Int) (v : Int), v ∈ setV V ps → v ∈ V ∨ ∃ p ∈ ps, v = p.2
  | [], V, v, h => .inl h
  | p :: ps, V, v, h => by
    have h : v ∈ setV (V.set p.1.toNat p.2) ps := h
    rcases setV_mem ps _ v h with h | ⟨q, hq, e⟩
    · rcases List.mem_or_eq_of_mem_set h with h | h
      · exact .inl h
      · exact .inr ⟨p, List.mem_cons_self, h⟩
    · exact .inr ⟨q, List.mem_cons_of_mem _ hq, e⟩
theorem setV_key {n0 : Nat} {H : AH} {sV : Sl} {V L I : List Int} (hV : Own n0 H sV V) (hne : V ≠ []) {β : Type} {F : Nat → AH → β} (hLI : L.length = I.length)
    (hstep : ∀ i (h1 : i < L.length) (h2 : i < I.length) cs, cs.length = V.length → F i (H.set sV.b ⟨ics cs, .rw, 1⟩) = F (i + 1) (H.set sV.b ⟨ics (cs.set L[i].toNat I[i]), .rw, 1⟩)) :
    F 0 H = F L.length (H.set sV.b ⟨ics (setV V (L.zip I)), .rw, 1⟩) := by
  have key : ∀ k i, i + k = L.length → F i (H.set sV.b ⟨ics (setV V ((L.zip I).take i)), .rw, 1⟩) = F L.length (H.set sV.b ⟨ics (setV V (L.zip I)), .rw, 1⟩) := by
    intro k
    induction k with
    | zero =>
      intro i hi
      obtain rfl : i = L.length := by omega
      rw [List.take_of_length_le (by simp; omega)]
    | succ k ih =>
      intro i hi
      have h1 : i < L.length := by omega
      have h2 : i < I.length := by omega
      have hz : (L.zip I).take (i + 1) = (L.zip I).take i ++ [(L[i], I[i])] := by
        rw [List.take_succ_eq_append_getElem (by simp; omega)]
        simp
      rw [hstep i h1 h2 _ (setV_len _ _)]
      have := ih (i + 1) (by omega)
      rw [hz, setV_snoc] at this
      exact this
  have := key L.length 0 (by omega)
  simp only [List.take_zero] at this
  have e : setV V [] = V := rfl
  rw [e, set_same (hV.blk' hne)] at this
  exact this

theorem st_lab {H : AH} {b n : Nat} {x : Bool} {cs : List Int} (hb : H[b]? = some ⟨ics cs, .rw, 1⟩) {y : Int} (h0 : 0 ≤ y) (hi : y < n) (hc : n ≤ cs.length) (v : Int) {α : Type} (k : AH → Option α) :
    ((ixA ⟨b, 0, n, n, x⟩ y 1).bind fun o => (putR H b o [.int .i64 v]).bind k) = k (H.set b ⟨ics (cs.set y.toNat v), .rw, 1⟩) := by
  have e : y = ((y.toNat : Nat) : Int) := by omega
  have := st_own0 (c := n) (x := x) hb (i := y.toNat) (n := n) (by omega) (by omega) v k
  rw [← e] at this
  exact this

/-- impl.clauseTensor: the values of the labels -/
theorem c_iclauseTensor_2 {n0 : Nat} {H : AH} {sI sV sL : Sl} {I V L : List Int} (hI : IS H sI I) (hL : IS H sL L) (hV : Own n0 H sV V) (hLI : L.length = I.length) (hb : ∀ x ∈ L, 0 ≤ x ∧ x < V.length) (h1 : I ≠ [] → V ≠ [] → sI.b ≠ sV.b) (h2 : L ≠ [] → V ≠ [] → sL.b ≠ sV.b) (hl : L.length ≤ 1048576) :
    ∃ H', R (.loop F.iclauseTensor 2) [ssc sI, ssc sV, ssc sL, isc (L.length : Int), isc 0] H = some ⟨6, [], H'⟩ ∧ Mut n0 H H' sV V (setV V (L.zip I)) := by
  by_cases hne : V = []
  · have : L = [] := by
      cases L with
      | nil => rfl
      | cons x L => have := hb x List.mem_cons_self; rw [hne] at this; simp at this; omega
    subst this
    refine ⟨H, ?_, Mut.refl hV⟩
    have : R (.loop F.iclauseTensor 2) [ssc sI, ssc sV, ssc sL, isc (0 : Nat), isc ((0 : Nat) : Int)] H = some ⟨6, [], H⟩ := by rw [R_eq, e_iclauseTensor_2, lt_self]; rfl
    exact this
  · refine ⟨_, ?_, Mut.set (l' := setV V (L.zip I)) hV hne (setV_len _ _)⟩
    have := setV_key hV hne (β := Option Out) (F := fun i Hc => R (.loop F.iclauseTensor 2) [ssc sI, ssc sV, ssc sL, isc (L.length : Int), isc (i : Int)] Hc) (L := L) (I := I) hLI (fun i g1 g2 cs hcs => by
      have hx := hb L[i] (List.getElem_mem g1)
      have hIne : I ≠ [] := fun e => by rw [e] at g2; simp at g2
      have hLne : L ≠ [] := fun e => by rw [e] at g1; simp at g1
      rw [R_eq, e_iclauseTensor_2, lt_true g1, w1 g1 (by omega), cond_true, (hL.set fun _ => h2 hLne hne).ldk g1, (hI.set fun _ => h1 hIne hne).ldk g2, hV.eta]
      rw [st_lab (set_get (hV.blk' hne)) hx.1 hx.2 (by omega), set_set])
    have this : R (.loop F.iclauseTensor 2) [ssc sI, ssc sV, ssc sL, isc (L.length : Int), isc 0] H = _ := this
    rw [this, R_eq, e_iclauseTensor_2, lt_self]
    rfl

def hasL (l : List Int) (i : Nat) : Bool := (l.any fun x => ((i + 1 : Nat) : Int) == x) || (l.any fun x => -((i + 1 : Nat) : Int) == x)
/-- The labels of a clause. -/
def labelsF (v : Nat) (l : List Int) : List Int := colF (fun _ (i : Nat) => if hasL l i then some (i : Int) else none) (List.range v) 0
theorem colF_mem {α : Type} {g : Nat → α → Option Int} : ∀ {l : List α} {i : Nat} {x : Int}, x ∈ colF g l i → ∃ j a, a ∈ l ∧ g j a = some x
  | [], _, x, h => by simp [colF] at h
  | a :: l, i, x, h => by
    simp only [colF, List.mem_append] at h
    rcases h with h | h
    · exact ⟨i, a, List.mem_cons_self, by cases hg : g i a <;> simp_all⟩
    · obtain ⟨j, b, hb, e⟩ := colF_mem h
      exact ⟨j, b, List.mem_cons_of_mem _ hb, e⟩
theorem colF_len {α : Type} {g : Nat → α → Option Int} : ∀ {l : List α} {i : Nat}, (colF g l i).length ≤ l.length
  | [], _ => by simp [colF]
  | a :: l, i => by
    simp only [colF, List.length_append, List.length_cons]
    have := colF_len (g := g) (l := l) (i := i + 1)
    have : (g i a).toList.length ≤ 1 := by cases g i a <;> simp
    omega
theorem labelsF_mem {v : Nat} {l : List Int} {x : Int} (h : x ∈ labelsF v l) : 0 ≤ x ∧ x < v := by
  obtain ⟨j, a, ha, e⟩ := colF_mem h
  have := List.mem_range.1 ha
  split at e
  · cases e; omega
  · cases e
theorem labelsF_len (v : Nat) (l : List Int) : (labelsF v l).length ≤ v := by
  have := colF_len (g := fun _ (i : Nat) => if hasL l i then some (i : Int) else none) (l := List.range v) (i := 0)
  simpa [labelsF] using this
def valsF (v : Nat) (L I : List Int) : List Int := setV (List.replicate v 0) (L.zip I)
def elemF (r : Rg) (v : Nat) (l L : List Int) (n : Nat) : List Int := if l.any (litT (valsF v L (idxF (List.replicate L.length 2) n))) then oneR r else zeroR r
def clauseT (r : Rg) (v : Nat) (l : List Int) : Tn := ⟨labelsF v l, List.replicate (labelsF v l).length 2, ((List.range (2 ^ (labelsF v l).length)).map fun n => elemF r v l (labelsF v l) n).flatten⟩

theorem prd_twos : ∀ k : Nat, prd (List.replicate k 2) = ((2 ^ k : Nat) : Int)
  | 0 => rfl
  | k + 1 => by rw [List.replicate_succ]; simp only [prd]; rw [prd_twos k, Nat.pow_succ, Nat.mul_comm]; simp
theorem twos_ok {k : Nat} (h : k ≤ 10) : DimsOk (List.replicate k 2) := by
  refine ⟨by simp; omega, fun d hd => by rw [(List.mem_replicate.1 hd).2]; omega, ?_⟩
  rw [prd_twos]
  have : 2 ^ k ≤ 2 ^ 10 := Nat.pow_le_pow_right (by omega) h
  omega

/-- impl.clauseTensor: the labels -/
theorem c_iclauseTensor_0 {H0 : AH} {v : Nat} {w : Int} {s s0 : Sl} {l : List Int} (hv : v ≤ 10) (hw : w = (v : Int)) (hs : IS H0 s l) (hl : l.length ≤ 1048576) :
    ∃ s' H', R (.loop F.iclauseTensor 0) [ssc s, ssc ⟨0, 0, 0, 0, true⟩, isc 1, cpv w s0] H0 = some ⟨2, [ssc s'], H'⟩ ∧ Own H0.length H' s' (labelsF v l) ∧ Le H0 H' := by
  subst hw
  have := collect (l := List.range v) (H0 := H0) (F := fun i u Hc => R (.loop F.iclauseTensor 0) [ssc s, ssc u, isc ((i + 1 : Nat) : Int), cpv (v : Int) s0] Hc) (fin := fun u Hc => some ⟨2, [ssc u], Hc⟩) (fun _ (i : Nat) => if hasL l i then some (i : Int) else none)
    (fun u Hc => by
      have : decide (((List.range v).length + 1 : Nat) ≤ (v : Int)) = false := decide_eq_false (by simp; omega)
      show R (.loop F.iclauseTensor 0) [ssc s, ssc u, isc (((List.range v).length + 1 : Nat) : Int), cpv (v : Int) s0] Hc = _
      rw [R_eq, e_iclauseTensor_0, this]; rfl)
    (fun i hi u Hc acc hle ho ha => by
      simp only [List.length_range] at hi
      have hd : decide (((i + 1 : Nat) : Int) ≤ (v : Int)) = true := decide_eq_true (by omega)
      have e0 : IntKind.wrap .i64 (0 - ((i + 1 : Nat) : Int)) = -((i + 1 : Nat) : Int) := by rw [wrap_id] <;> omega
      have e1 : IntKind.wrap .i64 (((i + 1 : Nat) : Int) + 1) = ((i + 1 + 1 : Nat) : Int) := by rw [wrap_id] <;> omega
      have e2 : IntKind.wrap .i64 (((i + 1 : Nat) : Int) - 1) = (i : Int) := by rw [wrap_id] <;> omega
      have key : ∀ (k : Out → Option Out), (((R (.fn F.ihasInt) [ssc s, isc ((i + 1 : Nat) : Int)] Hc).bind fun r1 => (oneP r1.vs).bind fun p2 => p2.sc?.bind fun c3 => (boolAt [c3] 0).bind fun b4 =>
          cond b4 (some (⟨0, [.sc (.bool true)], r1.H⟩ : Out)) ((R (.fn F.ihasInt) [ssc s, isc (IntKind.wrap .i64 (0 - ((i + 1 : Nat) : Int)))] r1.H).bind fun r5 => (oneP r5.vs).bind fun p6 => p6.sc?.bind fun c7 => (boolAt [c7] 0).bind fun b8 => some ⟨0, [.sc (.bool b8)], r5.H⟩)) : Option Out).bind k = k ⟨0, [bsc (hasL l i)], Hc⟩ := by
        intro k
        rw [c_ihasInt (hs.le hle) hl]
        simp only [Option.bind_some, one_bool]
        rw [e0, c_ihasInt (hs.le hle) hl]
        simp only [Option.bind_some, one_bool]
        unfold hasL
        cases (l.any fun x => ((i + 1 : Nat) : Int) == x) <;> rfl
      rw [List.getElem_range]
      by_cases hh : hasL l i = true
      · obtain ⟨s', H', e, o, hl'⟩ := push_le hle ho (by simp at ha; omega) (i : Int)
        refine ⟨s', H', ?_, by simpa [hh] using o, hl'⟩
        rw [R_eq, e_iclauseTensor_0, hd, cond_true, key]
        simp only [Nat.beq, cond_true, nth_bool, hh, e1, e2]
        exact e _
      · have hf : hasL l i = false := by cases h : hasL l i <;> simp_all
        refine ⟨u, Hc, ?_, by simpa [hf] using ho, hle⟩
        rw [R_eq, e_iclauseTensor_0, hd, cond_true, key]
        simp only [Nat.beq, cond_true, nth_bool, hf, e1, cond_false])
    (s0 := ⟨0, 0, 0, 0, true⟩) (H := H0) (Le.refl _) (Own.nil _ _ _)
  exact this
end Go.Abs
/- Contracts: a clause's tensor (impl), whole. -/
namespace Go.Abs
set_option linter.unusedVariables false
set_option linter.unusedSimpArgs false

/-- Elements of which the first are told. -/
def elsN (f : Nat → List Int) (z : List Int) (N n : Nat) : List (List Int) := (List.range N).map fun j => if j < n then f j else z
theorem elsN_len (f : Nat → List Int) (z : List Int) (N n : Nat) : (elsN f z N n).length = N := by simp [elsN]
theorem elsN_zero (f : Nat → List Int) (z : List Int) (N : Nat) : elsN f z N 0 = List.replicate N z :=
  List.ext_getElem (by simp [elsN]) fun i h1 h2 => by simp [elsN]
theorem elsN_all (f : Nat → List Int) (z : List Int) (N : Nat) : elsN f z N N = (List.range N).map f :=
  List.ext_getElem (by simp [elsN]) fun i h1 h2 => by
    simp only [elsN, List.length_map, List.length_range] at h1
    simp [elsN, h1]
theorem elsN_set (f : Nat → List Int) (z : List Int) {N n : Nat} (h : n < N) : (elsN f z N n).set n (f n) = elsN f z N (n + 1) :=
  List.ext_getElem (by simp [elsN]) fun i h1 h2 => by
    simp only [elsN, List.length_map, List.length_range] at h2
    rw [List.getElem_set]
    simp only [elsN, List.getElem_map, List.getElem_range]
    by_cases e : n = i
    · subst e; rw [if_pos rfl, if_pos (by omega)]
    · rw [if_neg e]
      by_cases h3 : i < n
      · rw [if_pos h3, if_pos (by omega)]
      · rw [if_neg h3, if_neg (by omega)]
theorem elsN_skip {f : Nat → List Int} {z : List Int} {N n : Nat} (h : f n = z) : elsN f z N (n + 1) = elsN f z N n :=
  List.ext_getElem (by simp [elsN]) fun i h1 h2 => by
    simp only [elsN, List.getElem_map, List.getElem_range]
    by_cases e : i = n
    · subst e; rw [if_pos (by omega), if_neg (by omega), h]
    · by_cases h3 : i < n
      · rw [if_pos h3, if_pos (by omega)]
      · rw [if_neg h3, if_neg (by omega)]
theorem elsN_uni {f : Nat → List Int} {z : List Int} {w N n : Nat} (hf : ∀ j, (f j).length = w) (hz : z.length = w) : Uni w (elsN f z N n) := fun e he => by
  simp only [elsN, List.mem_map] at he
  obtain ⟨j, _, rfl⟩ := he
  split
  · exact hf j
  · exact hz
theorem elemF_len {r : Rg} (v : Nat) (l L : List Int) (n : Nat) : (elemF r v l L n).length = (widthR r).toNat := by
  unfold elemF
  split
  · exact oneR_len r
  · exact zeroR_len r
theorem vals_bits {V : List Int} {L I : List Int} (hV : ∀ v ∈ V, v = 0 ∨ v = 1) (hI : ∀ v ∈ I, v = 0 ∨ v = 1) : ∀ v ∈ setV V (L.zip I), v = 0 ∨ v = 1 := fun v hv => by
  rcases setV_mem _ _ _ hv with h | ⟨p, hp, e⟩
  · exact hV v h
  · rw [e]; exact hI _ (List.of_mem_zip hp).2
theorem fits_mem : ∀ {D I : List Int}, fitsI D I → ∀ x ∈ I, ∃ d ∈ D, 0 ≤ x ∧ x < d
  | d :: ds, y :: ys, h, x, hx => by
    rcases List.mem_cons.1 hx with rfl | hx
    · exact ⟨d, List.mem_cons_self, h.1, h.2.1⟩
    · obtain ⟨e, he, h'⟩ := fits_mem h.2.2 x hx
      exact ⟨e, List.mem_cons_of_mem _ he, h'⟩
  | [], [], _, x, hx => by simp at hx
  | [], _ :: _, h, _, _ => h.elim
  | _ :: _, [], h, _, _ => h.elim
theorem bits_twos {k : Nat} {n : Int} : ∀ v ∈ idxF (List.replicate k 2) n, v = 0 ∨ v = 1 := fun v hv => by
  obtain ⟨d, hd, h0, h1⟩ := fits_mem (idxF_fits (D := List.replicate k 2) (n := n) fun d hd => by rw [(List.mem_replicate.1 hd).2]; omega) v hv
  rw [(List.mem_replicate.1 hd).2] at h1
  omega
/-- The literals of a clause. -/
def LitsOk (v : Nat) (l : List Int) : Prop := l.length ≤ 1048576 ∧ ∀ x ∈ l, x ≠ 0 ∧ x.natAbs ≤ v
theorem row_ne {n0 : Nat} {H : AH} {rs : List Row} (h : Rows n0 H rs) {p q : Row} {xs ys zs : List Row} (e : rs = xs ++ p :: ys ++ q :: zs) (hp : p.2 ≠ []) (hq : q.2 ≠ []) : p.1.b ≠ q.1.b := by
  subst e
  have := h.apart
  rw [List.append_assoc, List.pairwise_append] at this
  have := this.2.1
  rw [List.cons_append, List.pairwise_cons] at this
  rcases this.1 q (by simp) with h | h | h
  · exact absurd h hp
  · exact absurd h hq
  · exact h

theorem c_iclauseTensor_1s {r : Rg} (hr : ringB r = true) {H0 : AH} {v : Nat} {s sL sI sV a b c : Sl} {l L : List Int} (hv : v ≤ 10) (hs : IS H0 s l) (hl : LitsOk v l) (hL : ∀ x ∈ L, 0 ≤ x ∧ x < v) (hLl : L.length ≤ v) {q1 q2 q3 : Sl}
    {n : Nat} {V : List Int} {H : AH} (hn : n < 2 ^ L.length) (hVl : V.length = v) (hVb : ∀ x ∈ V, x = 0 ∨ x = 1) (hVo : ∀ i : Nat, (i : Int) ∉ L → V[i]? = (List.replicate v (0 : Int))[i]?)
    (hF : Fr H0 H [(sV, V), (sI, idxF (List.replicate L.length 2) n), (a, L), (b, List.replicate L.length 2), (c, (elsN (elemF r v l L) (zeroR r) (2 ^ L.length) n).flatten), (sL, L)]) :
    ∃ H' V', R (.loop F.iclauseTensor 1) [ssc s, ssc sL, ssc sI, ssc sV, r.pv, tpv q1 q2 q3, tpv a b c] H = cond (decide (n + 1 < 2 ^ L.length)) (R (.loop F.iclauseTensor 1) [ssc s, ssc sL, ssc sI, ssc sV, r.pv, tpv q1 q2 q3, tpv a b c] H') (some ⟨1, [tpv a b c], H'⟩) ∧
      V'.length = v ∧ (∀ x ∈ V', x = 0 ∨ x = 1) ∧ (∀ i : Nat, (i : Int) ∉ L → V'[i]? = (List.replicate v (0 : Int))[i]?) ∧
      Fr H0 H' [(sV, V'), (sI, idxF (List.replicate L.length 2) ((n + 1 : Nat) : Int)), (a, L), (b, List.replicate L.length 2), (c, (elsN (elemF r v l L) (zeroR r) (2 ^ L.length) (n + 1)).flatten), (sL, L)] := by
  have hw := width_range hr
  have hwn : widthR r = ((widthR r).toNat : Int) := by omega
  have hN10 : 2 ^ L.length ≤ 2 ^ 10 := Nat.pow_le_pow_right (by omega) (by omega)
  have htw := twos_ok (k := L.length) (by omega)
  have hprd := prd_twos L.length
  generalize hD : List.replicate L.length (2 : Int) = D at *
  have hDl : D.length = L.length := by rw [← hD]; simp
  have hIl : (idxF D (n : Int)).length = L.length := by rw [idxF_len, hDl]
  have hbit : ∀ m : Int, ∀ x ∈ idxF D m, x = 0 ∨ x = 1 := fun m => by rw [← hD]; exact bits_twos
  -- the values
  have hvI := hF.own (s := sI) (l := idxF D n) (by simp)
  have hvV := hF.own (s := sV) (l := V) (by simp)
  have hvL := hF.own (s := sL) (l := L) (by simp)
  obtain ⟨H1, e1, m1⟩ := c_iclauseTensor_2 hvI.is hvL.is hvV (by rw [hIl]) (fun x hx => by rw [hVl]; exact hL x hx)
    (fun h1 h2 => Ne.symm (row_ne hF.rows (xs := []) (ys := []) (p := (sV, V)) (q := (sI, idxF D n)) rfl h2 h1))
    (fun h1 h2 => Ne.symm (row_ne hF.rows (xs := []) (ys := [_, _, _, _]) (zs := []) (p := (sV, V)) (q := (sL, L)) rfl h2 h1)) (by omega)
  have F1 := hF.mut [] m1 (fun e => List.length_eq_zero_iff.1 (by rw [setV_len, e]; rfl))
  generalize hV' : setV V (L.zip (idxF D n)) = V' at *
  have hV'l : V'.length = v := by rw [← hV', setV_len, hVl]
  have hV'b : ∀ x ∈ V', x = 0 ∨ x = 1 := by rw [← hV']; exact vals_bits hVb (hbit n)
  have hV'o : ∀ i : Nat, (i : Int) ∉ L → V'[i]? = (List.replicate v (0 : Int))[i]? := fun i hi => by rw [← hV', setV_get_off L _ V i (fun x hx => (hL x hx).1) hi]; exact hVo i hi
  have hV'v : V' = valsF v L (idxF D n) := by
    rw [← hV']
    exact setV_off L _ V _ (by rw [hIl]) (by simp [hVl]) (fun x hx => (hL x hx).1) hVo
  have hct := c_iclauseTrue (hs.le F1.le) (F1.is (s := sV) (l := V') (by simp)) ⟨hV'b, fun x hx => by rw [hV'l]; exact hl.2 x hx, by omega, hl.1⟩
  have hwl : (zeroR r).length = (widthR r).toNat := zeroR_len r
  have huni := elsN_uni (f := elemF r v l L) (z := zeroR r) (w := (widthR r).toNat) (N := 2 ^ L.length) (n := n) (fun j => elemF_len v l L j) hwl
  have hlen := elsN_len (elemF r v l L) (zeroR r) (2 ^ L.length) n
  have hN6 : 2 ^ L.length * (widthR r).toNat ≤ 1024 * 6 := Nat.mul_le_mul hN10 (by omega)
  -- the element
  have step2 : ∃ H2, (((R (.fn F.iclauseTrue) [ssc s, ssc sV] H1).bind fun r45 => (oneP r45.vs).bind fun p46 => p46.sc?.bind fun c47 => (boolAt [c47] 0).bind fun b48 =>
      cond b48
      ((R (.fn F.ioffsetIn) [ssc b, ssc sI] r45.H).bind fun r49 => (oneP r49.vs).bind fun p50 => p50.sc?.bind fun c51 => (intAt .i64 [c51] 0).bind fun n52 =>
       (R (.fn F.irawElem) [r.pv, tpv a b c, isc n52] r49.H).bind fun r53 => (oneP r53.vs).bind fun p54 => p54.sc?.bind fun c55 => (slAt [c55] 0).bind fun s56 =>
       (R (.fn F.irawOne) [r.pv] r53.H).bind fun r57 => (oneP r57.vs).bind fun p58 => p58.sc?.bind fun c59 => (slAt [c59] 0).bind fun s60 =>
       (cpB r57.H 1 s56 s60).bind fun m61 => some ⟨0, [], m61.2⟩)
      (some ⟨0, [], r45.H⟩)) : Option Out) = some ⟨0, [], H2⟩ ∧
      Fr H0 H2 [(sV, V'), (sI, idxF D (n : Int)), (a, L), (b, D), (c, (elsN (elemF r v l L) (zeroR r) (2 ^ L.length) (n + 1)).flatten), (sL, L)] := by
    rw [hct]
    simp only [Option.bind_some, one_bool]
    by_cases hc : l.any (litT V') = true
    · have hel : elemF r v l L n = oneR r := by unfold elemF; rw [hD, ← hV'v, if_pos hc]
      have hfit : fitsI D (idxF D n) := idxF_fits htw.ge
      have hoff := c_ioffsetIn (F1.is (s := b) (l := D) (by simp)) (F1.is (s := sI) (l := idxF D n) (by simp)) hfit (by omega) htw.ge (by rw [hprd]; omega)
      rw [offF_idx htw.ge (by omega) (by rw [hprd]; omega)] at hoff
      have hcO := F1.own (s := c) (l := (elsN (elemF r v l L) (zeroR r) (2 ^ L.length) n).flatten) (by simp)
      have hcc : c.c = 2 ^ L.length * (widthR r).toNat := by rw [hcO.c, uni_len huni, hlen]
      have hre := c_irawElem (r := r) (H := H1) (a := a) (b := b) (c := c) (n := n) hwn (by rw [hcc]; exact Nat.mul_le_mul_right _ (by omega)) (by omega) (by omega)
      obtain ⟨s60, H2, e2, n2⟩ := c_irawOne hr H1
      have F2 := F1.ext n2.le
      obtain ⟨H3, e3, m3⟩ := m_cp (w := (widthR r).toNat) (n := n) (v := oneR r) (by omega) huni (by rw [hlen]; exact hn) (oneR_len r) (F2.own (s := c) (l := (elsN (elemF r v l L) (zeroR r) (2 ^ L.length) n).flatten) (by simp)) n2.own.is
      refine ⟨H3, ?_, ?_⟩
      · rw [hc, cond_true, hoff]
        simp only [Option.bind_some, one_int]
        rw [hre]
        simp only [Option.bind_some, one_sl]
        rw [e2]
        simp only [Option.bind_some, one_sl]
        rw [e3]
        rfl
      · have F3 := F2.mut [(sV, V'), (sI, idxF D (n : Int)), (a, L), (b, D)] m3 (fun e => by
          have := congrArg List.length e
          rw [uni_len huni, hlen] at this
          have : 0 < 2 ^ L.length * (widthR r).toNat := Nat.mul_pos (by omega) (by omega)
          simp at *; omega)
        rw [← hel, elsN_set _ _ hn] at F3
        exact F3
    · have hc' : l.any (litT V') = false := Bool.eq_false_iff.2 hc
      have hel : elemF r v l L n = zeroR r := by unfold elemF; rw [hD, ← hV'v, if_neg hc]
      refine ⟨H1, by rw [hc']; rfl, ?_⟩
      rw [elsN_skip hel]
      exact F1
  obtain ⟨H2, e2, F2⟩ := step2
  -- the next index
  have hIo := F2.own (s := sI) (l := idxF D n) (by simp)
  have hDo := F2.own (s := b) (l := D) (by simp)
  obtain ⟨H3, e3, m3⟩ := m_inextIndex hDo.is (by omega) hIo (fun hne => Ne.symm (row_ne F2.rows (xs := [(sV, V')]) (ys := [(a, L)]) (zs := [_, _]) (p := (sI, idxF D n)) (q := (b, D)) rfl (fun e => hne (List.length_eq_zero_iff.1 (by rw [hDl, ← hIl, show idxF D (n : Int) = [] from e]; rfl))) hne)) (by rw [hIl, hDl]) (fun x hx => by have := hbit n x hx; omega)
  have hnx := nextF_idx (D := D) (n := n) htw.ge (by omega) (by rw [hprd]; omega)
  rw [hnx] at e3 m3
  have hcast : ((n : Int) + 1) = ((n + 1 : Nat) : Int) := by omega
  have F3 := F2.mut [(sV, V')] m3 (fun e => List.length_eq_zero_iff.1 (by rw [idxF_len, ← idxF_len D (n : Int), e]; rfl))
  refine ⟨H3, V', ?_, hV'l, hV'b, hV'o, ?_⟩
  · rw [R_eq, e_iclauseTensor_1, hvL.n, e1]
    simp only [Option.bind_some, Nat.beq, cond_true]
    have hdec : decide ((n : Int) + 1 < prd D) = decide (n + 1 < 2 ^ L.length) := by rw [hprd]; exact decide_eq_decide.2 (by omega)
    rw [e2]
    simp only [Option.bind_some, Nat.beq, cond_true]
    rw [e3]
    simp only [Option.bind_some, one_bool, hdec]
    cases decide (n + 1 < 2 ^ L.length) <;> rfl
  · rw [← hcast]; exact F3

theorem c_iclauseTensor_1 {r : Rg} (hr : ringB r = true) {H0 : AH} {v : Nat} {s sL sI sV a b c : Sl} {l L : List Int} (hv : v ≤ 10) (hs : IS H0 s l) (hl : LitsOk v l) (hL : ∀ x ∈ L, 0 ≤ x ∧ x < v) (hLl : L.length ≤ v) {q1 q2 q3 : Sl} :
    ∀ (k n : Nat) (V : List Int) (H : AH), n + k + 1 = 2 ^ L.length → V.length = v → (∀ x ∈ V, x = 0 ∨ x = 1) → (∀ i : Nat, (i : Int) ∉ L → V[i]? = (List.replicate v (0 : Int))[i]?) →
      Fr H0 H [(sV, V), (sI, idxF (List.replicate L.length 2) n), (a, L), (b, List.replicate L.length 2), (c, (elsN (elemF r v l L) (zeroR r) (2 ^ L.length) n).flatten), (sL, L)] →
      ∃ H', R (.loop F.iclauseTensor 1) [ssc s, ssc sL, ssc sI, ssc sV, r.pv, tpv q1 q2 q3, tpv a b c] H = some ⟨1, [tpv a b c], H'⟩ ∧ Fr H0 H' [(a, L), (b, List.replicate L.length 2), (c, ((List.range (2 ^ L.length)).map (elemF r v l L)).flatten)] := by
  intro k
  induction k with
  | zero =>
    intro n V H hn hVl hVb hVo hF
    obtain ⟨H', V', e, _, _, _, F'⟩ := c_iclauseTensor_1s hr hv hs hl hL hLl (by omega) hVl hVb hVo hF (q1 := q1) (q2 := q2) (q3 := q3)
    have : decide (n + 1 < 2 ^ L.length) = false := decide_eq_false (by omega)
    rw [this, cond_false] at e
    have hn' : n + 1 = 2 ^ L.length := by omega
    rw [hn', elsN_all] at F'
    exact ⟨H', e, F'.sub (by simp)⟩
  | succ k ih =>
    intro n V H hn hVl hVb hVo hF
    obtain ⟨H1, V', e, g1, g2, g3, F'⟩ := c_iclauseTensor_1s hr hv hs hl hL hLl (by omega) hVl hVb hVo hF (q1 := q1) (q2 := q2) (q3 := q3)
    have : decide (n + 1 < 2 ^ L.length) = true := decide_eq_true (by omega)
    rw [this, cond_true] at e
    obtain ⟨H', e', F2⟩ := ih (n + 1) V' H1 (by omega) g1 g2 g3 F'
    exact ⟨H', e.trans e', F2⟩

/-- impl.clauseTensor -/
theorem c_iclauseTensor {r : Rg} (hr : ringB r = true) {H : AH} {v : Nat} {w : Int} {s s0 : Sl} {l : List Int} (hv : v ≤ 10) (hw : w = (v : Int)) (hs : IS H s l) (hl : LitsOk v l) :
    ∃ a b c H', R (.fn F.iclauseTensor) [r.pv, cpv w s0, ssc s] H = some ⟨1, [tpv a b c], H'⟩ ∧ NewT H H' a b c (clauseT r v l) := by
  have hwd := width_range hr
  obtain ⟨sL, H1, e1, o1, l1⟩ := c_iclauseTensor_0 (s0 := s0) hv hw hs hl.1
  have hLl := labelsF_len v l
  have F1 := (Fr.start H).new l1 o1
  have e2 := c_itwos (labelsF v l).length (by omega) H1
  have F2 := F1.newN (new_app H1 (List.replicate (labelsF v l).length 2))
  obtain ⟨sz, H3, e3, n3⟩ := c_irawZero hr (H1 ++ [⟨ics (List.replicate (labelsF v l).length 2), .rw, 1⟩])
  have F3 := F2.newN n3
  have htw := twos_ok (k := (labelsF v l).length) (by omega)
  obtain ⟨a, b, c, H4, e4, t4⟩ := c_ifillTensor (r := r) (F3.is (s := sL) (l := labelsF v l) (by simp)) (F3.is (s := rowAt H1.length (List.replicate (labelsF v l).length 2)) (l := List.replicate (labelsF v l).length 2) (by simp)) (F3.is (s := sz) (l := zeroR r) (by simp)) (by omega) htw (w := (widthR r).toNat) (by omega) (by omega) (zeroR_len r)
  have F4 := (F3.newT t4).mk0 (labelsF v l).length
  have F5 := F4.mk0 v
  have hpn : (prd (List.replicate (labelsF v l).length 2)).toNat = 2 ^ (labelsF v l).length := by rw [prd_twos, Int.toNat_natCast]
  rw [hpn, ← elsN_zero (elemF r v l (labelsF v l))] at F5
  have hpos : 0 < 2 ^ (labelsF v l).length := Nat.pow_pos (by omega)
  have hz0 : idxF (List.replicate (labelsF v l).length 2) ((0 : Nat) : Int) = List.replicate (labelsF v l).length 0 := by
    have := idxF_zero (List.replicate (labelsF v l).length 2)
    rw [List.length_replicate] at this
    exact this
  rw [← hz0] at F5
  obtain ⟨H6, e6, F6⟩ := c_iclauseTensor_1 hr (s := s) (L := labelsF v l) hv hs hl (fun x hx => labelsF_mem hx) hLl (q1 := ⟨0, 0, 0, 0, true⟩) (q2 := ⟨0, 0, 0, 0, true⟩) (q3 := ⟨0, 0, 0, 0, true⟩) (2 ^ (labelsF v l).length - 1) 0 (List.replicate v 0) _ (by omega) (by simp) (fun x hx => .inl (List.mem_replicate.1 hx).2) (fun _ _ => rfl)
    (F5.sub (.cons₂ _ (.cons₂ _ (.cons₂ _ (.cons₂ _ (.cons₂ _ (.cons _ (.cons _ (.cons₂ _ .slnil)))))))))
  rw [hz0] at e6
  refine ⟨a, b, c, H6, ?_, ⟨F6.le, F6.rows⟩⟩
  subst hw
  rw [R_eq, e_iclauseTensor, e1]
  simp only [Option.bind_some, Nat.beq, cond_true, nth_sl]
  rw [o1.n, e2]
  simp only [Option.bind_some, one_sl]
  rw [e3]
  simp only [Option.bind_some, one_sl]
  rw [e4]
  simp only [Option.bind_some, oneP, PV.agg?, List.length_cons, List.length_nil, decide_true, cond_true, slAt, List.getElem?_cons_zero, List.getElem?_cons_succ]
  rw [mk_ints (by omega)]
  simp only [Option.bind_some]
  rw [mk_ints (by omega)]
  simp only [Option.bind_some]
  rw [e6]
  rfl
end Go.Abs
/- Words: a row of tensors of its own that grows. -/
namespace Go.Abs
set_option linter.unusedVariables false
set_option linter.unusedSimpArgs false

structure OOut (n0 : Nat) (H : AH) (s : Sl) (xs : List Tri) : Prop where
  o : s.o = 0
  n : s.n = xs.length
  c : s.c = xs.length
  blk : (xs = [] ∧ s.x = true) ∨ (xs ≠ [] ∧ n0 ≤ s.b ∧ H[s.b]? = some ⟨triC xs, .rw, 3⟩)
theorem OOut.outer {n0 : Nat} {H : AH} {s : Sl} {xs : List Tri} (h : OOut n0 H s xs) : Outer H s xs :=
  ⟨h.o, h.n, by rw [h.n, h.c]; exact Nat.le_refl _, by
    rcases h.blk with ⟨e, _⟩ | ⟨_, _, e⟩
    · exact .inl e
    · exact .inr ⟨.rw, triC xs, e, .inr rfl, fun i v h => h⟩⟩
theorem OOut.nil (n0 : Nat) (H : AH) (b : Nat) : OOut n0 H ⟨b, 0, 0, 0, true⟩ [] := ⟨rfl, rfl, rfl, .inl ⟨rfl, rfl⟩⟩
theorem OOut.keep {n0 : Nat} {H H' : AH} {s : Sl} {xs : List Tri} (h : OOut n0 H s xs) (hb : xs ≠ [] → H'[s.b]? = H[s.b]?) : OOut n0 H' s xs :=
  ⟨h.o, h.n, h.c, h.blk.imp id fun ⟨h1, h2, h3⟩ => ⟨h1, h2, (hb h1).trans h3⟩⟩
theorem OOut.lt {n0 : Nat} {H : AH} {s : Sl} {xs : List Tri} (h : OOut n0 H s xs) (hx : xs ≠ []) : s.b < H.length := by
  rcases h.blk with ⟨e, _⟩ | ⟨_, _, e⟩
  · exact absurd e hx
  · exact (List.getElem?_eq_some_iff.1 e).1
theorem OOut.le {n0 : Nat} {H H' : AH} {s : Sl} {xs : List Tri} (h : OOut n0 H s xs) (hb : Le H H') : OOut n0 H' s xs := h.keep fun hx => hb.get _ (h.lt hx)
theorem triC_app : ∀ (xs ys : List Tri), triC (xs ++ ys) = triC xs ++ triC ys
  | [], ys => rfl
  | x :: xs, ys => by simp [triC, triC_app xs ys]
theorem OOut.ne {n0 n1 : Nat} {H : AH} {s u : Sl} {xs : List Tri} {l : List Int} (h : OOut n0 H s xs) (hx : xs ≠ []) (ho : Own n1 H u l) (hl : l ≠ []) : u.b ≠ s.b := fun e => by
  have h1 := ho.blk' hl
  rcases h.blk with ⟨e', _⟩ | ⟨_, _, h2⟩
  · exact absurd e' hx
  · rw [e, h2] at h1; simp at h1

/-- A tensor is put at the end of a row of tensors. -/
theorem outer_push {H0 H : AH} {rs : List Row} {s : Sl} {xs : List Tri} (hF : Fr H0 H rs) (hO : OOut H0.length H s xs) (hl : xs.length ≤ 1048576) (a b c : Sl) :
    ∃ s' H', appB H 3 72 s [.sl a, .sl b, .sl c] 1 = some (s', H') ∧ Fr H0 H' rs ∧ OOut H0.length H' s' (xs ++ [(a, b, c)]) ∧ H.length ≤ H'.length ∧ (∀ d, d < H.length → (d ≠ s.b ∨ xs = []) → H'[d]? = H[d]?) := by
  have hlen := hF.le.len
  have hm : (s.n + 1) * 72 ≤ most := by rw [hO.n]; unfold most; omega
  have htri : triC (xs ++ [(a, b, c)]) = triC xs ++ [.sl a, .sl b, .sl c] := by rw [triC_app]; rfl
  have hrng : rng H s.b s.o (s.n * 3) = some (triC xs) := by
    unfold rng
    rcases hO.blk with ⟨e, _⟩ | ⟨e, _, h2⟩
    · subst e; rw [if_pos (by rw [hO.n]; rfl)]; rfl
    · have : xs.length ≠ 0 := fun h => e (List.length_eq_zero_iff.1 h)
      rw [if_neg (by rw [hO.n]; omega)]
      have hr : rdB H s.b = some (triC xs) := by unfold rdB; rw [h2]; rfl
      rw [hr]
      simp only [Option.bind_some]
      rw [if_pos (by rw [hO.o, hO.n, triC_len]; omega), hO.o, hO.n]
      simp only [List.drop_zero]
      rw [List.take_of_length_le (by rw [triC_len]; exact Nat.le_refl _)]
  unfold appB
  rw [if_neg (by rw [hO.n, hO.c]; omega), if_pos ⟨by omega, by omega, hm⟩, hrng]
  simp only [Option.bind_some]
  by_cases hx : s.x = true
  · simp only [hx]
    have hle := Le.app H [⟨triC xs ++ [.sl a, .sl b, .sl c], .rw, 3⟩]
    refine ⟨_, _, rfl, hF.ext hle, ⟨rfl, by simp [hO.n], by simp [hO.n], .inr ⟨by simp, hlen, by rw [htri]; simp⟩⟩, by simp, fun d hd _ => hle.get d hd⟩
  · have hx' : s.x = false := by cases e : s.x <;> simp_all
    simp only [hx']
    have hb : xs ≠ [] ∧ H0.length ≤ s.b ∧ H[s.b]? = some ⟨triC xs, .rw, 3⟩ := by
      rcases hO.blk with ⟨_, e⟩ | h
      · exact absurd e hx
      · exact h
    have hrw : rwB H s.b 3 = some (triC xs) := by unfold rwB; rw [hb.2.2]; rfl
    simp only [hrw, Option.bind_some]
    have hk : (killB H s.b).length = H.length := by simp [killB]
    have hget : ∀ d, d < H.length → d ≠ s.b → (killB H s.b ++ [(⟨triC xs ++ [.sl a, .sl b, .sl c], .rw, 3⟩ : Blk)])[d]? = H[d]? := fun d hd hne => by
      rw [List.getElem?_append_left (by omega)]
      unfold killB
      rw [List.getElem?_modify]
      have : ¬ s.b = d := fun e => hne e.symm
      simp [this]
    refine ⟨_, _, rfl, ⟨⟨by simp [hk]; omega, fun d hd => (hget d (by omega) (by omega)).trans (hF.le.get d hd)⟩, hF.rows.frame fun p hp hne => hget _ (hF.rows.lt p hp hne) (hO.ne hb.1 (hF.rows.own p hp) hne)⟩, ⟨rfl, by simp [hO.n], by simp [hO.n], .inr ⟨by simp, hlen, ?_⟩⟩, by simp [hk], fun d hd h => ?_⟩
    · rw [htri]
      have : H.length = (killB H s.b).length := hk.symm
      show (killB H s.b ++ _)[H.length]? = _
      rw [this]; simp
    · rcases h with h | h
      · exact hget d hd h
      · exact absurd h hb.1
theorem rng_new {H : AH} {b : Nat} {cs : List Sc} {z : Nat} (h : H[b]? = some ⟨cs, .rw, z⟩) {m : Nat} (hm : m = cs.length) (h0 : m ≠ 0) : rng H b 0 m = some cs := by
  unfold rng
  rw [if_neg h0]
  have hr : rdB H b = some cs := by unfold rdB; rw [h]; rfl
  rw [hr]
  simp only [Option.bind_some, List.drop_zero]
  rw [if_pos (by omega), List.take_of_length_le (by omega)]
theorem triv_bs {H : AH} {b1 b2 z : Nat} {k1 k2 : Blk} (h1 : H[b1]? = some k1) (h2 : H[b2]? = some k2) (hne : k1 ≠ k2) : b1 ≠ b2 := fun e => by
  subst e; rw [h1] at h2; cases h2; exact hne rfl
/-- What a place is that was kept free for a value. -/
theorem newAt_ok {H : AH} {i z : Nat} {cs : List Sc} (h : H[i]? = some resB) (hz : z ≠ 0) : newAt H i z cs = some (i, H.set i ⟨cs, .rw, z⟩) := by
  unfold newAt
  have : isRes H i = true := by unfold isRes; rw [h]; rfl
  rw [if_pos ⟨this, hz⟩]
theorem reserve1 (H : AH) : reserve H 1 = H ++ [resB] := rfl

/-- The call that makes a tensor, kept apart in a place of its own, and the row that takes it. -/
theorem push_tensor {H0 H H1 : AH} {rs : List Row} {s a b c : Sl} {xs : List Tri} {t : Tn} (hF : Fr H0 H rs) (hO : OOut H0.length H s xs) (hl : xs.length ≤ 1048576) (ht : NewT (H ++ [resB]) H1 a b c t) :
    ∃ s' H', (∀ {α : Type} (k : Sl × AH → Option α), ((newAt H1 (H.length + 0) 3 [.sl a, .sl b, .sl c]).bind fun h => (rng h.2 h.1 0 (1 * 3)).bind fun l => (appB h.2 3 72 s l 1).bind k) = k (s', H')) ∧
      Fr H0 H' (rows3 a b c t ++ rs) ∧ OOut H0.length H' s' (xs ++ [(a, b, c)]) ∧ H.length ≤ H'.length ∧ (∀ d, d < H.length → (d ≠ s.b ∨ xs = []) → H'[d]? = H[d]?) := by
  have hle := (Le.app H [resB]).trans ht.le
  have hres : H1[H.length]? = some resB := by rw [ht.le.get _ (by simp)]; simp
  have F1 : Fr H0 H1 (rows3 a b c t ++ rs) := by
    have := (hF.ext (Le.app H [resB])).newT ht
    exact this
  have hl1 : H.length < H1.length := by have := ht.le.len; simp at this; omega
  have hset : ∀ d, d ≠ H.length → (H1.set H.length ⟨[.sl a, .sl b, .sl c], .rw, 3⟩)[d]? = H1[d]? := fun d hd => List.getElem?_set_ne (Ne.symm hd)
  have hlt : H0.length ≤ H.length := hF.le.len
  have F2 : Fr H0 (H1.set H.length ⟨[.sl a, .sl b, .sl c], .rw, 3⟩) (rows3 a b c t ++ rs) := ⟨F1.le.set hlt, F1.rows.frame fun p hp hne => hset _ fun e => by
    have := (F1.rows.own p hp).blk' hne
    rw [e, hres] at this; simp [resB] at this⟩
  have hO1 := hO.le hle
  have hO2 : OOut H0.length (H1.set H.length ⟨[.sl a, .sl b, .sl c], .rw, 3⟩) s xs := hO1.keep fun hx => hset _ (by have := hO.lt hx; omega)
  obtain ⟨s', H', e, F3, O3, l3, f3⟩ := outer_push F2 hO2 hl a b c
  refine ⟨s', H', fun k => ?_, F3, O3, by simp at l3; omega, fun d hd h => ?_⟩
  · rw [Nat.add_zero, newAt_ok hres (by omega)]
    simp only [Option.bind_some]
    rw [rng_new (cs := [.sl a, .sl b, .sl c]) (z := 3) (m := 1 * 3) (by simp [hl1]) rfl (by omega)]
    simp only [Option.bind_some]
    rw [e]; rfl
  · rw [f3 d (by simp; omega) h, hset d (by omega), hle.get d hd]
/-- The same where the place is laid out after the call. -/
theorem push_tensor' {H0 H : AH} {rs : List Row} {s a b c : Sl} {xs : List Tri} (hF : Fr H0 H rs) (hO : OOut H0.length H s xs) (hl : xs.length ≤ 1048576) :
    ∃ s' H', (∀ {α : Type} (k : Sl × AH → Option α), ((newB H 3 [.sl a, .sl b, .sl c]).bind fun h => (rng h.2 h.1 0 (1 * 3)).bind fun l => (appB h.2 3 72 s l 1).bind k) = k (s', H')) ∧
      Fr H0 H' rs ∧ OOut H0.length H' s' (xs ++ [(a, b, c)]) ∧ H.length ≤ H'.length ∧ (∀ d, d < H.length → (d ≠ s.b ∨ xs = []) → H'[d]? = H[d]?) := by
  have hle := Le.app H [⟨[.sl a, .sl b, .sl c], .rw, 3⟩]
  obtain ⟨s', H', e, F3, O3, l3, f3⟩ := outer_push (hF.ext hle) (hO.le hle) hl a b c
  refine ⟨s', H', fun k => ?_, F3, O3, by simp at l3; omega, fun d hd h => ?_⟩
  · have hnb : newB H 3 [.sl a, .sl b, .sl c] = some (H.length, H ++ [⟨[.sl a, .sl b, .sl c], .rw, 3⟩]) := rfl
    rw [hnb]
    simp only [Option.bind_some]
    rw [rng_new (cs := [.sl a, .sl b, .sl c]) (z := 3) (m := 1 * 3) (by simp) rfl (by omega)]
    simp only [Option.bind_some]
    rw [e]; rfl
  · rw [f3 d (by simp; omega) h, hle.get d hd]
theorem rowsT_snoc : ∀ {xs : List Tri} {ts : List Tn} (x : Tri) (t : Tn), xs.length = ts.length → rowsT (xs ++ [x]) (ts ++ [t]) = rowsT xs ts ++ rows3 x.1 x.2.1 x.2.2 t
  | [], [], x, t, _ => by simp [rowsT]
  | y :: xs, u :: ts, x, t, h => by simp [rowsT, rowsT_snoc x t (show xs.length = ts.length by simpa using h)]
  | [], _ :: _, _, _, h => by simp at h
  | _ :: _, [], _, _, h => by simp at h
theorem Fr.snocT {H0 H : AH} {a b c : Sl} {t : Tn} {xs : List Tri} {ts : List Tn} {rs : List Row} (h : Fr H0 H (rows3 a b c t ++ (rowsT xs ts ++ rs))) (hl : xs.length = ts.length) : Fr H0 H (rowsT (xs ++ [(a, b, c)]) (ts ++ [t]) ++ rs) := by
  rw [rowsT_snoc _ _ hl]
  refine h.perm ?_
  rw [← List.append_assoc]
  exact List.perm_append_comm.append_right rs
/-- Such a row reads as its tensors. -/
theorem t3_of {H : AH} {s : Sl} {xs : List Tri} {ts : List Tn} (hO : Outer H s xs) (hl : xs.length = ts.length) (hr : ∀ p ∈ rowsT xs ts, IS H p.1 p.2) : T3 H s ts := by
  refine ⟨by rw [hO.n, hl], hO.c, ?_⟩
  rcases hO.blk with e | ⟨st, cells, hb, hst, hc⟩
  · subst e; exact .inl (List.length_eq_zero_iff.1 hl.symm)
  · refine .inr ⟨cells, ?_, fun i t hi => ?_⟩
    · unfold rdB
      rw [hb]
      rcases hst with rfl | rfl <;> rfl
    · have hi1 := (List.getElem?_eq_some_iff.1 hi).1
      have hx : xs[i]? = some xs[i] := List.getElem?_eq_getElem (by omega)
      obtain ⟨t1, t2, t3⟩ := triC_at xs i _ hx
      have key : ∀ (xs : List Tri) (ts : List Tn) (i : Nat) x t, xs[i]? = some x → ts[i]? = some t → ∀ p ∈ rows3 x.1 x.2.1 x.2.2 t, p ∈ rowsT xs ts := by
        intro xs
        induction xs with
        | nil => intro ts i x t h; simp at h
        | cons y xs ih =>
          intro ts i x t h1 h2 p hp
          cases ts with
          | nil => simp at h2
          | cons u ts =>
            cases i with
            | zero => simp at h1 h2; subst h1; subst h2; simp only [rowsT, List.mem_append]; exact .inl hp
            | succ i => simp only [rowsT, List.mem_append]; exact .inr (ih ts i x t (by simpa using h1) (by simpa using h2) p hp)
      have hk := key xs ts i _ t hx hi
      rw [hO.o, Nat.zero_add]
      exact ⟨_, _, _, hc _ _ t1, hc _ _ t2, hc _ _ t3, ⟨hr (_, t.L) (hk _ (by simp)), hr (_, t.D) (hk _ (by simp)), hr (_, t.X) (hk _ (by simp))⟩⟩
end Go.Abs
/- Contracts: a formula's network (impl). -/
namespace Go.Abs
set_option linter.unusedVariables false
set_option linter.unusedSimpArgs false

def bcs (l : List Bool) : List Sc := l.map Sc.bool
/-- Does a variable stand in a clause? -/
def usedB (ll : List (List Int)) (i : Nat) : Bool := ll.any fun l => l.any fun x => x.natAbs == i + 1
def pairT (r : Rg) (i : Nat) : Tn := ⟨[(i : Int)], [2], oneR r ++ oneR r⟩
def pairsF (r : Rg) (v : Nat) (ll : List (List Int)) : List Tn := ((List.range v).filter fun i => !usedB ll i).map (pairT r)
def formT (r : Rg) (v : Nat) (ll : List (List Int)) : List Tn := ll.map (clauseT r v) ++ pairsF r v ll

theorem take_snoc_any {α : Type} {l : List α} {i : Nat} (h : i < l.length) : l.take (i + 1) = l.take i ++ [l[i]] := by rw [List.take_succ_eq_append_getElem h]
theorem bool_put {H : AH} {b n : Nat} {x : Bool} {cs : List Bool} (hb : H[b]? = some ⟨bcs cs, .rw, 1⟩) {i : Nat} (hi : i < n) (hc : i < cs.length) (v : Bool) {α : Type} (k : AH → Option α) :
    ((ixA ⟨b, 0, n, n, x⟩ (i : Int) 1).bind fun o => (putR H b o [.bool v]).bind k) = k (H.set b ⟨bcs (cs.set i v), .rw, 1⟩) := by
  rw [ixA_nat (by exact hi)]
  simp only [Option.bind_some, Nat.zero_add, Nat.mul_one]
  rw [putR_one hb (by simpa [bcs] using hc)]
  simp only [Option.bind_some, bcs, List.map_set]
theorem bool_ld {H : AH} {b n : Nat} {x : Bool} {cs : List Bool} (hb : H[b]? = some ⟨bcs cs, .rw, 1⟩) {i : Nat} (hi : i < n) (hc : i < cs.length) {α : Type} (k : Bool → Option α) :
    ((ixA ⟨b, 0, n, n, x⟩ (i : Int) 1).bind fun o => (rdB H b).bind fun q => (boolAt q o).bind k) = k cs[i] := by
  rw [ixA_nat (by exact hi)]
  have hr : rdB H b = some (bcs cs) := by unfold rdB; rw [hb]; rfl
  have hg : boolAt (bcs cs) (0 + i * 1) = some cs[i] := by
    unfold boolAt bcs
    simp [hc]
  simp only [Option.bind_some, hr, hg]

/-- The marks of a clause's variables. -/
def markC (cs : List Bool) (l : List Int) : List Bool := l.foldl (fun c x => c.set (x.natAbs - 1) true) cs
theorem markC_len : ∀ (l : List Int) (cs : List Bool), (markC cs l).length = cs.length
  | [], cs => rfl
  | x :: l, cs => by show (markC (cs.set _ _) l).length = _; rw [markC_len l]; simp
theorem markC_get : ∀ (l : List Int) (cs : List Bool) (i : Nat), (∀ x ∈ l, x ≠ 0 ∧ x.natAbs ≤ cs.length) → i < cs.length → (markC cs l)[i]? = some ((cs[i]?.getD false) || l.any fun x => x.natAbs == i + 1)
  | [], cs, i, _, hi => by simp [markC, hi]
  | x :: l, cs, i, h, hi => by
    have hx := h x List.mem_cons_self
    show (markC (cs.set _ _) l)[i]? = _
    rw [markC_get l _ i (fun y hy => by simpa using h y (List.mem_cons_of_mem _ hy)) (by simpa using hi), List.getElem?_set]
    simp only [List.any_cons]
    by_cases e : x.natAbs - 1 = i
    · have e2 : (x.natAbs == i + 1) = true := by simp; omega
      rw [if_pos e, if_pos (by omega), e2]; simp
    · have e2 : (x.natAbs == i + 1) = false := by simp; omega
      rw [if_neg e, e2]; simp
theorem markC_used {v : Nat} {pre : List (List Int)} {l : List Int} (h : ∀ x ∈ l, x ≠ 0 ∧ x.natAbs ≤ v) : markC ((List.range v).map (usedB pre)) l = (List.range v).map (usedB (pre ++ [l])) := by
  refine List.ext_getElem? fun i => ?_
  by_cases hi : i < v
  · rw [markC_get l _ i (by simpa using h) (by simpa using hi)]
    simp [hi, usedB]
  · rw [List.getElem?_eq_none (by rw [markC_len]; simp; omega), List.getElem?_eq_none (by simp; omega)]

/-- impl.FormulaNetwork: the marks -/
theorem c_iFormulaNetwork_1 {H : AH} {bu v : Nat} {s : Sl} {l : List Int} {cs : List Bool} (hb : H[bu]? = some ⟨bcs cs, .rw, 1⟩) (hc : cs.length = v) (hv : v ≤ 10) (hs : IS H s l) (hsb : l ≠ [] → s.b ≠ bu) (hl : LitsOk v l) :
    R (.loop F.iFormulaNetwork 1) [ssc ⟨bu, 0, v, v, true⟩, ssc s, isc (l.length : Int), isc 0] H = some ⟨4, [], H.set bu ⟨bcs (markC cs l), .rw, 1⟩⟩ := by
  have key : ∀ k i, i + k = l.length → R (.loop F.iFormulaNetwork 1) [ssc ⟨bu, 0, v, v, true⟩, ssc s, isc (l.length : Int), isc (i : Int)] (H.set bu ⟨bcs (markC cs (l.take i)), .rw, 1⟩) = some ⟨4, [], H.set bu ⟨bcs (markC cs l), .rw, 1⟩⟩ := by
    intro k
    induction k with
    | zero =>
      intro i hi
      obtain rfl : i = l.length := by omega
      rw [List.take_of_length_le (Nat.le_refl _), R_eq, e_iFormulaNetwork_1, lt_self]; rfl
    | succ k ih =>
      intro i hi
      have hlt : i < l.length := by omega
      have hne : l ≠ [] := fun e => by rw [e] at hlt; simp at hlt
      have hx := hl.2 l[i] (List.getElem_mem hlt)
      rw [R_eq, e_iFormulaNetwork_1, lt_true hlt, w1 hlt (by have := hl.1; omega), cond_true, (hs.set hsb).ldk hlt, c_ivariableOf (by omega)]
      simp only [Option.bind_some, one_int]
      have e1 : IntKind.wrap .i64 ((l[i].natAbs : Int) - 1) = ((l[i].natAbs - 1 : Nat) : Int) := by rw [wrap_id] <;> omega
      rw [e1, bool_put (set_get hb) (by omega) (by rw [markC_len]; omega), set_set]
      have e2 : (markC cs (l.take i)).set (l[i].natAbs - 1) true = markC cs (l.take (i + 1)) := by
        rw [take_snoc hlt]; simp only [markC, List.foldl_append, List.foldl_cons, List.foldl_nil]
      rw [e2]
      exact ih (i + 1) (by omega)
  have h0 := key l.length 0 (by omega)
  have e : H.set bu ⟨bcs (markC cs (l.take 0)), .rw, 1⟩ = H := set_same (by rw [hb]; rfl)
  rw [e] at h0
  exact h0

theorem clause_lits {v : Nat} {l : List Int} (h : clauseB (v : Int) l = true) : LitsOk v l := by
  simp only [clauseB, Bool.and_eq_true, decide_eq_true_eq] at h
  refine ⟨by omega, fun x hx => ?_⟩
  have := List.all_eq_true.1 h.2 x hx
  simp only [litB, inB, Bool.and_eq_true, Bool.not_eq_true', beq_eq_false_iff_ne, decide_eq_true_eq] at this
  omega
theorem cnf_facts {w : Int} {ll : List (List Int)} (h : cnfB w ll = true) : ∃ v : Nat, w = (v : Int) ∧ v ≤ 10 ∧ ll.length ≤ 12 ∧ ∀ l ∈ ll, LitsOk v l := by
  simp only [cnfB, Bool.and_eq_true, decide_eq_true_eq, inB] at h
  refine ⟨w.toNat, by omega, by omega, h.1.2, fun l hl => ?_⟩
  have := List.all_eq_true.1 h.2 l hl
  have e : w = ((w.toNat : Nat) : Int) := by omega
  rw [e] at this
  exact clause_lits this

/-- The cells of a row of bools are no row of numbers, nor of tensors. -/
theorem bool_ne {n0 : Nat} {H : AH} {bu : Nat} {cs : List Bool} (hb : H[bu]? = some ⟨bcs cs, .rw, 1⟩) {s : Sl} {l : List Int} (ho : Own n0 H s l) (hl : l ≠ []) : s.b ≠ bu := fun e => by
  have h := ho.blk' hl
  rw [e, hb] at h
  simp at h
  cases l with
  | nil => exact hl rfl
  | cons x l => cases cs <;> simp [bcs] at h
theorem bool_ne3 {n0 : Nat} {H : AH} {bu : Nat} {cs : List Bool} (hb : H[bu]? = some ⟨bcs cs, .rw, 1⟩) {s : Sl} {xs : List Tri} (ho : OOut n0 H s xs) (hx : xs ≠ []) : bu ≠ s.b := fun e => by
  rcases ho.blk with ⟨h, _⟩ | ⟨_, _, h⟩
  · exact hx h
  · rw [← e, hb] at h; simp at h
theorem Fr.setB {H0 H : AH} {rs : List Row} (h : Fr H0 H rs) {bu : Nat} {cs cs' : List Bool} (hb : H[bu]? = some ⟨bcs cs, .rw, 1⟩) (hu : H0.length ≤ bu) : Fr H0 (H.set bu ⟨bcs cs', .rw, 1⟩) rs :=
  ⟨h.le.set hu, h.rows.frame fun p hp hne => List.getElem?_set_ne (Ne.symm (bool_ne hb (h.rows.own p hp) hne))⟩

structure NetS (H0 H : AH) (s : Sl) (xs : List Tri) (ts : List Tn) : Prop where
  fr : Fr H0 H (rowsT xs ts)
  len : xs.length = ts.length
  out : OOut H0.length H s xs
theorem NetS.t3 {H0 H : AH} {s : Sl} {xs : List Tri} {ts : List Tn} (h : NetS H0 H s xs ts) : T3 H s ts := t3_of h.out.outer h.len fun p hp => (h.fr.rows.own p hp).is

/-- impl.FormulaNetwork: the clauses -/
theorem c_iFormulaNetwork_0 {r : Rg} (hr : ringB r = true) {H0 : AH} {bu v : Nat} {sc s0 q : Sl} {ll : List (List Int)} (hv : v ≤ 10) (hu : H0.length ≤ bu) (hsc : I2 H0 sc ll) (hll : ll.length ≤ 12) (hl : ∀ l ∈ ll, LitsOk v l) :
    ∀ (k i : Nat) (s : Sl) (xs : List Tri) (H : AH), i + k = ll.length → NetS H0 H s xs ((ll.take i).map (clauseT r v)) → H[bu]? = some ⟨bcs ((List.range v).map (usedB (ll.take i))), .rw, 1⟩ →
      ∃ s' xs' H', R (.loop F.iFormulaNetwork 0) [ssc ⟨bu, 0, v, v, true⟩, ssc sc, isc (ll.length : Int), isc (i : Int), r.pv, cpv (v : Int) s0, npv r s q] H = some ⟨2, [npv r s' q], H'⟩ ∧ NetS H0 H' s' xs' (ll.map (clauseT r v)) ∧ H'[bu]? = some ⟨bcs ((List.range v).map (usedB ll)), .rw, 1⟩
  | 0, i, s, xs, H, hi, hN, hb => by
    obtain rfl : i = ll.length := by omega
    rw [List.take_of_length_le (Nat.le_refl _)] at hN hb
    exact ⟨s, xs, H, by rw [R_eq, e_iFormulaNetwork_0, lt_self]; rfl, hN, hb⟩
  | k + 1, i, s, xs, H, hi, hN, hb => by
    have hlt : i < ll.length := by omega
    obtain ⟨a1, ha1, hk1⟩ := (hsc.le hN.fr.le).ld hlt
    have hli := hl ll[i] (List.getElem_mem hlt)
    have hle1 := Le.app H [resB]
    obtain ⟨a, b, c, H1, e1, t1⟩ := c_iclauseTensor hr (s0 := s0) hv rfl (ha1.le hle1) hli
    have hxl : xs.length ≤ 12 := by rw [hN.len]; simp; omega
    obtain ⟨s2, H2, e2, F2, O2, l2, f2⟩ := push_tensor hN.fr hN.out (by omega) t1
    have hblt : bu < H.length := (List.getElem?_eq_some_iff.1 hb).1
    have hb2 : H2[bu]? = some ⟨bcs ((List.range v).map (usedB (ll.take i))), .rw, 1⟩ := by
      rw [f2 bu hblt (by
        by_cases hx : xs = []
        · exact .inr hx
        · exact .inl (bool_ne3 hb hN.out hx))]
      exact hb
    obtain ⟨a2, ha2, hk2⟩ := (hsc.le F2.le).ld hlt
    have ha1' : IS H2 a1 ll[i] := by
      obtain ⟨a0, ha0, hk0⟩ := hsc.ld hlt
      have h1 : a1 = a0 := by
        have e1 := hk1 (α := Sl) some
        have e0 := ((hsc.le hN.fr.le).ld hlt)
        have := hk0 (α := Sl) some
        rcases hsc.2.2 with e | ⟨cs, hcs, hg⟩
        · rw [e] at hlt; simp at hlt
        · rw [hcs] at this
          rw [hN.fr.le.rdB hcs] at e1
          rw [this] at e1
          exact (Option.some.inj e1).symm
      rw [h1]; exact ha0.le F2.le
    have hmk := c_iFormulaNetwork_1 (H := H2) (bu := bu) (v := v) (s := a1) (l := ll[i]) hb2 (by simp) hv ha1' (fun hne => by
      obtain ⟨a0, ha0, hk0⟩ := hsc.ld hlt
      have h1 : a1 = a0 := by
        have e1 := hk1 (α := Sl) some
        have := hk0 (α := Sl) some
        rcases hsc.2.2 with e | ⟨cs, hcs, hg⟩
        · rw [e] at hlt; simp at hlt
        · rw [hcs] at this
          rw [hN.fr.le.rdB hcs] at e1
          rw [this] at e1
          exact (Option.some.inj e1).symm
      have := ha0.lt hne
      rw [h1]; omega) hli
    rw [markC_used hli.2, ← take_snoc_any hlt] at hmk
    have hN2 : NetS H0 (H2.set bu ⟨bcs ((List.range v).map (usedB (ll.take (i + 1)))), .rw, 1⟩) s2 (xs ++ [(a, b, c)]) ((ll.take (i + 1)).map (clauseT r v)) := by
      have F3 := Fr.snocT (rs := []) (xs := xs) (by simpa using F2) hN.len
      rw [List.append_nil] at F3
      rw [take_snoc_any hlt, List.map_append]
      refine ⟨F3.setB hb2 hu, by simp [hN.len], O2.keep fun hx => List.getElem?_set_ne (bool_ne3 hb2 O2 hx)⟩
    obtain ⟨s', xs', H', e3, g1, g2⟩ := c_iFormulaNetwork_0 hr hv hu hsc hll hl k (i + 1) s2 (xs ++ [(a, b, c)]) _ (by omega) hN2 (set_get hb2)
    refine ⟨s', xs', H', ?_, g1, g2⟩
    rw [R_eq, e_iFormulaNetwork_0, lt_true hlt, w1 hlt (by omega), cond_true, hk1, reserve1, e1]
    simp only [Option.bind_some, oneP, PV.agg?, List.length_cons, List.length_nil, decide_true, cond_true, slAt, List.getElem?_cons_zero, List.getElem?_cons_succ]
    rw [e2, ha1.n, hmk]
    simp only [Option.bind_some, Nat.beq, cond_true]
    exact e3
end Go.Abs
/- Contracts: a formula's network (impl), whole. -/
namespace Go.Abs
set_option linter.unusedVariables false
set_option linter.unusedSimpArgs false

/-- The pairs of the variables that no clause has, of the first ones. -/
def pairsN (r : Rg) (n : Nat) (ll : List (List Int)) : List Tn := ((List.range n).filter fun i => !usedB ll i).map (pairT r)
theorem pairsN_succ (r : Rg) (n : Nat) (ll : List (List Int)) : pairsN r (n + 1) ll = pairsN r n ll ++ (if usedB ll n then [] else [pairT r n]) := by
  unfold pairsN
  rw [List.range_succ, List.filter_append, List.map_append]
  cases h : usedB ll n <;> simp [h]
theorem n0z : ((0 : Nat) : Int) = 0 := rfl
theorem pairsN_len (r : Rg) (n : Nat) (ll : List (List Int)) : (pairsN r n ll).length ≤ n := by
  unfold pairsN
  have := List.length_filter_le (fun i => !usedB ll i) (List.range n)
  simpa using this

/-- A tensor that a call makes in a place of its own is put at the end. -/
theorem NetS.push {H0 H H1 : AH} {s a b c : Sl} {xs : List Tri} {ts : List Tn} {t : Tn} (h : NetS H0 H s xs ts) (hl : ts.length ≤ 1048576) (ht : NewT (H ++ [resB]) H1 a b c t) :
    ∃ s' xs' H', (∀ {α : Type} (k : Sl × AH → Option α), ((newAt H1 (H.length + 0) 3 [.sl a, .sl b, .sl c]).bind fun h => (rng h.2 h.1 0 (1 * 3)).bind fun l => (appB h.2 3 72 s l 1).bind k) = k (s', H')) ∧
      NetS H0 H' s' xs' (ts ++ [t]) ∧ H.length ≤ H'.length ∧ (∀ d, d < H.length → (d ≠ s.b ∨ xs = []) → H'[d]? = H[d]?) := by
  obtain ⟨s', H', e, F, O, l, f⟩ := push_tensor h.fr h.out (by rw [h.len]; exact hl) ht
  have F3 := Fr.snocT (rs := []) (xs := xs) (by simpa using F) h.len
  rw [List.append_nil] at F3
  exact ⟨s', xs ++ [(a, b, c)], H', e, ⟨F3, by simp [h.len], O⟩, l, f⟩

/-- impl.FormulaNetwork: the pairs -/
theorem c_iFormulaNetwork_2 {r : Rg} (hr : ringB r = true) {H0 : AH} {bu v : Nat} {q : Sl} {ll : List (List Int)} {base : List Tn} (hv : v ≤ 10) (hbase : base.length ≤ 1024) :
    ∀ (k i : Nat) (s : Sl) (xs : List Tri) (H : AH), i + k = v → NetS H0 H s xs (base ++ pairsN r i ll) → H[bu]? = some ⟨bcs ((List.range v).map (usedB ll)), .rw, 1⟩ →
      ∃ s' xs' H', R (.loop F.iFormulaNetwork 2) [ssc ⟨bu, 0, v, v, true⟩, isc (v : Int), isc (i : Int), r.pv, npv r s q] H = some ⟨6, [npv r s' q], H'⟩ ∧ NetS H0 H' s' xs' (base ++ pairsN r v ll)
  | 0, i, s, xs, H, hi, hN, hb => by
    obtain rfl : i = v := by omega
    exact ⟨s, xs, H, by rw [R_eq, e_iFormulaNetwork_2, lt_self]; rfl, hN⟩
  | k + 1, i, s, xs, H, hi, hN, hb => by
    have hlt : i < v := by omega
    have hld : ∀ {α : Type} (f : Bool → Option α), ((ixA ⟨bu, 0, v, v, true⟩ (i : Int) 1).bind fun o => (rdB H bu).bind fun c => (boolAt c o).bind f) = f (usedB ll i) := fun f => by
      rw [bool_ld hb hlt (by simp; exact hlt)]
      simp
    by_cases hu : usedB ll i = true
    · have hN2 : NetS H0 H s xs (base ++ pairsN r (i + 1) ll) := by rw [pairsN_succ, hu]; simpa using hN
      obtain ⟨s', xs', H', e3, g1⟩ := c_iFormulaNetwork_2 hr hv hbase k (i + 1) s xs H (by omega) hN2 hb
      refine ⟨s', xs', H', ?_, g1⟩
      rw [R_eq, e_iFormulaNetwork_2, lt_true hlt, w1 hlt (by omega), cond_true, hld, hu]
      simp only [Bool.not_true, cond_false]
      exact e3
    · have hu' : usedB ll i = false := Bool.eq_false_iff.2 hu
      obtain ⟨s1, H1, e1, n1⟩ := c_irawOne hr (H ++ [resB])
      obtain ⟨s2, H2, e2, n2⟩ := c_irawOne hr H1
      have hol := oneR_len r
      have hw := width_range hr
      obtain ⟨a, b, c, H3, e3, t3⟩ := c_ipairTensor (n1.own.is.le n2.le) n2.own.is (by omega) (i : Int)
      have t3' : NewT (H ++ [resB]) H3 a b c (pairT r i) := ⟨(n1.le.trans n2.le).trans t3.le, t3.rows.low (n1.le.trans n2.le).len⟩
      have hpl := pairsN_len r i ll
      obtain ⟨s4, xs4, H4, e4, N4, l4, f4⟩ := hN.push (by simp; omega) t3'
      have hN2 : NetS H0 H4 s4 xs4 (base ++ pairsN r (i + 1) ll) := by rw [pairsN_succ, hu']; simpa using N4
      have hblt : bu < H.length := (List.getElem?_eq_some_iff.1 hb).1
      have hb4 : H4[bu]? = some ⟨bcs ((List.range v).map (usedB ll)), .rw, 1⟩ := by
        rw [f4 bu hblt (by
          by_cases hx : xs = []
          · exact .inr hx
          · exact .inl (bool_ne3 hb hN.out hx))]
        exact hb
      obtain ⟨s', xs', H', e5, g1⟩ := c_iFormulaNetwork_2 hr hv hbase k (i + 1) s4 xs4 H4 (by omega) hN2 hb4
      refine ⟨s', xs', H', ?_, g1⟩
      rw [R_eq, e_iFormulaNetwork_2, lt_true hlt, w1 hlt (by omega), cond_true, hld, hu']
      simp only [Bool.not_false, cond_true]
      rw [reserve1, e1]
      simp only [Option.bind_some, one_sl]
      rw [e2]
      simp only [Option.bind_some, one_sl]
      rw [e3]
      simp only [Option.bind_some, oneP, PV.agg?, List.length_cons, List.length_nil, decide_true, cond_true, slAt, List.getElem?_cons_zero, List.getElem?_cons_succ]
      rw [e4]
      exact e5

def netF (r : Rg) (v : Nat) (ll : List (List Int)) : Nw := ⟨r, formT r v ll, []⟩
/-- Does the formula have a network? -/
def fnB (r : Rg) (w : Int) (ll : List (List Int)) : Bool := ringB r && cnfB w ll && netB (netF r w.toNat ll)
@[reducible] def npv0 : PV := .agg [.int .i64 0, .int .i64 0, .int .i64 0, .sl ⟨0, 0, 0, 0, true⟩, .sl ⟨0, 0, 0, 0, true⟩]

theorem mk_bools {H : AH} {n : Nat} (hn : n ≤ 134217728) : mkB H 1 1 [.bool false] (n : Int) (n : Int) = some (⟨H.length, 0, n, n, true⟩, H ++ [⟨bcs (List.replicate n false), .rw, 1⟩]) := by
  unfold mkB
  have := most_ok hn
  rw [if_pos ⟨by omega, by omega, by omega, by omega, by omega⟩]
  simp [bcs, List.map_replicate, List.flatten_replicate_singleton]

/-- impl.FormulaNetwork -/
theorem c_iFormulaNetwork {r : Rg} {H : AH} {w : Int} {s : Sl} {ll : List (List Int)} (hs : I2 H s ll) :
    (fnB r w ll = true ∧ ∃ s' xs H', R (.fn F.iFormulaNetwork) [r.pv, cpv w s] H = some ⟨1, [npv r s' ⟨0, 0, 0, 0, true⟩, bsc true], H'⟩ ∧ NetS H H' s' xs (formT r w.toNat ll)) ∨
    (fnB r w ll = false ∧ ∃ H', R (.fn F.iFormulaNetwork) [r.pv, cpv w s] H = some ⟨1, [npv0, bsc false], H'⟩ ∧ Le H H') := by
  unfold fnB
  cases hr : ringB r with
  | false => exact .inr ⟨rfl, H, by rw [R_eq, e_iFormulaNetwork, c_iRingOk, hr]; rfl, Le.refl H⟩
  | true =>
  cases hc : cnfB w ll with
  | false =>
    refine .inr ⟨rfl, H, ?_, Le.refl H⟩
    rw [R_eq, e_iFormulaNetwork, c_iRingOk, hr]
    simp only [Option.bind_some, one_bool, Bool.not_true, cond_false]
    rw [c_iCnfOk hs, hc]
    rfl
  | true =>
  obtain ⟨v, rfl, hv, hll, hl⟩ := cnf_facts hc
  have hbool0 : bcs (List.replicate v false) = bcs ((List.range v).map (usedB (ll.take 0))) := by
    congr 1
    refine List.ext_getElem (by simp) fun i h1 h2 => ?_
    simp [usedB]
  have hle0 := Le.app H [⟨bcs (List.replicate v false), .rw, 1⟩]
  have hN0 : NetS H (H ++ [⟨bcs (List.replicate v false), .rw, 1⟩]) ⟨0, 0, 0, 0, true⟩ [] ((ll.take 0).map (clauseT r v)) := ⟨by simp [rowsT]; exact Fr.of hle0, by simp, OOut.nil _ _ _⟩
  obtain ⟨s1, xs1, H1, e1, N1, b1⟩ := c_iFormulaNetwork_0 (bu := H.length) (sc := s) (s0 := s) (q := ⟨0, 0, 0, 0, true⟩) hr hv (Nat.le_refl _) hs hll hl ll.length 0 ⟨0, 0, 0, 0, true⟩ [] _ (by omega) hN0 (by rw [← hbool0]; simp)
  have hp0 : pairsN r 0 ll = [] := rfl
  obtain ⟨s2, xs2, H2, e2, N2⟩ := c_iFormulaNetwork_2 (bu := H.length) (q := ⟨0, 0, 0, 0, true⟩) (base := ll.map (clauseT r v)) (ll := ll) hr hv (by simp; omega) v 0 s1 xs1 H1 (by omega) (by rw [hp0, List.append_nil]; exact N1) b1
  have hform : ll.map (clauseT r v) ++ pairsN r v ll = formT r v ll := rfl
  rw [n0z] at e1 e2
  rw [hform] at N2
  have hNS : NS H2 s2 ⟨0, 0, 0, 0, true⟩ (netF r v ll) := ⟨N2.t3, IS.nil _ _ _ _ _⟩
  obtain ⟨H3, e3, l3⟩ := c_iNetworkOk hNS (by simp [netF])
  have hmain : R (.fn F.iFormulaNetwork) [r.pv, cpv (v : Int) s] H = cond (netB (netF r v ll)) (some ⟨1, [npv r s2 ⟨0, 0, 0, 0, true⟩, bsc true], H3⟩) (some ⟨1, [npv0, bsc false], H3⟩) := by
    rw [R_eq, e_iFormulaNetwork, c_iRingOk, hr]
    simp only [Option.bind_some, one_bool, Bool.not_true, cond_false]
    rw [c_iCnfOk hs, hc]
    simp only [Option.bind_some, one_bool, Bool.not_true, cond_false]
    rw [mk_bools (by omega)]
    simp only [Option.bind_some]
    rw [hs.1, e1]
    simp only [Option.bind_some, Nat.beq, cond_true, nthP, List.getElem?_cons_zero, PV.agg?, List.length_cons, List.length_nil, decide_true, intAt, slAt, List.getElem?_cons_succ, if_true]
    rw [e2]
    simp only [Option.bind_some, Nat.beq, cond_true, nthP, List.getElem?_cons_zero, PV.agg?, List.length_cons, List.length_nil, decide_true, intAt, slAt, List.getElem?_cons_succ, if_true]
    have e3 : R (.fn F.iNetworkOk) [npv r s2 ⟨0, 0, 0, 0, true⟩] H2 = some ⟨1, [bsc (netB (netF r v ll))], H3⟩ := e3
    rw [e3]
    simp only [Option.bind_some, one_bool]
    cases netB (netF r v ll) <;> rfl
  rw [Int.toNat_natCast]
  cases hn : netB (netF r v ll) with
  | true => exact .inl ⟨rfl, s2, xs2, H3, by rw [hmain, hn]; rfl, ⟨N2.fr.ext l3, N2.len, N2.out.le l3⟩⟩
  | false => exact .inr ⟨rfl, H3, by rw [hmain, hn]; rfl, N2.fr.le.trans l3⟩
end Go.Abs
/- Contracts: a formula's network (spec). -/
namespace Go.Abs
set_option linter.unusedVariables false
set_option linter.unusedSimpArgs false

theorem colF_app {α : Type} (g : Nat → α → Option Int) : ∀ (a b : List α) (i : Nat), colF g (a ++ b) i = colF g a i ++ colF g b (i + a.length)
  | [], b, i => by simp [colF]
  | x :: a, b, i => by
    simp only [List.cons_append, colF, List.length_cons]
    rw [colF_app g a b (i + 1)]
    simp [Nat.add_assoc, Nat.add_comm 1]
theorem labelsF_succ (n : Nat) (l : List Int) : labelsF (n + 1) l = labelsF n l ++ (if hasL l n then [(n : Int)] else []) := by
  unfold labelsF
  rw [List.range_succ, colF_app]
  cases h : hasL l n <;> simp [colF, h]

/-- spec.FormulaNetwork: the labels -/
theorem c_sFormulaNetwork_1 {H0 : AH} {v : Nat} {s s0 : Sl} {l : List Int} (hv : v ≤ 10) (hs : IS H0 s l) (hl : l.length ≤ 1048576) :
    ∀ (k i : Nat) (u d : Sl) (H : AH), i + k = v → Fr H0 H [(u, labelsF i l), (d, List.replicate (labelsF i l).length 2)] →
      ∃ u' d' H', R (.loop F.sFormulaNetwork 1) [ssc s, ssc u, ssc d, isc ((i + 1 : Nat) : Int), cpv (v : Int) s0] H = some ⟨4, [ssc u', ssc d'], H'⟩ ∧ Fr H0 H' [(u', labelsF v l), (d', List.replicate (labelsF v l).length 2)]
  | 0, i, u, d, H, hi, hF => by
    obtain rfl : i = v := by omega
    refine ⟨u, d, H, ?_, hF⟩
    have : decide (((i + 1 : Nat) : Int) ≤ (i : Int)) = false := decide_eq_false (by omega)
    rw [R_eq, e_sFormulaNetwork_1, this]; rfl
  | k + 1, i, u, d, H, hi, hF => by
    have hd : decide (((i + 1 : Nat) : Int) ≤ (v : Int)) = true := decide_eq_true (by omega)
    have e0 : IntKind.wrap .i64 (0 - ((i + 1 : Nat) : Int)) = -((i + 1 : Nat) : Int) := by rw [wrap_id] <;> omega
    have e1 : IntKind.wrap .i64 (((i + 1 : Nat) : Int) + 1) = ((i + 1 + 1 : Nat) : Int) := by rw [wrap_id] <;> omega
    have e2 : IntKind.wrap .i64 (((i + 1 : Nat) : Int) - 1) = (i : Int) := by rw [wrap_id] <;> omega
    have hsH := hs.le hF.le
    have key : ∀ (f : Out → Option Out), (((R (.fn F.sl05Find) [ssc s, isc ((i + 1 : Nat) : Int)] H).bind fun r14 => (oneP r14.vs).bind fun p15 => p15.sc?.bind fun c16 => (intAt .i64 [c16] 0).bind fun n17 =>
        cond (decide (n17 ≥ 0)) (some (⟨0, [.sc (.bool true)], r14.H⟩ : Out)) ((R (.fn F.sl05Find) [ssc s, isc (IntKind.wrap .i64 (0 - ((i + 1 : Nat) : Int)))] r14.H).bind fun r18 => (oneP r18.vs).bind fun p19 => p19.sc?.bind fun c20 => (intAt .i64 [c20] 0).bind fun n21 => some ⟨0, [.sc (.bool (decide (n21 ≥ 0)))], r18.H⟩)) : Option Out).bind f = f ⟨0, [bsc (hasL l i)], H⟩ := by
      intro f
      rw [c_sl05Find hsH hl]
      simp only [Option.bind_some, one_int]
      rw [e0, c_sl05Find hsH hl]
      simp only [Option.bind_some, one_int]
      rw [find_any, find_any]
      unfold hasL
      cases (l.any fun x => ((i + 1 : Nat) : Int) == x) <;> rfl
    by_cases hh : hasL l i = true
    · have hll := labelsF_len i l
      obtain ⟨u1, H1, p1, F1⟩ := hF.push [] (by omega) (i : Int)
      obtain ⟨d1, H2, p2, F2⟩ := F1.push [(u1, labelsF i l ++ [(i : Int)])] (by simp; omega) 2
      have hF2 : Fr H0 H2 [(u1, labelsF (i + 1) l), (d1, List.replicate (labelsF (i + 1) l).length 2)] := by
        rw [labelsF_succ, hh]
        simp only [if_true, List.length_append, List.length_cons, List.length_nil, Nat.zero_add]
        rw [List.replicate_succ']
        exact F2
      obtain ⟨u', d', H', e3, g⟩ := c_sFormulaNetwork_1 (s0 := s0) hv hs hl k (i + 1) u1 d1 H2 (by omega) hF2
      refine ⟨u', d', H', ?_, g⟩
      rw [R_eq, e_sFormulaNetwork_1, hd, cond_true, key]
      simp only [Nat.beq, cond_true, nth_bool, hh, e1, e2]
      rw [p1, p2]
      exact e3
    · have hh' : hasL l i = false := Bool.eq_false_iff.2 hh
      have hF2 : Fr H0 H [(u, labelsF (i + 1) l), (d, List.replicate (labelsF (i + 1) l).length 2)] := by
        rw [labelsF_succ, hh']; simpa using hF
      obtain ⟨u', d', H', e3, g⟩ := c_sFormulaNetwork_1 (s0 := s0) hv hs hl k (i + 1) u d H (by omega) hF2
      refine ⟨u', d', H', ?_, g⟩
      rw [R_eq, e_sFormulaNetwork_1, hd, cond_true, key]
      simp only [Nat.beq, cond_true, nth_bool, hh', e1, cond_false]
      exact e3

/-- spec.FormulaNetwork: the values of the labels -/
theorem c_sFormulaNetwork_3 {n0 : Nat} {H : AH} {sI sV sL : Sl} {I V L : List Int} (hI : IS H sI I) (hL : IS H sL L) (hV : Own n0 H sV V) (hLI : L.length = I.length) (hb : ∀ x ∈ L, 0 ≤ x ∧ x < V.length) (h1 : I ≠ [] → V ≠ [] → sI.b ≠ sV.b) (h2 : L ≠ [] → V ≠ [] → sL.b ≠ sV.b) (hl : L.length ≤ 1048576) :
    ∃ H', R (.loop F.sFormulaNetwork 3) [ssc sL, ssc sV, ssc sI, isc (I.length : Int), isc 0] H = some ⟨8, [], H'⟩ ∧ Mut n0 H H' sV V (setV V (L.zip I)) := by
  by_cases hne : V = []
  · have : L = [] := by
      cases L with
      | nil => rfl
      | cons x L => have := hb x List.mem_cons_self; rw [hne] at this; simp at this; omega
    subst this
    have : I = [] := List.length_eq_zero_iff.1 (by rw [← hLI]; rfl)
    subst this
    refine ⟨H, ?_, Mut.refl hV⟩
    have : R (.loop F.sFormulaNetwork 3) [ssc sL, ssc sV, ssc sI, isc (0 : Nat), isc ((0 : Nat) : Int)] H = some ⟨8, [], H⟩ := by rw [R_eq, e_sFormulaNetwork_3, lt_self]; rfl
    exact this
  · refine ⟨_, ?_, Mut.set (l' := setV V (L.zip I)) hV hne (setV_len _ _)⟩
    have := setV_key hV hne (β := Option Out) (F := fun i Hc => R (.loop F.sFormulaNetwork 3) [ssc sL, ssc sV, ssc sI, isc (I.length : Int), isc (i : Int)] Hc) (L := L) (I := I) hLI (fun i g1 g2 cs hcs => by
      have hx := hb L[i] (List.getElem_mem g1)
      have hIne : I ≠ [] := fun e => by rw [e] at g2; simp at g2
      have hLne : L ≠ [] := fun e => by rw [e] at g1; simp at g1
      rw [R_eq, e_sFormulaNetwork_3, lt_true g2, w1 g2 (by omega), cond_true, (hI.set fun _ => h1 hIne hne).ldk g2, (hL.set fun _ => h2 hLne hne).ldk g1, hV.eta]
      rw [st_lab (set_get (hV.blk' hne)) hx.1 hx.2 (by omega), set_set])
    have this : R (.loop F.sFormulaNetwork 3) [ssc sL, ssc sV, ssc sI, isc (I.length : Int), isc 0] H = _ := this
    rw [this, hLI, R_eq, e_sFormulaNetwork_3, lt_self]
    rfl

/-- spec.FormulaNetwork: the elements of a clause's tensor -/
theorem c_sFormulaNetwork_2 {r : Rg} (hr : ringB r = true) {H0 : AH} {v : Nat} {s s0 sL sD a b c : Sl} {l L : List Int} (hv : v ≤ 10) (hs : IS H0 s l) (hl : LitsOk v l) (hL : ∀ x ∈ L, 0 ≤ x ∧ x < v) (hLl : L.length ≤ v) :
    ∀ (k n : Nat) (H : AH), n + k = 2 ^ L.length →
      Fr H0 H [(a, L), (b, List.replicate L.length 2), (c, (elsN (elemF r v l L) (zeroR r) (2 ^ L.length) n).flatten), (sL, L), (sD, List.replicate L.length 2)] →
      ∃ H', R (.loop F.sFormulaNetwork 2) [ssc s, ssc sL, ssc sD, isc (n : Int), r.pv, cpv (v : Int) s0, tpv a b c] H = some ⟨6, [], H'⟩ ∧ Fr H0 H' [(a, L), (b, List.replicate L.length 2), (c, ((List.range (2 ^ L.length)).map (elemF r v l L)).flatten), (sL, L), (sD, List.replicate L.length 2)]
  | k, n, H, hn, hF => by
    have hw := width_range hr
    have hwn : widthR r = ((widthR r).toNat : Int) := by omega
    have hN10 : 2 ^ L.length ≤ 2 ^ 10 := Nat.pow_le_pow_right (by omega) (by omega)
    have htw := twos_ok (k := L.length) (by omega)
    have hprd := prd_twos L.length
    have hpc : prodC 4096 1 (List.replicate L.length 2) = ((2 ^ L.length : Nat) : Int) := by rw [prodC_eq (by omega) htw.ge (by rw [hprd]; omega), hprd]; omega
    have hprod := c_sl05Product (hF.is (s := sD) (l := List.replicate L.length 2) (by simp)) (by simp; omega) (fun d hd => by rw [(List.mem_replicate.1 hd).2]; omega)
    rw [hpc] at hprod
    cases k with
    | zero =>
      have hn' : n = 2 ^ L.length := by omega
      subst hn'
      rw [elsN_all] at hF
      refine ⟨H, ?_, hF⟩
      rw [R_eq, e_sFormulaNetwork_2, hprod]
      simp only [Option.bind_some, one_int, lt_self, cond_false]
    | succ k =>
    have hlt : n < 2 ^ L.length := by omega
    generalize hD : List.replicate L.length (2 : Int) = D at *
    have hDl : D.length = L.length := by rw [← hD]; simp
    have hIl : (idxF D (n : Int)).length = L.length := by rw [idxF_len, hDl]
    have hbit : ∀ m : Int, ∀ x ∈ idxF D m, x = 0 ∨ x = 1 := fun m => by rw [← hD]; exact bits_twos
    have F1 := hF.mk0 v
    have hidx := c_sl05Index (F1.is (s := sD) (l := D) (by simp)) (by omega) htw.ge (n := n) (by omega) (by omega)
    have F2 := F1.newN (new_app _ (idxF D n))
    have hVo := F2.own (s := ⟨H.length, 0, v, v, true⟩) (l := List.replicate v 0) (by simp)
    have hIo := F2.own (s := rowAt (H ++ [(⟨ics (List.replicate v 0), .rw, 1⟩ : Blk)]).length (idxF D n)) (l := idxF D n) (by simp)
    obtain ⟨H3, e3, m3⟩ := c_sFormulaNetwork_3 hIo.is (F2.is (s := sL) (l := L) (by simp)) hVo (by rw [hIl]) (fun x hx => by simpa using hL x hx)
      (fun h1 h2 => row_ne F2.rows (xs := []) (ys := []) (p := (_, _)) (q := (_, _)) rfl h1 h2)
      (fun h1 h2 => Ne.symm (row_ne F2.rows (xs := [_]) (ys := [_, _, _]) (zs := [_]) (p := (_, List.replicate v 0)) (q := (sL, L)) rfl h2 h1)) (by omega)
    have F3 := F2.mut [_] m3 (fun e => List.length_eq_zero_iff.1 (by rw [setV_len, e]; rfl))
    have hbits := vals_bits (V := List.replicate v 0) (L := L) (I := idxF D n) (fun x hx => .inl (List.mem_replicate.1 hx).2) (hbit n)
    have hct := c_sl38True (hs.le F3.le) (F3.is (s := ⟨H.length, 0, v, v, true⟩) (l := setV (List.replicate v 0) (L.zip (idxF D n))) (by simp)) ⟨hbits, fun x hx => by rw [setV_len]; simpa using hl.2 x hx, by rw [setV_len]; simp; omega, hl.1⟩
    have hvals : setV (List.replicate v 0) (L.zip (idxF D n)) = valsF v L (idxF D n) := rfl
    rw [hvals] at hct F3
    have hwl : (zeroR r).length = (widthR r).toNat := zeroR_len r
    have huni := elsN_uni (f := elemF r v l L) (z := zeroR r) (w := (widthR r).toNat) (N := 2 ^ L.length) (n := n) (fun j => elemF_len v l L j) hwl
    have hlen := elsN_len (elemF r v l L) (zeroR r) (2 ^ L.length) n
    have hN6 : 2 ^ L.length * (widthR r).toNat ≤ 1024 * 6 := Nat.mul_le_mul hN10 (by omega)
    have hw1' : IntKind.wrap .i64 ((n : Int) + 1) = ((n + 1 : Nat) : Int) := by rw [wrap_id] <;> omega
    have hcond : ∀ (X Y : Option Out), cond (decide ((n : Int) < ((2 ^ L.length : Nat) : Int))) X Y = X := fun X Y => by rw [lt_true hlt]; rfl
    -- one round, and the rest
    have round : ∃ H4, R (.loop F.sFormulaNetwork 2) [ssc s, ssc sL, ssc sD, isc (n : Int), r.pv, cpv (v : Int) s0, tpv a b c] H = R (.loop F.sFormulaNetwork 2) [ssc s, ssc sL, ssc sD, isc ((n + 1 : Nat) : Int), r.pv, cpv (v : Int) s0, tpv a b c] H4 ∧
        Fr H0 H4 [(a, L), (b, D), (c, (elsN (elemF r v l L) (zeroR r) (2 ^ L.length) (n + 1)).flatten), (sL, L), (sD, D)] := by
      have hstart : R (.loop F.sFormulaNetwork 2) [ssc s, ssc sL, ssc sD, isc (n : Int), r.pv, cpv (v : Int) s0, tpv a b c] H =
          cond (l.any (litT (valsF v L (idxF D n)))) ((R (.fn F.sl02One) [r.pv] H3).bind fun r67 => (oneP r67.vs).bind fun p68 => p68.sc?.bind fun c69 => (slAt [c69] 0).bind fun s70 =>
            (R (.fn F.sl05Put) [r.pv, tpv a b c, isc (n : Int), ssc s70] r67.H).bind fun r71 => R (.loop F.sFormulaNetwork 2) [ssc s, ssc sL, ssc sD, isc ((n + 1 : Nat) : Int), r.pv, cpv (v : Int) s0, tpv a b c] r71.H)
          (R (.loop F.sFormulaNetwork 2) [ssc s, ssc sL, ssc sD, isc ((n + 1 : Nat) : Int), r.pv, cpv (v : Int) s0, tpv a b c] H3) := by
        rw [R_eq, e_sFormulaNetwork_2, hprod]
        simp only [Option.bind_some, one_int]
        rw [hcond, mk_ints (by omega)]
        simp only [Option.bind_some]
        rw [hidx]
        simp only [Option.bind_some, one_sl]
        rw [e3]
        simp only [Option.bind_some, Nat.beq, cond_true]
        rw [hct]
        simp only [Option.bind_some, one_bool, hw1']
      rw [hstart]
      by_cases hc : l.any (litT (valsF v L (idxF D n))) = true
      · have hel : elemF r v l L n = oneR r := by unfold elemF; rw [hD, if_pos hc]
        obtain ⟨s4, H4, e4, n4⟩ := c_sl02One hr H3
        have F4 := F3.newN n4
        have hcO := F4.own (s := c) (l := (elsN (elemF r v l L) (zeroR r) (2 ^ L.length) n).flatten) (by simp)
        have hfl : (elsN (elemF r v l L) (zeroR r) (2 ^ L.length) n).flatten ≠ [] := fun e => by
          have := congrArg List.length e
          rw [uni_len huni, hlen] at this
          have h2 : 0 < 2 ^ L.length * (widthR r).toNat := Nat.mul_pos (by omega) (by omega)
          rw [this] at h2; simp at h2
        have hone : oneR r ≠ [] := fun e => by
          have := congrArg List.length e
          rw [oneR_len] at this; simp at this; omega
        obtain ⟨H5, e5, m5⟩ := m_sl05Put (a := a) (b := b) hwn (by omega) huni (by rw [hlen]; exact hlt) (oneR_len r) hcO n4.own.is (row_ne F4.rows (xs := []) (ys := [_, _, _, _]) (zs := [_, _]) (p := (s4, oneR r)) (q := (c, _)) rfl hone hfl) (by rw [hlen]; omega)
        have F5 := F4.mut [_, _, _, _, _] m5 (fun e => absurd e hfl)
        rw [← hel, elsN_set _ _ hlt] at F5
        refine ⟨H5, ?_, F5.sub (.cons _ (.cons _ (.cons _ (List.Sublist.refl _))))⟩
        rw [hc, cond_true, e4]
        simp only [Option.bind_some, one_sl]
        rw [e5]
        rfl
      · have hc' := Bool.eq_false_iff.2 hc
        have hel : elemF r v l L n = zeroR r := by unfold elemF; rw [hD, if_neg hc]
        refine ⟨H3, by rw [hc']; rfl, ?_⟩
        rw [elsN_skip hel]
        exact F3.sub (.cons _ (.cons _ (List.Sublist.refl _)))
    obtain ⟨H4, e4, F4⟩ := round
    subst hD
    obtain ⟨H', e5, F5⟩ := c_sFormulaNetwork_2 hr (s0 := s0) hv hs hl hL hLl k (n + 1) H4 (by omega) F4
    exact ⟨H', e4.trans e5, F5⟩
end Go.Abs
/- Contracts: a formula's network (spec), whole. -/
namespace Go.Abs
set_option linter.unusedVariables false
set_option linter.unusedSimpArgs false

theorem NetS.ext {H0 H H' : AH} {s : Sl} {xs : List Tri} {ts : List Tn} (h : NetS H0 H s xs ts) (hl : Le H H') : NetS H0 H' s xs ts := ⟨h.fr.ext hl, h.len, h.out.le hl⟩
theorem colF_nil {α : Type} {g : Nat → α → Option Int} : ∀ {l : List α} {i : Nat}, colF g l i = [] ↔ ∀ (j : Nat) a, l[j]? = some a → g (i + j) a = none
  | [], i => by simp [colF]
  | x :: l, i => by
    simp only [colF, List.append_eq_nil_iff]
    rw [colF_nil (l := l)]
    constructor
    · rintro ⟨h1, h2⟩ j a hj
      cases j with
      | zero => simp at hj; subst hj; cases hg : g i x <;> simp_all
      | succ j =>
        have := h2 j a (by simpa using hj)
        rw [← this]; congr 1; omega
    · intro h
      refine ⟨?_, fun j a hj => ?_⟩
      · have := h 0 x (by simp)
        rw [Nat.add_zero] at this
        rw [this]; rfl
      · have := h (j + 1) a (by simpa using hj)
        rw [← this]; congr 1; omega
theorem usesF_nil {x : Int} {ts : List Tn} : usesF x ts = [] ↔ ∀ t ∈ ts, x ∉ t.L := by
  unfold usesF
  rw [colF_nil]
  constructor
  · intro h t ht hx
    obtain ⟨j, hj⟩ := List.getElem?_of_mem ht
    have := h j t hj
    rw [if_pos ((findF_mem _ _ _).2 hx)] at this
    cases this
  · intro h j t hj
    rw [if_neg fun h0 => h t (List.mem_of_getElem? hj) ((findF_mem _ _ _).1 h0)]
theorem labelsF_iff {l : List Int} {i : Nat} : ∀ v : Nat, (i : Int) ∈ labelsF v l ↔ i < v ∧ hasL l i = true
  | 0 => by simp [labelsF, colF]
  | v + 1 => by
    rw [labelsF_succ, List.mem_append, labelsF_iff v]
    by_cases h : hasL l v = true
    · rw [if_pos h]
      simp only [List.mem_singleton]
      constructor
      · rintro (⟨h1, h2⟩ | h1)
        · exact ⟨by omega, h2⟩
        · have : i = v := by omega
          subst this; exact ⟨by omega, h⟩
      · rintro ⟨h1, h2⟩
        by_cases e : i = v
        · exact .inr (by omega)
        · exact .inl ⟨by omega, h2⟩
    · rw [if_neg h]
      simp only [List.not_mem_nil, or_false]
      constructor
      · rintro ⟨h1, h2⟩; exact ⟨by omega, h2⟩
      · rintro ⟨h1, h2⟩
        refine ⟨?_, h2⟩
        rcases Nat.lt_or_ge i v with e | e
        · exact e
        · have : i = v := by omega
          subst this; exact absurd h2 h
theorem hasL_abs (l : List Int) (i : Nat) : hasL l i = l.any fun x => x.natAbs == i + 1 := by
  unfold hasL
  rw [Bool.eq_iff_iff]
  simp only [Bool.or_eq_true, List.any_eq_true, beq_iff_eq]
  constructor
  · rintro (⟨x, hx, h⟩ | ⟨x, hx, h⟩)
    · exact ⟨x, hx, by omega⟩
    · exact ⟨x, hx, by omega⟩
  · rintro ⟨x, hx, h⟩
    by_cases h0 : 0 ≤ x
    · exact .inl ⟨x, hx, by omega⟩
    · exact .inr ⟨x, hx, by omega⟩
theorem uses_form {r : Rg} {v i : Nat} {ll : List (List Int)} (hi : i < v) : (usesF (i : Int) (ll.map (clauseT r v) ++ pairsN r i ll) = []) ↔ usedB ll i = false := by
  rw [usesF_nil]
  constructor
  · intro h
    rw [Bool.eq_false_iff]
    intro hu
    simp only [usedB, List.any_eq_true] at hu
    obtain ⟨l, hl, hx⟩ := hu
    refine h (clauseT r v l) (List.mem_append.2 (.inl (List.mem_map.2 ⟨l, hl, rfl⟩))) ?_
    show (i : Int) ∈ labelsF v l
    rw [labelsF_iff, hasL_abs]
    exact ⟨hi, List.any_eq_true.2 hx⟩
  · intro hu t ht hx
    rcases List.mem_append.1 ht with ht | ht
    · obtain ⟨l, hl, rfl⟩ := List.mem_map.1 ht
      have hx : (i : Int) ∈ labelsF v l := hx
      rw [labelsF_iff, hasL_abs] at hx
      have : usedB ll i = true := List.any_eq_true.2 ⟨l, hl, hx.2⟩
      rw [hu] at this; cases this
    · simp only [pairsN, List.mem_map, List.mem_filter, List.mem_range] at ht
      obtain ⟨j, ⟨hj, _⟩, rfl⟩ := ht
      simp [pairT] at hx
      omega

/-- spec.FormulaNetwork: the pairs -/
theorem c_sFormulaNetwork_4 {r : Rg} (hr : ringB r = true) {H0 : AH} {v : Nat} {q s0 : Sl} {ll : List (List Int)} (hv : v ≤ 10) (hll : ll.length ≤ 12) :
    ∀ (k i : Nat) (s : Sl) (xs : List Tri) (H : AH), i + k = v → NetS H0 H s xs (ll.map (clauseT r v) ++ pairsN r i ll) →
      ∃ s' xs' H', R (.loop F.sFormulaNetwork 4) [isc (i : Int), r.pv, cpv (v : Int) s0, npv r s q] H = some ⟨10, [npv r s' q], H'⟩ ∧ NetS H0 H' s' xs' (ll.map (clauseT r v) ++ pairsN r v ll)
  | 0, i, s, xs, H, hi, hN => by
    obtain rfl : i = v := by omega
    exact ⟨s, xs, H, by rw [R_eq, e_sFormulaNetwork_4, lt_self]; rfl, hN⟩
  | k + 1, i, s, xs, H, hi, hN => by
    have hlt : i < v := by omega
    have hpl := pairsN_len r i ll
    obtain ⟨su, Hu, eu, ou, lu⟩ := c_sl12Uses hN.t3 (by simp; omega) (fun t ht => by
      rcases List.mem_append.1 ht with ht | ht
      · obtain ⟨l, hl, rfl⟩ := List.mem_map.1 ht
        have := labelsF_len v l
        show (labelsF v l).length ≤ _; omega
      · simp only [pairsN, List.mem_map] at ht
        obtain ⟨j, _, rfl⟩ := ht
        simp [pairT]) (i : Int)
    have hNu := hN.ext lu
    by_cases hu : usedB ll i = true
    · have hne : usesF (i : Int) (ll.map (clauseT r v) ++ pairsN r i ll) ≠ [] := fun e => by rw [(uses_form hlt).1 e] at hu; cases hu
      have hz : ((su.n : Int) == 0) = false := by
        rw [ou.n]
        have : (usesF (i : Int) (ll.map (clauseT r v) ++ pairsN r i ll)).length ≠ 0 := fun e => hne (List.length_eq_zero_iff.1 e)
        simp; omega
      have hN2 : NetS H0 Hu s xs (ll.map (clauseT r v) ++ pairsN r (i + 1) ll) := by rw [pairsN_succ, hu]; simpa using hNu
      obtain ⟨s', xs', H', e3, g1⟩ := c_sFormulaNetwork_4 hr (s0 := s0) hv hll k (i + 1) s xs Hu (by omega) hN2
      refine ⟨s', xs', H', ?_, g1⟩
      rw [R_eq, e_sFormulaNetwork_4, lt_true hlt, w1 hlt (by omega), cond_true, eu]
      simp only [Option.bind_some, one_sl, hz, cond_false]
      exact e3
    · have hu' : usedB ll i = false := Bool.eq_false_iff.2 hu
      have hz : ((su.n : Int) == 0) = true := by rw [ou.n, (uses_form hlt).2 hu']; rfl
      obtain ⟨s1, H1, e1, n1⟩ := c_sl02One hr (Hu ++ [resB])
      obtain ⟨s2, H2, e2, n2⟩ := c_sl02One hr H1
      have hol := oneR_len r
      have hw := width_range hr
      obtain ⟨a, b, c, H3, e3, t3⟩ := c_sl37Pair (n1.own.is.le n2.le) n2.own.is (by omega) (i : Int)
      have t3' : NewT (Hu ++ [resB]) H3 a b c (pairT r i) := ⟨(n1.le.trans n2.le).trans t3.le, t3.rows.low (n1.le.trans n2.le).len⟩
      obtain ⟨s4, xs4, H4, e4, N4, l4, f4⟩ := hNu.push (by simp; omega) t3'
      have hN2 : NetS H0 H4 s4 xs4 (ll.map (clauseT r v) ++ pairsN r (i + 1) ll) := by rw [pairsN_succ, hu']; simpa using N4
      obtain ⟨s', xs', H', e5, g1⟩ := c_sFormulaNetwork_4 hr (s0 := s0) hv hll k (i + 1) s4 xs4 H4 (by omega) hN2
      refine ⟨s', xs', H', ?_, g1⟩
      rw [R_eq, e_sFormulaNetwork_4, lt_true hlt, w1 hlt (by omega), cond_true, eu]
      simp only [Option.bind_some, one_sl, hz, cond_true]
      rw [reserve1, e1]
      simp only [Option.bind_some, one_sl]
      rw [e2]
      simp only [Option.bind_some, one_sl]
      rw [e3]
      simp only [Option.bind_some, oneP, PV.agg?, List.length_cons, List.length_nil, decide_true, cond_true, slAt, List.getElem?_cons_zero, List.getElem?_cons_succ]
      rw [e4]
      exact e5

/-- spec.FormulaNetwork: the clauses -/
theorem c_sFormulaNetwork_0 {r : Rg} (hr : ringB r = true) {H0 : AH} {v : Nat} {sc s0 q : Sl} {ll : List (List Int)} (hv : v ≤ 10) (hsc : I2 H0 sc ll) (hll : ll.length ≤ 12) (hl : ∀ l ∈ ll, LitsOk v l) :
    ∀ (k i : Nat) (s : Sl) (xs : List Tri) (H : AH), i + k = ll.length → NetS H0 H s xs ((ll.take i).map (clauseT r v)) →
      ∃ s' xs' H', R (.loop F.sFormulaNetwork 0) [ssc sc, isc (ll.length : Int), isc (i : Int), r.pv, cpv (v : Int) s0, npv r s q] H = some ⟨2, [npv r s' q], H'⟩ ∧ NetS H0 H' s' xs' (ll.map (clauseT r v))
  | 0, i, s, xs, H, hi, hN => by
    obtain rfl : i = ll.length := by omega
    rw [List.take_of_length_le (Nat.le_refl _)] at hN
    exact ⟨s, xs, H, by rw [R_eq, e_sFormulaNetwork_0, lt_self]; rfl, hN⟩
  | k + 1, i, s, xs, H, hi, hN => by
    have hlt : i < ll.length := by omega
    obtain ⟨a1, ha1, hk1⟩ := (hsc.le hN.fr.le).ld hlt
    have hli := hl ll[i] (List.getElem_mem hlt)
    have hlen := labelsF_len v ll[i]
    -- the labels
    have hleA := (Le.app H [⟨[], .rw, 1⟩]).trans (Le.app _ [⟨[], .rw, 1⟩])
    have F0 : Fr H (H ++ [⟨[], .rw, 1⟩] ++ [⟨[], .rw, 1⟩]) [(⟨H.length, 0, 0, 0, true⟩, []), (⟨(H ++ [(⟨[], .rw, 1⟩ : Blk)]).length, 0, 0, 0, true⟩, [])] := ((Fr.of hleA).empty _).empty _
    obtain ⟨sL, sD, H1, e1, F1⟩ := c_sFormulaNetwork_1 (s0 := s0) hv ha1 hli.1 v 0 _ _ _ (by omega) F0
    -- noughts
    obtain ⟨a, b, c, H2, e2, t2⟩ := c_sl05Zero hr (F1.is (s := sL) (l := labelsF v ll[i]) (by simp)) (F1.is (s := sD) (l := List.replicate (labelsF v ll[i]).length 2) (by simp)) (by omega) (twos_ok (by omega))
    have F2 := F1.newT t2
    have hpn : (prd (List.replicate (labelsF v ll[i]).length 2)).toNat = 2 ^ (labelsF v ll[i]).length := by rw [prd_twos, Int.toNat_natCast]
    rw [hpn, ← elsN_zero (elemF r v ll[i] (labelsF v ll[i]))] at F2
    obtain ⟨H3, e3, F3⟩ := c_sFormulaNetwork_2 hr (s := a1) (s0 := s0) (sL := sL) (sD := sD) (L := labelsF v ll[i]) hv ha1 hli (fun x hx => labelsF_mem hx) hlen (2 ^ (labelsF v ll[i]).length) 0 H2 (by omega) F2
    have hN3 := hN.ext F3.le
    have F4 : Fr H0 H3 (rows3 a b c (clauseT r v ll[i]) ++ rowsT xs ((ll.take i).map (clauseT r v))) :=
      ⟨hN3.fr.le, rows_after hN.fr.rows hN.fr.le.len F3.le (F3.rows.sub (qs := rows3 a b c (clauseT r v ll[i])) (.cons₂ _ (.cons₂ _ (.cons₂ _ (.cons _ (.cons _ .slnil))))))⟩
    have hxl : xs.length ≤ 12 := by rw [hN.len]; simp; omega
    obtain ⟨s4, H4, e4, F5, O5, l5, f5⟩ := push_tensor' (a := a) (b := b) (c := c) F4 hN3.out (by omega)
    have F6 := Fr.snocT (rs := []) (xs := xs) (by simpa using F5) hN.len
    rw [List.append_nil] at F6
    have hN2 : NetS H0 H4 s4 (xs ++ [(a, b, c)]) ((ll.take (i + 1)).map (clauseT r v)) := by
      rw [take_snoc_any hlt, List.map_append]
      exact ⟨F6, by simp [hN.len], O5⟩
    obtain ⟨s', xs', H', e5, g1⟩ := c_sFormulaNetwork_0 hr hv hsc hll hl k (i + 1) s4 (xs ++ [(a, b, c)]) H4 (by omega) hN2
    refine ⟨s', xs', H', ?_, g1⟩
    rw [R_eq, e_sFormulaNetwork_0, lt_true hlt, w1 hlt (by omega), cond_true, hk1, newB_one]
    simp only [Option.bind_some, newB_one]
    have e1 : R (.loop F.sFormulaNetwork 1) [ssc a1, ssc ⟨H.length, 0, 0, 0, true⟩, ssc ⟨(H ++ [(⟨[], .rw, 1⟩ : Blk)]).length, 0, 0, 0, true⟩, isc 1, cpv (v : Int) s0] (H ++ [⟨[], .rw, 1⟩] ++ [⟨[], .rw, 1⟩]) = _ := e1
    rw [e1]
    simp only [Option.bind_some, Nat.beq, cond_true, nthP, List.getElem?_cons_zero, List.getElem?_cons_succ, PV.sc?, slAt]
    rw [e2]
    simp only [Option.bind_some, oneP, PV.agg?, List.length_cons, List.length_nil, decide_true, cond_true, slAt, List.getElem?_cons_zero, List.getElem?_cons_succ]
    rw [n0z] at e3
    rw [e3]
    simp only [Option.bind_some, Nat.beq, cond_true]
    rw [e4]
    exact e5

/-- spec.FormulaNetwork -/
theorem c_sFormulaNetwork {r : Rg} {H : AH} {w : Int} {s : Sl} {ll : List (List Int)} (hs : I2 H s ll) :
    (fnB r w ll = true ∧ ∃ s' xs H', R (.fn F.sFormulaNetwork) [r.pv, cpv w s] H = some ⟨1, [npv r s' ⟨0, 0, 0, 0, true⟩, bsc true], H'⟩ ∧ NetS H H' s' xs (formT r w.toNat ll)) ∨
    (fnB r w ll = false ∧ ∃ H', R (.fn F.sFormulaNetwork) [r.pv, cpv w s] H = some ⟨1, [npv0, bsc false], H'⟩ ∧ Le H H') := by
  unfold fnB
  cases hr : ringB r with
  | false => exact .inr ⟨rfl, H, by rw [R_eq, e_sFormulaNetwork, c_sRingOk, hr]; rfl, Le.refl H⟩
  | true =>
  cases hc : cnfB w ll with
  | false =>
    refine .inr ⟨rfl, H, ?_, Le.refl H⟩
    rw [R_eq, e_sFormulaNetwork, c_sRingOk, hr]
    simp only [Option.bind_some, one_bool, Bool.not_true, cond_false]
    rw [c_sCnfOk hs, hc]
    rfl
  | true =>
  obtain ⟨v, rfl, hv, hll, hl⟩ := cnf_facts hc
  have hN0 : NetS H H ⟨0, 0, 0, 0, true⟩ [] ((ll.take 0).map (clauseT r v)) := ⟨by simp [rowsT]; exact Fr.start H, by simp, OOut.nil _ _ _⟩
  obtain ⟨s1, xs1, H1, e1, N1⟩ := c_sFormulaNetwork_0 (sc := s) (s0 := s) (q := ⟨0, 0, 0, 0, true⟩) hr hv hs hll hl ll.length 0 ⟨0, 0, 0, 0, true⟩ [] _ (by omega) hN0
  have hp0 : pairsN r 0 ll = [] := rfl
  obtain ⟨s2, xs2, H2, e2, N2⟩ := c_sFormulaNetwork_4 (s0 := s) (q := ⟨0, 0, 0, 0, true⟩) (ll := ll) hr hv hll v 0 s1 xs1 H1 (by omega) (by rw [hp0, List.append_nil]; exact N1)
  have hform : ll.map (clauseT r v) ++ pairsN r v ll = formT r v ll := rfl
  rw [n0z] at e1 e2
  rw [hform] at N2
  have hNS : NS H2 s2 ⟨0, 0, 0, 0, true⟩ (netF r v ll) := ⟨N2.t3, IS.nil _ _ _ _ _⟩
  obtain ⟨H3, e3, l3⟩ := c_sNetworkOk hNS (by simp [netF])
  have hmain : R (.fn F.sFormulaNetwork) [r.pv, cpv (v : Int) s] H = cond (netB (netF r v ll)) (some ⟨1, [npv r s2 ⟨0, 0, 0, 0, true⟩, bsc true], H3⟩) (some ⟨1, [npv0, bsc false], H3⟩) := by
    rw [R_eq, e_sFormulaNetwork, c_sRingOk, hr]
    simp only [Option.bind_some, one_bool, Bool.not_true, cond_false]
    rw [c_sCnfOk hs, hc]
    simp only [Option.bind_some, one_bool, Bool.not_true, cond_false]
    rw [hs.1, e1]
    simp only [Option.bind_some, Nat.beq, cond_true, nthP, List.getElem?_cons_zero, PV.agg?, List.length_cons, List.length_nil, decide_true, intAt, slAt, List.getElem?_cons_succ, if_true]
    rw [e2]
    simp only [Option.bind_some, Nat.beq, cond_true, nthP, List.getElem?_cons_zero, PV.agg?, List.length_cons, List.length_nil, decide_true, intAt, slAt, List.getElem?_cons_succ, if_true]
    have e3 : R (.fn F.sNetworkOk) [npv r s2 ⟨0, 0, 0, 0, true⟩] H2 = some ⟨1, [bsc (netB (netF r v ll))], H3⟩ := e3
    rw [e3]
    simp only [Option.bind_some, one_bool]
    cases netB (netF r v ll) <;> rfl
  rw [Int.toNat_natCast]
  cases hn : netB (netF r v ll) with
  | true => exact .inl ⟨rfl, s2, xs2, H3, by rw [hmain, hn]; rfl, N2.ext l3⟩
  | false => exact .inr ⟨rfl, H3, by rw [hmain, hn]; rfl, N2.fr.le.trans l3⟩
end Go.Abs
/- Words: arguments that are opened; networks of their own under changes elsewhere. -/
namespace Go.Abs
set_option linter.unusedVariables false
set_option linter.unusedSimpArgs false
set_option linter.all false
set_option maxRecDepth 10000

theorem list_choice {α : Type} {E : Nat → α → Prop} : ∀ (c : Nat), (∀ i, i < c → ∃ x, E i x) → ∃ xs : List α, xs.length = c ∧ ∀ (i : Nat) x, xs[i]? = some x → E i x
  | 0, _ => ⟨[], rfl, fun i x h => by simp at h⟩
  | c + 1, h => by
    obtain ⟨xs, h1, h2⟩ := list_choice c fun i hi => h i (by omega)
    obtain ⟨x, hx⟩ := h c (by omega)
    refine ⟨xs ++ [x], by simp [h1], fun i y hy => ?_⟩
    rcases Nat.lt_or_ge i c with e | e
    · rw [List.getElem?_append_left (by omega)] at hy
      exact h2 i y hy
    · have hl := (List.getElem?_eq_some_iff.1 hy).1
      simp [h1] at hl
      have : i = c := by omega
      subst this
      rw [List.getElem?_append_right (by omega)] at hy
      simp [h1] at hy
      subst hy; exact hx

section
variable {H : AH}
def I64 (i : Int) : Prop := -9223372036854775808 ≤ i ∧ i ≤ 9223372036854775807
theorem open_int {n : Nat} {t : TypeId} (hu : P.underlying t = some (.int .i64)) {l : List Sc} (h : typed P (n + 1) H t l) : ∃ i, l = [.int .i64 i] ∧ I64 i := by
  simp only [typed, hu] at h
  obtain ⟨i, h1, h2⟩ := h
  refine ⟨i, h1, ?_⟩
  simp [Lit.wf, IntKind.min, IntKind.max, IntKind.signed, IntKind.bits] at h2
  unfold I64; omega
theorem open_bool {n : Nat} {t : TypeId} (hu : P.underlying t = some .bool) {l : List Sc} (h : typed P (n + 1) H t l) : ∃ b, l = [.bool b] := by
  simp only [typed, hu] at h
  exact h
/-- A slice that reads: its elements, one by one. -/
theorem open_sl {α : Type} {E : Nat → List Sc → α → Prop} {n : Nat} {t e : TypeId} {z : Nat} (hu : P.underlying t = some (.slice e)) (hz : tsz P e = z) {l : List Sc} (h : typed P (n + 1) H t l)
    (hE : ∀ (cells : List Sc) i, typed P n H e ((cells.drop (i * z)).take z) → ∃ x, E i cells x) :
    ∃ s xs, l = [.sl s] ∧ s.n = xs.length ∧ s.n ≤ s.c ∧ xs.length ≤ maxLen ∧ s.o = 0 ∧ (xs = [] ∨ ∃ cells, rdB H s.b = some cells ∧ ∀ (i : Nat) x, xs[i]? = some x → E i cells x) := by
  simp only [typed, hu] at h
  rcases h with rfl | ⟨b, m, c, cells, rfl, h1, h2, h3, h4, h5, h6⟩
  · exact ⟨_, [], rfl, rfl, Nat.le_refl _, Nat.zero_le _, rfl, .inl rfl⟩
  · obtain ⟨xs, g1, g2⟩ := list_choice (E := fun i x => E i cells x) m fun i hi => hE cells i (by have := h6 i (by omega); rw [hz] at this; exact this)
    refine ⟨_, xs, rfl, g1.symm, h1, by omega, rfl, .inr ⟨cells, ?_, g2⟩⟩
    unfold rdB
    rw [h4]; rfl
theorem take_one {cells : List Sc} {i z : Nat} {x : Sc} (hz : z = 1) (h : (cells.drop (i * z)).take z = [x]) : cells[i]? = some x := by
  subst hz
  rw [Nat.mul_one] at h
  have := congrArg (fun l => l[0]?) h
  simpa using this
theorem open_ints {n : Nat} {t e : TypeId} (hu : P.underlying t = some (.slice e)) (he : P.underlying e = some (.int .i64)) (hz : tsz P e = 1) {l : List Sc} (h : typed P (n + 2) H t l) :
    ∃ s xs, l = [.sl s] ∧ IS H s xs ∧ xs.length ≤ maxLen ∧ ∀ x ∈ xs, I64 x := by
  obtain ⟨s, xs, h1, h2, h3, h4, h5, h6⟩ := open_sl (E := fun i cells (x : Int) => cells[i]? = some (.int .i64 x) ∧ I64 x) hu hz h (fun cells i ht => by
    obtain ⟨x, hx, hi⟩ := open_int he ht
    exact ⟨x, take_one rfl hx, hi⟩)
  refine ⟨s, xs, h1, ⟨h2, h3, h6.imp id fun ⟨cells, g1, g2⟩ => ⟨cells, g1, fun i x hx => by rw [h5, Nat.zero_add]; exact (g2 i x hx).1⟩⟩, h4, fun x hx => ?_⟩
  obtain ⟨j, hj⟩ := List.getElem?_of_mem hx
  rcases h6 with e | ⟨cells, _, g2⟩
  · rw [e] at hx; simp at hx
  · exact (g2 j x hj).2
theorem open_rows {n : Nat} {t u e : TypeId} (ht : P.underlying t = some (.slice u)) (hu : P.underlying u = some (.slice e)) (he : P.underlying e = some (.int .i64)) (hz1 : tsz P u = 1) (hz : tsz P e = 1) {l : List Sc} (h : typed P (n + 3) H t l) :
    ∃ s ll, l = [.sl s] ∧ I2 H s ll ∧ ll.length ≤ maxLen ∧ ∀ x ∈ ll, x.length ≤ maxLen := by
  obtain ⟨s, xs, h1, h2, h3, h4, h5, h6⟩ := open_sl (E := fun i cells (x : List Int) => ∃ a, cells[i]? = some (.sl a) ∧ IS H a x ∧ x.length ≤ maxLen) ht hz1 h (fun cells i ht => by
    obtain ⟨a, x, hx, hi, hm, _⟩ := open_ints hu he hz ht
    exact ⟨x, a, take_one rfl hx, hi, hm⟩)
  refine ⟨s, xs, h1, ⟨h2, h3, h6.imp id fun ⟨cells, g1, g2⟩ => ⟨cells, g1, fun i x hx => by
    rw [h5, Nat.zero_add]
    obtain ⟨a, e1, e2, _⟩ := g2 i x hx
    exact ⟨a, e1, e2⟩⟩⟩, h4, fun x hx => ?_⟩
  obtain ⟨j, hj⟩ := List.getElem?_of_mem hx
  rcases h6 with e | ⟨cells, _, g2⟩
  · rw [e] at hx; simp at hx
  · obtain ⟨a, _, _, e3⟩ := g2 j x hj; exact e3
end

/-- A network of its own, at or above a place. -/
structure NetO (n0 : Nat) (H : AH) (s u : Sl) (xs : List Tri) (n : Nw) : Prop where
  len : xs.length = n.ts.length
  out : OOut n0 H s xs
  rows : Rows n0 H (rowsN xs u n)
theorem NetO.own {n0 : Nat} {H : AH} {s u : Sl} {xs : List Tri} {n : Nw} (h : NetO n0 H s u xs n) : OwnN n0 H s u xs n := ⟨h.len, h.out.outer, h.rows⟩
theorem NetO.ns {n0 : Nat} {H : AH} {s u : Sl} {xs : List Tri} {n : Nw} (h : NetO n0 H s u xs n) : NS H s u n :=
  ⟨t3_of h.out.outer h.len fun p hp => (h.rows.own p (by unfold rowsN; simp [hp])).is, (h.rows.own (u, n.op) (by unfold rowsN; simp)).is⟩
theorem NetO.keep {n0 : Nat} {H H' : AH} {s u : Sl} {xs : List Tri} {n : Nw} (h : NetO n0 H s u xs n) (hf : ∀ b, n0 ≤ b → b < H.length → H'[b]? = H[b]?) : NetO n0 H' s u xs n := by
  refine ⟨h.len, h.out.keep fun hx => ?_, h.rows.frame fun p hp hne => ?_⟩
  · refine hf _ ?_ (h.out.lt hx)
    rcases h.out.blk with ⟨e, _⟩ | ⟨_, e, _⟩
    · exact absurd e hx
    · exact e
  · refine hf _ ?_ (h.rows.lt p hp hne)
    rcases (h.rows.own p hp).lo with e | e
    · exact absurd e hne
    · exact e
theorem NetS.neto {H0 H : AH} {s : Sl} {xs : List Tri} {r : Rg} {ts : List Tn} (h : NetS H0 H s xs ts) (b : Nat) : NetO H0.length H s ⟨b, 0, 0, 0, true⟩ xs ⟨r, ts, []⟩ :=
  ⟨h.len, h.out, by
    unfold rowsN
    refine ⟨fun p hp => ?_, List.pairwise_append.2 ⟨h.fr.rows.apart, by simp, fun p hp q hq => by simp at hq; subst hq; exact .inr (.inl rfl)⟩⟩
    rcases List.mem_append.1 hp with hp | hp
    · exact h.fr.rows.own p hp
    · simp at hp; subst hp; exact Own.nil _ _ _⟩
def nw0 : Nw := ⟨⟨0, 0, 0⟩, [], []⟩
theorem neto0 (n0 : Nat) (H : AH) (b b' : Nat) : NetO n0 H ⟨b, 0, 0, 0, true⟩ ⟨b', 0, 0, 0, true⟩ [] nw0 := ⟨rfl, OOut.nil _ _ _, by simp [rowsN, rowsT, nw0]; exact (Rows.nil _ _).cons (Own.nil _ _ _) (by simp)⟩
theorem small_net {n : Nw} (h : netB n = true ∨ n = nw0) : SmallN n ∧ (∀ t ∈ n.ts, TnSmall t) ∧ n.ts.length ≤ 1048576 ∧ n.op.length ≤ 1048576 := by
  rcases h with h | rfl
  · simp only [netB, Bool.and_eq_true, decide_eq_true_eq] at h
    obtain ⟨⟨⟨h1, h2⟩, h3⟩, h4⟩ := h
    have hop := (sizeB_open h4).1
    have hw := width_range h1
    have ht : ∀ t ∈ n.ts, t.L.length ≤ 12 ∧ t.D.length ≤ 12 ∧ t.X.length ≤ 24576 := fun t ht => by
      have hb := cons_mem h3 t ht
      obtain ⟨g1, g2, _⟩ := tensor_dims hb
      simp only [tensorB, Bool.and_eq_true, decide_eq_true_eq] at hb
      refine ⟨g2, by omega, ?_⟩
      have hs := sizeB_range t.L t.D
      have hx := hb.1.2
      have hle : sizeB t.L t.D * widthR n.r ≤ 4096 * 6 := by
        rcases hs with hs | hs
        · exact absurd hs hb.1.1.2
        · exact Int.mul_le_mul hs.2 hw.2 (by omega) (by omega)
      omega
    refine ⟨⟨by omega, fun t h => ?_, by omega, ?_⟩, fun t h => ?_, by omega, by omega⟩
    · obtain ⟨a, b, c⟩ := ht t h
      exact ⟨by omega, by omega, by omega⟩
    · have : ∀ ts : List Tn, (∀ t ∈ ts, t.L.length ≤ 12 ∧ t.D.length ≤ 12 ∧ t.X.length ≤ 24576) → cntTs ts ≤ ts.length * 24600 := by
        intro ts
        induction ts with
        | nil => intro _; simp [cntTs]
        | cons t ts ih =>
          intro h
          obtain ⟨a, b, c⟩ := h t List.mem_cons_self
          have := ih fun u hu => h u (List.mem_cons_of_mem _ hu)
          simp only [cntTs, cntT, List.length_cons]
          omega
      have := this n.ts ht
      omega
    · obtain ⟨a, b, c⟩ := ht t h
      exact ⟨by omega, by omega, by omega⟩
  · exact ⟨⟨by simp [nw0], by simp [nw0], by simp [nw0], by simp [nw0, cntTs]⟩, by simp [nw0], by simp [nw0], by simp [nw0]⟩
end Go.Abs
/- What the results of calls are taken apart to. Printed by clgen.py. -/
namespace Go.Abs
set_option linter.all false
theorem o_iii (a0_0 : Int) (a0_1 : Int) (a0_2 : Int) {α : Type} (k : Int → Int → Int → Option α) : ((oneP [.agg [.int .i64 a0_0, .int .i64 a0_1, .int .i64 a0_2]]).bind fun p => p.agg?.bind fun l => cond (decide (l.length = 3)) ((intAt .i64 l 0).bind fun x0_0 => (intAt .i64 l 1).bind fun x0_1 => (intAt .i64 l 2).bind fun x0_2 => k x0_0 x0_1 x0_2) none) = k a0_0 a0_1 a0_2 := rfl
theorem o_is (a0_0 : Int) (a0_1 : Sl) {α : Type} (k : Int → Sl → Option α) : ((oneP [.agg [.int .i64 a0_0, .sl a0_1]]).bind fun p => p.agg?.bind fun l => cond (decide (l.length = 2)) ((intAt .i64 l 0).bind fun x0_0 => (slAt l 1).bind fun x0_1 => k x0_0 x0_1) none) = k a0_0 a0_1 := rfl
theorem o_sss (a0_0 : Sl) (a0_1 : Sl) (a0_2 : Sl) {α : Type} (k : Sl → Sl → Sl → Option α) : ((oneP [.agg [.sl a0_0, .sl a0_1, .sl a0_2]]).bind fun p => p.agg?.bind fun l => cond (decide (l.length = 3)) ((slAt l 0).bind fun x0_0 => (slAt l 1).bind fun x0_1 => (slAt l 2).bind fun x0_2 => k x0_0 x0_1 x0_2) none) = k a0_0 a0_1 a0_2 := rfl
theorem o_iiiss (a0_0 : Int) (a0_1 : Int) (a0_2 : Int) (a0_3 : Sl) (a0_4 : Sl) {α : Type} (k : Int → Int → Int → Sl → Sl → Option α) : ((oneP [.agg [.int .i64 a0_0, .int .i64 a0_1, .int .i64 a0_2, .sl a0_3, .sl a0_4]]).bind fun p => p.agg?.bind fun l => cond (decide (l.length = 5)) ((intAt .i64 l 0).bind fun x0_0 => (intAt .i64 l 1).bind fun x0_1 => (intAt .i64 l 2).bind fun x0_2 => (slAt l 3).bind fun x0_3 => (slAt l 4).bind fun x0_4 => k x0_0 x0_1 x0_2 x0_3 x0_4) none) = k a0_0 a0_1 a0_2 a0_3 a0_4 := rfl
theorem o_iis (a0_0 : Int) (a0_1 : Int) (a0_2 : Sl) {α : Type} (k : Int → Int → Sl → Option α) : ((oneP [.agg [.int .i64 a0_0, .int .i64 a0_1, .sl a0_2]]).bind fun p => p.agg?.bind fun l => cond (decide (l.length = 3)) ((intAt .i64 l 0).bind fun x0_0 => (intAt .i64 l 1).bind fun x0_1 => (slAt l 2).bind fun x0_2 => k x0_0 x0_1 x0_2) none) = k a0_0 a0_1 a0_2 := rfl
theorem o_ii (a0_0 : Int) (a0_1 : Int) {α : Type} (k : Int → Int → Option α) : ((oneP [.agg [.int .i64 a0_0, .int .i64 a0_1]]).bind fun p => p.agg?.bind fun l => cond (decide (l.length = 2)) ((intAt .i64 l 0).bind fun x0_0 => (intAt .i64 l 1).bind fun x0_1 => k x0_0 x0_1) none) = k a0_0 a0_1 := rfl
theorem o_ss (a0_0 : Sl) (a0_1 : Sl) {α : Type} (k : Sl → Sl → Option α) : ((oneP [.agg [.sl a0_0, .sl a0_1]]).bind fun p => p.agg?.bind fun l => cond (decide (l.length = 2)) ((slAt l 0).bind fun x0_0 => (slAt l 1).bind fun x0_1 => k x0_0 x0_1) none) = k a0_0 a0_1 := rfl
theorem o_ssi (a0_0 : Sl) (a0_1 : Sl) (a0_2 : Int) {α : Type} (k : Sl → Sl → Int → Option α) : ((oneP [.agg [.sl a0_0, .sl a0_1, .int .i64 a0_2]]).bind fun p => p.agg?.bind fun l => cond (decide (l.length = 3)) ((slAt l 0).bind fun x0_0 => (slAt l 1).bind fun x0_1 => (intAt .i64 l 2).bind fun x0_2 => k x0_0 x0_1 x0_2) none) = k a0_0 a0_1 a0_2 := rfl
theorem o_ssisss (a0_0 : Sl) (a0_1 : Sl) (a0_2 : Int) (a0_3 : Sl) (a0_4 : Sl) (a0_5 : Sl) {α : Type} (k : Sl → Sl → Int → Sl → Sl → Sl → Option α) : ((oneP [.agg [.sl a0_0, .sl a0_1, .int .i64 a0_2, .sl a0_3, .sl a0_4, .sl a0_5]]).bind fun p => p.agg?.bind fun l => cond (decide (l.length = 6)) ((slAt l 0).bind fun x0_0 => (slAt l 1).bind fun x0_1 => (intAt .i64 l 2).bind fun x0_2 => (slAt l 3).bind fun x0_3 => (slAt l 4).bind fun x0_4 => (slAt l 5).bind fun x0_5 => k x0_0 x0_1 x0_2 x0_3 x0_4 x0_5) none) = k a0_0 a0_1 a0_2 a0_3 a0_4 a0_5 := rfl
theorem o_ssii (a0_0 : Sl) (a0_1 : Sl) (a0_2 : Int) (a0_3 : Int) {α : Type} (k : Sl → Sl → Int → Int → Option α) : ((oneP [.agg [.sl a0_0, .sl a0_1, .int .i64 a0_2, .int .i64 a0_3]]).bind fun p => p.agg?.bind fun l => cond (decide (l.length = 4)) ((slAt l 0).bind fun x0_0 => (slAt l 1).bind fun x0_1 => (intAt .i64 l 2).bind fun x0_2 => (intAt .i64 l 3).bind fun x0_3 => k x0_0 x0_1 x0_2 x0_3) none) = k a0_0 a0_1 a0_2 a0_3 := rfl
theorem o_iiissssisss (a0_0 : Int) (a0_1 : Int) (a0_2 : Int) (a0_3 : Sl) (a0_4 : Sl) (a0_5 : Sl) (a0_6 : Sl) (a0_7 : Int) (a0_8 : Sl) (a0_9 : Sl) (a0_10 : Sl) {α : Type} (k : Int → Int → Int → Sl → Sl → Sl → Sl → Int → Sl → Sl → Sl → Option α) : ((oneP [.agg [.int .i64 a0_0, .int .i64 a0_1, .int .i64 a0_2, .sl a0_3, .sl a0_4, .sl a0_5, .sl a0_6, .int .i64 a0_7, .sl a0_8, .sl a0_9, .sl a0_10]]).bind fun p => p.agg?.bind fun l => cond (decide (l.length = 11)) ((intAt .i64 l 0).bind fun x0_0 => (intAt .i64 l 1).bind fun x0_1 => (intAt .i64 l 2).bind fun x0_2 => (slAt l 3).bind fun x0_3 => (slAt l 4).bind fun x0_4 => (slAt l 5).bind fun x0_5 => (slAt l 6).bind fun x0_6 => (intAt .i64 l 7).bind fun x0_7 => (slAt l 8).bind fun x0_8 => (slAt l 9).bind fun x0_9 => (slAt l 10).bind fun x0_10 => k x0_0 x0_1 x0_2 x0_3 x0_4 x0_5 x0_6 x0_7 x0_8 x0_9 x0_10) none) = k a0_0 a0_1 a0_2 a0_3 a0_4 a0_5 a0_6 a0_7 a0_8 a0_9 a0_10 := rfl
theorem o_isss (a0_0 : Int) (a0_1 : Sl) (a0_2 : Sl) (a0_3 : Sl) {α : Type} (k : Int → Sl → Sl → Sl → Option α) : ((oneP [.agg [.int .i64 a0_0, .sl a0_1, .sl a0_2, .sl a0_3]]).bind fun p => p.agg?.bind fun l => cond (decide (l.length = 4)) ((intAt .i64 l 0).bind fun x0_0 => (slAt l 1).bind fun x0_1 => (slAt l 2).bind fun x0_2 => (slAt l 3).bind fun x0_3 => k x0_0 x0_1 x0_2 x0_3) none) = k a0_0 a0_1 a0_2 a0_3 := rfl
theorem t_iiiss_b (a0_0 : Int) (a0_1 : Int) (a0_2 : Int) (a0_3 : Sl) (a0_4 : Sl) (a1 : Bool) {α : Type} (k : Int → Int → Int → Sl → Sl → Bool → Option α) : ((lenP [.agg [.int .i64 a0_0, .int .i64 a0_1, .int .i64 a0_2, .sl a0_3, .sl a0_4], .sc (.bool a1)] 2).bind fun _ => (nthP [.agg [.int .i64 a0_0, .int .i64 a0_1, .int .i64 a0_2, .sl a0_3, .sl a0_4], .sc (.bool a1)] 0).bind fun p0 => p0.agg?.bind fun l0 => cond (decide (l0.length = 5)) ((intAt .i64 l0 0).bind fun x0_0 => (intAt .i64 l0 1).bind fun x0_1 => (intAt .i64 l0 2).bind fun x0_2 => (slAt l0 3).bind fun x0_3 => (slAt l0 4).bind fun x0_4 => (nthP [.agg [.int .i64 a0_0, .int .i64 a0_1, .int .i64 a0_2, .sl a0_3, .sl a0_4], .sc (.bool a1)] 1).bind fun p1 => p1.sc?.bind fun c1 => (boolAt [c1] 0).bind fun x1 => k x0_0 x0_1 x0_2 x0_3 x0_4 x1) none) = k a0_0 a0_1 a0_2 a0_3 a0_4 a1 := rfl
theorem t_sss_b (a0_0 : Sl) (a0_1 : Sl) (a0_2 : Sl) (a1 : Bool) {α : Type} (k : Sl → Sl → Sl → Bool → Option α) : ((lenP [.agg [.sl a0_0, .sl a0_1, .sl a0_2], .sc (.bool a1)] 2).bind fun _ => (nthP [.agg [.sl a0_0, .sl a0_1, .sl a0_2], .sc (.bool a1)] 0).bind fun p0 => p0.agg?.bind fun l0 => cond (decide (l0.length = 3)) ((slAt l0 0).bind fun x0_0 => (slAt l0 1).bind fun x0_1 => (slAt l0 2).bind fun x0_2 => (nthP [.agg [.sl a0_0, .sl a0_1, .sl a0_2], .sc (.bool a1)] 1).bind fun p1 => p1.sc?.bind fun c1 => (boolAt [c1] 0).bind fun x1 => k x0_0 x0_1 x0_2 x1) none) = k a0_0 a0_1 a0_2 a1 := rfl
theorem t_i_b (a0 : Int) (a1 : Bool) {α : Type} (k : Int → Bool → Option α) : ((lenP [.sc (.int .i64 a0), .sc (.bool a1)] 2).bind fun _ => (nthP [.sc (.int .i64 a0), .sc (.bool a1)] 0).bind fun p0 => p0.sc?.bind fun c0 => (intAt .i64 [c0] 0).bind fun x0 => (nthP [.sc (.int .i64 a0), .sc (.bool a1)] 1).bind fun p1 => p1.sc?.bind fun c1 => (boolAt [c1] 0).bind fun x1 => k x0 x1) = k a0 a1 := rfl
theorem t_ssii_b (a0_0 : Sl) (a0_1 : Sl) (a0_2 : Int) (a0_3 : Int) (a1 : Bool) {α : Type} (k : Sl → Sl → Int → Int → Bool → Option α) : ((lenP [.agg [.sl a0_0, .sl a0_1, .int .i64 a0_2, .int .i64 a0_3], .sc (.bool a1)] 2).bind fun _ => (nthP [.agg [.sl a0_0, .sl a0_1, .int .i64 a0_2, .int .i64 a0_3], .sc (.bool a1)] 0).bind fun p0 => p0.agg?.bind fun l0 => cond (decide (l0.length = 4)) ((slAt l0 0).bind fun x0_0 => (slAt l0 1).bind fun x0_1 => (intAt .i64 l0 2).bind fun x0_2 => (intAt .i64 l0 3).bind fun x0_3 => (nthP [.agg [.sl a0_0, .sl a0_1, .int .i64 a0_2, .int .i64 a0_3], .sc (.bool a1)] 1).bind fun p1 => p1.sc?.bind fun c1 => (boolAt [c1] 0).bind fun x1 => k x0_0 x0_1 x0_2 x0_3 x1) none) = k a0_0 a0_1 a0_2 a0_3 a1 := rfl
theorem t_ss_b (a0_0 : Sl) (a0_1 : Sl) (a1 : Bool) {α : Type} (k : Sl → Sl → Bool → Option α) : ((lenP [.agg [.sl a0_0, .sl a0_1], .sc (.bool a1)] 2).bind fun _ => (nthP [.agg [.sl a0_0, .sl a0_1], .sc (.bool a1)] 0).bind fun p0 => p0.agg?.bind fun l0 => cond (decide (l0.length = 2)) ((slAt l0 0).bind fun x0_0 => (slAt l0 1).bind fun x0_1 => (nthP [.agg [.sl a0_0, .sl a0_1], .sc (.bool a1)] 1).bind fun p1 => p1.sc?.bind fun c1 => (boolAt [c1] 0).bind fun x1 => k x0_0 x0_1 x1) none) = k a0_0 a0_1 a1 := rfl
theorem t_ssisss_b (a0_0 : Sl) (a0_1 : Sl) (a0_2 : Int) (a0_3 : Sl) (a0_4 : Sl) (a0_5 : Sl) (a1 : Bool) {α : Type} (k : Sl → Sl → Int → Sl → Sl → Sl → Bool → Option α) : ((lenP [.agg [.sl a0_0, .sl a0_1, .int .i64 a0_2, .sl a0_3, .sl a0_4, .sl a0_5], .sc (.bool a1)] 2).bind fun _ => (nthP [.agg [.sl a0_0, .sl a0_1, .int .i64 a0_2, .sl a0_3, .sl a0_4, .sl a0_5], .sc (.bool a1)] 0).bind fun p0 => p0.agg?.bind fun l0 => cond (decide (l0.length = 6)) ((slAt l0 0).bind fun x0_0 => (slAt l0 1).bind fun x0_1 => (intAt .i64 l0 2).bind fun x0_2 => (slAt l0 3).bind fun x0_3 => (slAt l0 4).bind fun x0_4 => (slAt l0 5).bind fun x0_5 => (nthP [.agg [.sl a0_0, .sl a0_1, .int .i64 a0_2, .sl a0_3, .sl a0_4, .sl a0_5], .sc (.bool a1)] 1).bind fun p1 => p1.sc?.bind fun c1 => (boolAt [c1] 0).bind fun x1 => k x0_0 x0_1 x0_2 x0_3 x0_4 x0_5 x1) none) = k a0_0 a0_1 a0_2 a0_3 a0_4 a0_5 a1 := rfl
theorem t_s_b (a0 : Sl) (a1 : Bool) {α : Type} (k : Sl → Bool → Option α) : ((lenP [.sc (.sl a0), .sc (.bool a1)] 2).bind fun _ => (nthP [.sc (.sl a0), .sc (.bool a1)] 0).bind fun p0 => p0.sc?.bind fun c0 => (slAt [c0] 0).bind fun x0 => (nthP [.sc (.sl a0), .sc (.bool a1)] 1).bind fun p1 => p1.sc?.bind fun c1 => (boolAt [c1] 0).bind fun x1 => k x0 x1) = k a0 a1 := rfl
theorem t_iii_b (a0_0 : Int) (a0_1 : Int) (a0_2 : Int) (a1 : Bool) {α : Type} (k : Int → Int → Int → Bool → Option α) : ((lenP [.agg [.int .i64 a0_0, .int .i64 a0_1, .int .i64 a0_2], .sc (.bool a1)] 2).bind fun _ => (nthP [.agg [.int .i64 a0_0, .int .i64 a0_1, .int .i64 a0_2], .sc (.bool a1)] 0).bind fun p0 => p0.agg?.bind fun l0 => cond (decide (l0.length = 3)) ((intAt .i64 l0 0).bind fun x0_0 => (intAt .i64 l0 1).bind fun x0_1 => (intAt .i64 l0 2).bind fun x0_2 => (nthP [.agg [.int .i64 a0_0, .int .i64 a0_1, .int .i64 a0_2], .sc (.bool a1)] 1).bind fun p1 => p1.sc?.bind fun c1 => (boolAt [c1] 0).bind fun x1 => k x0_0 x0_1 x0_2 x1) none) = k a0_0 a0_1 a0_2 a1 := rfl
theorem t_s_s (a0 : Sl) (a1 : Sl) {α : Type} (k : Sl → Sl → Option α) : ((lenP [.sc (.sl a0), .sc (.sl a1)] 2).bind fun _ => (nthP [.sc (.sl a0), .sc (.sl a1)] 0).bind fun p0 => p0.sc?.bind fun c0 => (slAt [c0] 0).bind fun x0 => (nthP [.sc (.sl a0), .sc (.sl a1)] 1).bind fun p1 => p1.sc?.bind fun c1 => (slAt [c1] 0).bind fun x1 => k x0 x1) = k a0 a1 := rfl
theorem t_sss_i (a0_0 : Sl) (a0_1 : Sl) (a0_2 : Sl) (a1 : Int) {α : Type} (k : Sl → Sl → Sl → Int → Option α) : ((lenP [.agg [.sl a0_0, .sl a0_1, .sl a0_2], .sc (.int .i64 a1)] 2).bind fun _ => (nthP [.agg [.sl a0_0, .sl a0_1, .sl a0_2], .sc (.int .i64 a1)] 0).bind fun p0 => p0.agg?.bind fun l0 => cond (decide (l0.length = 3)) ((slAt l0 0).bind fun x0_0 => (slAt l0 1).bind fun x0_1 => (slAt l0 2).bind fun x0_2 => (nthP [.agg [.sl a0_0, .sl a0_1, .sl a0_2], .sc (.int .i64 a1)] 1).bind fun p1 => p1.sc?.bind fun c1 => (intAt .i64 [c1] 0).bind fun x1 => k x0_0 x0_1 x0_2 x1) none) = k a0_0 a0_1 a0_2 a1 := rfl
theorem ne_b (b : Bool) : (b != b) = false := by cases b <;> rfl
theorem ne_i (i : Int) : (i != i) = false := by simp
end Go.Abs
/- Pure: primes; two to the power of a prime less two. -/
namespace Go.Abs
set_option linter.all false

def chs : Nat → Nat → Nat
  | _, 0 => 1
  | 0, _ + 1 => 0
  | n + 1, k + 1 => chs n k + chs n (k + 1)
theorem chs_zero (n : Nat) : chs n 0 = 1 := by cases n <;> rfl
theorem chs_lt : ∀ (n k : Nat), n < k → chs n k = 0
  | 0, k + 1, _ => rfl
  | n + 1, k + 1, h => by simp only [chs]; rw [chs_lt n k (by omega), chs_lt n (k + 1) (by omega)]
theorem chs_self : ∀ n, chs n n = 1
  | 0 => rfl
  | n + 1 => by simp only [chs]; rw [chs_self n, chs_lt n (n + 1) (by omega)]
theorem chs_mul : ∀ (n k : Nat), (k + 1) * chs (n + 1) (k + 1) = (n + 1) * chs n k
  | 0, 0 => rfl
  | 0, k + 1 => by simp [chs]
  | n + 1, 0 => by
    have := chs_mul n 0
    simp only [chs, chs_zero] at this ⊢
    omega
  | n + 1, k + 1 => by
    have h1 := chs_mul n k
    have h2 := chs_mul n (k + 1)
    have e1 : chs (n + 1 + 1) (k + 1 + 1) = chs (n + 1) (k + 1) + chs (n + 1) (k + 1 + 1) := rfl
    have e2 : chs (n + 1) (k + 1) = chs n k + chs n (k + 1) := rfl
    rw [e1, Nat.mul_add, h2, Nat.add_mul, Nat.one_mul, h1]
    have e3 : (n + 1 + 1) * chs (n + 1) (k + 1) = (n + 1) * chs (n + 1) (k + 1) + chs (n + 1) (k + 1) := by rw [Nat.add_mul, Nat.one_mul]
    rw [e3, e2, Nat.mul_add]
    omega
def sumC (n : Nat) : Nat → Nat
  | 0 => 0
  | m + 1 => sumC n m + chs n m
theorem sumC_succ (n : Nat) : ∀ m, sumC (n + 1) (m + 1) = sumC n m + sumC n (m + 1)
  | 0 => by simp [sumC, chs_zero]
  | m + 1 => by
    show sumC (n + 1) (m + 1) + chs (n + 1) (m + 1) = _
    rw [sumC_succ n m]
    have : chs (n + 1) (m + 1) = chs n m + chs n (m + 1) := rfl
    rw [this]
    simp only [sumC]
    omega
theorem sumC_pow : ∀ n, sumC n (n + 1) = 2 ^ n
  | 0 => rfl
  | n + 1 => by
    rw [sumC_succ n (n + 1), sumC_pow n]
    have : sumC n (n + 1 + 1) = sumC n (n + 1) + chs n (n + 1) := rfl
    rw [this, sumC_pow n, chs_lt n (n + 1) (by omega), Nat.pow_succ]
    omega

/-- A prime: no number from two on, but less than it, divides it. -/
def Prm (p : Nat) : Prop := 2 ≤ p ∧ ∀ d, 2 ≤ d → d < p → ¬ d ∣ p
theorem Prm.coprime {p k : Nat} (h : Prm p) (h0 : 0 < k) (h1 : k < p) : Nat.Coprime p k := by
  have hg : Nat.gcd p k ∣ p := Nat.gcd_dvd_left p k
  have hk : Nat.gcd p k ∣ k := Nat.gcd_dvd_right p k
  have hle := Nat.le_of_dvd h0 hk
  have hpos : 0 < Nat.gcd p k := Nat.gcd_pos_of_pos_right _ h0
  unfold Nat.Coprime
  rcases Nat.lt_or_ge (Nat.gcd p k) 2 with e | e
  · omega
  · exact absurd hg (h.2 _ e (by omega))
theorem Prm.chs {p k : Nat} (h : Prm p) (h0 : 0 < k) (h1 : k < p) : p ∣ chs p k := by
  obtain ⟨j, rfl⟩ : ∃ j, k = j + 1 := ⟨k - 1, by omega⟩
  obtain ⟨n, rfl⟩ : ∃ n, p = n + 1 := ⟨p - 1, by omega⟩
  have := chs_mul n j
  have hd : n + 1 ∣ (j + 1) * Go.Abs.chs (n + 1) (j + 1) := by rw [this]; exact Nat.dvd_mul_right _ _
  exact (h.coprime h0 h1).dvd_of_dvd_mul_left hd
theorem Prm.sum {p : Nat} (h : Prm p) : ∀ m, 1 ≤ m → m ≤ p → sumC p m % p = 1 % p
  | 0, h1, _ => by omega
  | 1, _, _ => by simp [sumC, chs_zero]
  | m + 2, _, h2 => by
    show (sumC p (m + 1) + Go.Abs.chs p (m + 1)) % p = _
    have ih := Prm.sum h (m + 1) (by omega) (by omega)
    have hd := h.chs (k := m + 1) (by omega) (by omega)
    rw [Nat.add_mod, ih, Nat.mod_eq_zero_of_dvd hd]; simp
theorem Prm.two_pow {p : Nat} (h : Prm p) : 2 ^ p % p = 2 % p := by
  have h2 := h.1
  rw [← sumC_pow p]
  show (sumC p p + Go.Abs.chs p p) % p = _
  rw [chs_self, Nat.add_mod, h.sum p (by omega) (Nat.le_refl _), ← Nat.add_mod]
theorem Prm.half {p : Nat} (h : Prm p) (h2 : p ≠ 2) : 2 ^ (p - 2) % p = (p + 1) / 2 := by
  have hp := h.1
  have hodd : p % 2 = 1 := by
    rcases Nat.mod_two_eq_zero_or_one p with e | e
    · exact absurd (Nat.dvd_of_mod_eq_zero e) (h.2 2 (by omega) (by omega))
    · exact e
  have hc : Nat.Coprime p 2 := h.coprime (by omega) (by omega)
  have hpw : 2 ^ p = 2 * (2 * 2 ^ (p - 2)) := by
    obtain ⟨m, hm⟩ : ∃ m, p = m + 2 := ⟨p - 2, by omega⟩
    rw [hm]
    show 2 ^ (m + 1 + 1) = 2 * (2 * 2 ^ (m + 2 - 2))
    rw [Nat.add_sub_cancel, Nat.pow_succ, Nat.pow_succ]; omega
  have hmod := h.two_pow
  -- p divides 2 * (2 * x) - 2
  have hge : 1 ≤ 2 ^ (p - 2) := Nat.pow_pos (by omega)
  have hd : p ∣ 2 ^ p - 2 := Nat.dvd_of_mod_eq_zero (Nat.sub_mod_eq_zero_of_mod_eq hmod)
  have hd2 : p ∣ 2 * (2 * 2 ^ (p - 2) - 1) := by
    have : 2 * (2 * 2 ^ (p - 2) - 1) = 2 ^ p - 2 := by rw [hpw]; omega
    rw [this]; exact hd
  have hd3 : p ∣ 2 * 2 ^ (p - 2) - 1 := hc.dvd_of_dvd_mul_left hd2
  obtain ⟨q, hq⟩ := hd3
  have hx := Nat.div_add_mod (2 ^ (p - 2)) p
  generalize hX : 2 ^ (p - 2) = X at *
  have hr := Nat.mod_lt X (show 0 < p by omega)
  -- 2 * (X % p) = 1 + p * something
  have hlin : 2 * (X % p) + p * (2 * (X / p)) = p * q + 1 := by
    have : 2 * X = p * q + 1 := by omega
    rw [← this]
    have e : p * (2 * (X / p)) = 2 * (p * (X / p)) := by rw [Nat.mul_left_comm]
    rw [e]; omega
  have hle : 2 * (X / p) ≤ q := by
    rcases Nat.lt_or_ge q (2 * (X / p)) with e | e
    · have : p * (q + 1) ≤ p * (2 * (X / p)) := Nat.mul_le_mul_left _ e
      rw [Nat.mul_add] at this
      omega
    · exact e
  obtain ⟨t, ht⟩ : ∃ t, q = 2 * (X / p) + t := ⟨q - 2 * (X / p), by omega⟩
  rw [ht, Nat.mul_add] at hlin
  have ht1 : t = 1 := by
    match t, hlin with
    | 0, hlin => simp at hlin; omega
    | 1, _ => rfl
    | t + 2, hlin =>
      have : p * (t + 2) = p * t + p * 2 := Nat.mul_add _ _ _
      have h0 : 0 ≤ p * t := Nat.zero_le _
      omega
  rw [ht1] at hlin
  omega

/-- The program's test tells primes. -/
theorem hasDiv_false : ∀ (k : Nat) (n d : Int), 0 < d → hasDiv k n d = false → ∀ e : Int, d ≤ e → e < d + k → e * e ≤ n → ¬ n % e = 0
  | 0, n, d, _, _, e, h1, h2, _ => by omega
  | k + 1, n, d, hd, h, e, h1, h2, h3 => by
    have hdd : d * d ≤ e * e := Int.mul_le_mul h1 h1 (by omega) (by omega)
    unfold hasDiv at h
    rw [if_pos (by omega)] at h
    simp only [Bool.or_eq_false_iff, beq_eq_false_iff_ne, ne_eq] at h
    by_cases he : e = d
    · subst he
      intro h0
      refine h.1 ?_
      have : 0 ≤ n := by have : 0 ≤ e * e := Int.mul_nonneg (by omega) (by omega); omega
      rw [Int.tmod_eq_emod_of_nonneg this]; exact h0
    · exact hasDiv_false k n (d + 1) (by omega) h.2 e (by omega) (by omega) h3
theorem primeB_prm {p : Int} (h : primeB p = true) : Prm p.toNat ∧ 2 ≤ p ∧ p ≤ 1000003 := by
  have h2 := prime_two h
  simp only [primeB, Bool.and_eq_true, Bool.not_eq_true', decide_eq_true_eq] at h
  have hf := hasDiv_false 999 p 2 (by omega) h.2
  refine ⟨⟨by omega, fun d hd1 hd2 hdv => ?_⟩, h2⟩
  obtain ⟨c, hc⟩ := hdv
  have hpc : p = (d : Int) * (c : Int) := by
    have : ((p.toNat : Nat) : Int) = ((d * c : Nat) : Int) := by rw [hc]
    rw [Int.natCast_mul] at this
    omega
  have hc1 : 2 ≤ c := by
    rcases Nat.lt_or_ge c 2 with e | e
    · have : c = 0 ∨ c = 1 := by omega
      rcases this with rfl | rfl
      · simp at hc; omega
      · simp at hc; omega
    · exact e
  -- the smaller of the two
  rcases Nat.le_total d c with e | e
  · have hdd : d * d ≤ d * c := Nat.mul_le_mul_left _ e
    have hle : ((d : Int)) * d ≤ p := by rw [hpc]; exact_mod_cast hdd
    refine hf d (by omega) ?_ hle ?_
    · rcases Nat.lt_or_ge d 1001 with g | g
      · omega
      · have : (1001 : Int) * 1001 ≤ (d : Int) * d := Int.mul_le_mul (by omega) (by omega) (by omega) (by omega)
        omega
    · rw [hpc]; exact Int.mul_emod_right _ _
  · have hdd : c * c ≤ d * c := Nat.mul_le_mul_right _ e
    have hle : ((c : Int)) * c ≤ p := by rw [hpc]; exact_mod_cast hdd
    refine hf c (by omega) ?_ hle ?_
    · rcases Nat.lt_or_ge c 1001 with g | g
      · omega
      · have : (1001 : Int) * 1001 ≤ (c : Int) * c := Int.mul_le_mul (by omega) (by omega) (by omega) (by omega)
        omega
    · rw [hpc]; exact Int.mul_emod_left _ _
end Go.Abs
/- Contracts: circuits: their check; bits; inverses; roots. -/
namespace Go.Abs
set_option linter.all false
set_option maxRecDepth 10000

theorem bitAnd_one {x : Int} (h0 : 0 ≤ x) (h1 : x ≤ 9223372036854775807) : bitAnd .i64 x 1 = x % 2 := by
  have e1 : (BitVec.ofInt (IntKind.bits .i64) x &&& BitVec.ofInt (IntKind.bits .i64) 1).toNat = x.toNat % 2 := by
    rw [BitVec.toNat_and]
    have a1 : (BitVec.ofInt (IntKind.bits .i64) x).toNat = x.toNat := by
      simp [IntKind.bits, BitVec.toNat_ofInt]
      omega
    have a2 : (BitVec.ofInt (IntKind.bits .i64) 1).toNat = 1 := by simp [IntKind.bits, BitVec.toNat_ofInt]
    rw [a1, a2, Nat.and_one_is_mod]
  unfold bitAnd
  rw [e1, wrap_id] <;> omega
theorem shlR_nat {x : Int} {n : Nat} (h0 : 0 ≤ x) (hn : n ≤ 64) : shlR .i64 x (n : Int) = x / (2 ^ n : Nat) := by
  unfold shlR
  have : min ((n : Int)).toNat (IntKind.bits .i64) = n := by simp [IntKind.bits]; omega
  rw [this, Int.fdiv_eq_ediv_of_nonneg _ (by exact_mod_cast Nat.zero_le _)]
  simp
theorem shlL_one {n : Nat} (hn : n ≤ 40) : shlL .i64 1 (n : Int) = ((2 ^ n : Nat) : Int) := by
  unfold shlL
  have : min ((n : Int)).toNat (IntKind.bits .i64) = n := by simp [IntKind.bits]; omega
  rw [this]
  have h : (2 : Int) ^ n = ((2 ^ n : Nat) : Int) := by simp
  have hle : 2 ^ n ≤ 2 ^ 40 := Nat.pow_le_pow_right (by omega) hn
  rw [Int.one_mul, h]
  generalize 2 ^ n = m at hle ⊢
  rw [wrap_id] <;> omega

/-- impl.rawInverse: a power modulo p -/
theorem c_irawInverse_0 {p : Int} (hp0 : 2 ≤ p) (hp : p ≤ 1000003) (H : AH) : ∀ (e : Nat) (x inv : Nat), (x : Int) < p → (inv : Int) < p → e ≤ 1000003 →
    R (.loop F.irawInverse 0) [isc p, isc (x : Int), isc (inv : Int), isc (e : Int)] H = some ⟨2, [isc ((inv * x ^ e % p.toNat : Nat) : Int)], H⟩ := by
  intro e
  induction e using Nat.strongRecOn with
  | ind e ih =>
    intro x inv hx hi he
    by_cases h0 : e = 0
    · subst h0
      rw [R_eq, e_irawInverse_0]
      have : inv % p.toNat = inv := Nat.mod_eq_of_lt (by omega)
      simp [this]
    · have hgt : decide ((e : Int) > 0) = true := decide_eq_true (by omega)
      have hz : (p == 0) = false := bf (by omega)
      have hb := bitAnd_one (x := (e : Int)) (by omega) (by omega)
      have hs := shlR_nat (x := (e : Int)) (n := 1) (by omega) (by omega)
      have hs' : shlR .i64 (e : Int) 1 = ((e / 2 : Nat) : Int) := by
        have : ((1 : Nat) : Int) = 1 := rfl
        rw [this] at hs; rw [hs]; simp
      have hmulx : ((x : Int)) * x ≤ 1000003 * 1000003 := Int.mul_le_mul (by omega) (by omega) (by omega) (by omega)
      have hmulx0 : 0 ≤ ((x : Int)) * x := Int.mul_nonneg (by omega) (by omega)
      have hmuli : ((inv : Int)) * x ≤ 1000003 * 1000003 := Int.mul_le_mul (by omega) (by omega) (by omega) (by omega)
      have hmuli0 : 0 ≤ ((inv : Int)) * x := Int.mul_nonneg (by omega) (by omega)
      have wx : Int.tmod (IntKind.wrap .i64 ((x : Int) * x)) p = ((x * x % p.toNat : Nat) : Int) := by
        rw [wrap_id (by omega) (by omega), Int.tmod_eq_emod_of_nonneg hmulx0]
        have : p = ((p.toNat : Nat) : Int) := by omega
        rw [this, Int.natCast_emod]; simp
      have wi : Int.tmod (IntKind.wrap .i64 ((inv : Int) * x)) p = ((inv * x % p.toNat : Nat) : Int) := by
        rw [wrap_id (by omega) (by omega), Int.tmod_eq_emod_of_nonneg hmuli0]
        have : p = ((p.toNat : Nat) : Int) := by omega
        rw [this, Int.natCast_emod]; simp
      have hlt1 : ((x * x % p.toNat : Nat) : Int) < p := by have := Nat.mod_lt (x * x) (show 0 < p.toNat by omega); omega
      have hlt2 : ((inv * x % p.toNat : Nat) : Int) < p := by have := Nat.mod_lt (inv * x) (show 0 < p.toNat by omega); omega
      have hpow : ∀ a : Nat, a * (x * x % p.toNat) ^ (e / 2) % p.toNat = a * (x * x) ^ (e / 2) % p.toNat := fun a => by
        rw [Nat.mul_mod, Nat.pow_mod, Nat.mod_mod, ← Nat.pow_mod, ← Nat.mul_mod]
      have hsq : (x * x) ^ (e / 2) = x ^ (2 * (e / 2)) := by rw [← Nat.pow_two, ← Nat.pow_mul]
      rw [R_eq, e_irawInverse_0, hgt, cond_true, hb, hz, hs', wx, wi]
      simp only [cond_false]
      rcases Nat.mod_two_eq_zero_or_one e with h2 | h2
      · have hbit : (((e : Int) % 2) == 1) = false := bf (by omega)
        rw [hbit, cond_false, ih (e / 2) (by omega) _ _ hlt1 hi (by omega), hpow, hsq]
        have : 2 * (e / 2) = e := by omega
        rw [this]
      · have hbit : (((e : Int) % 2) == 1) = true := by simp; omega
        rw [hbit, cond_true, ih (e / 2) (by omega) _ _ hlt1 hlt2 (by omega), hpow, hsq]
        have e3 : inv * x % p.toNat * x ^ (2 * (e / 2)) % p.toNat = inv * x ^ e % p.toNat := by
          rw [Nat.mod_mul_mod, Nat.mul_assoc]
          congr 2
          rw [← Nat.pow_succ']
          congr 1; omega
        rw [e3]
/-- the inverse of two -/
theorem c_irawInverse_two {p : Int} (hp : primeB p = true) (h2 : p > 2) (H : AH) : R (.fn F.irawInverse) [isc p, isc 2] H = some ⟨1, [isc ((p + 1) / 2)], H⟩ := by
  obtain ⟨hprm, h3, h4⟩ := primeB_prm hp
  have hw : IntKind.wrap .i64 (p - 2) = ((p.toNat - 2 : Nat) : Int) := by rw [wrap_id] <;> omega
  have := c_irawInverse_0 h3 h4 H (p.toNat - 2) 2 1 (by omega) (by omega) (by omega)
  rw [Nat.one_mul, hprm.half (by omega)] at this
  have e : (((p.toNat + 1) / 2 : Nat) : Int) = (p + 1) / 2 := by omega
  rw [e] at this
  have this : R (.loop F.irawInverse 0) [isc p, isc 2, isc 1, isc ((p.toNat - 2 : Nat) : Int)] H = _ := this
  rw [R_eq, e_irawInverse, hw, this]
  rfl

structure Gt where
  k : Int
  a : Int
  b : Int
def G3 (H : AH) (s : Sl) (gs : List Gt) : Prop := s.n = gs.length ∧ s.n ≤ s.c ∧ (gs = [] ∨ ∃ cs, rdB H s.b = some cs ∧ ∀ (i : Nat) g, gs[i]? = some g → cs[s.o + i * 3]? = some (.int .i64 g.k) ∧ cs[s.o + i * 3 + 1]? = some (.int .i64 g.a) ∧ cs[s.o + i * 3 + 1 + 1]? = some (.int .i64 g.b))
theorem G3.le {H H' : AH} (h : Le H H') {s : Sl} {gs : List Gt} (k : G3 H s gs) : G3 H' s gs := ⟨k.1, k.2.1, k.2.2.imp id fun ⟨cs, h1, h2⟩ => ⟨cs, h.rdB h1, h2⟩⟩
theorem G3.ld {H : AH} {s : Sl} {gs : List Gt} (h : G3 H s gs) {i : Nat} (hi : i < gs.length) {α : Type} (k : Int → Int → Int → Option α) :
    ((ixA s (i : Int) 3).bind fun o => (rdB H s.b).bind fun q => (intAt .i64 q o).bind fun x => (intAt .i64 q (o + 1)).bind fun y => (intAt .i64 q (o + 1 + 1)).bind fun z => k x y z) = k gs[i].k gs[i].a gs[i].b := by
  obtain ⟨h1, h2, e | ⟨cs, hc, hg⟩⟩ := h
  · rw [e] at hi; simp at hi
  · obtain ⟨g1, g2, g3⟩ := hg i _ (List.getElem?_eq_getElem hi)
    rw [ixA_nat (by omega)]
    simp only [Option.bind_some, hc, intAt_get g1, intAt_get g2, intAt_get g3]
@[reducible] def crpv (p q : Int) (s : Sl) : PV := .agg [.int .i64 p, .int .i64 q, .sl s]
@[reducible] def gpv (g : Gt) : PV := .agg [.int .i64 g.k, .int .i64 g.a, .int .i64 g.b]

def gateB (q : Int) (g : Gt) : Bool := inB g.k 1 9 && inB g.a 0 (q - 1) && (if g.k < 8 then g.b == 0 else inB g.b 0 (q - 1) && !(g.a == g.b))
def circB (p q : Int) (gs : List Gt) : Bool := primeB p && decide (p > 2) && inB q 1 5 && decide (gs.length ≤ 24) && gs.all (gateB q)
def omega (p : Int) : Rg := ⟨8, p, 0⟩
theorem ringB_omega (p : Int) : ringB (omega p) = (primeB p && decide (p > 2)) := by simp [ringB, omega]
theorem c_iomegaRing (p : Int) (H : AH) : R (.fn F.iomegaRing) [isc p] H = some ⟨1, [(omega p).pv], H⟩ := by rw [R_eq, e_iomegaRing]; rfl
theorem c_sl40Ring (p : Int) (H : AH) : R (.fn F.sl40Ring) [isc p] H = some ⟨1, [(omega p).pv], H⟩ := by rw [R_eq, e_sl40Ring]; rfl

theorem c_iCircuitOk_0 {H : AH} {p q : Int} {s : Sl} {gs : List Gt} (hq : 1 ≤ q ∧ q ≤ 5) (h : G3 H s gs) (hl : gs.length ≤ 24) : R (.loop F.iCircuitOk 0) [ssc s, isc (gs.length : Int), isc 0, crpv p q s] H = cond (gs.all (gateB q)) (some ⟨2, [], H⟩) (some ⟨1, [bsc false], H⟩) :=
  loop_allB (F := fun i : Nat => R (.loop F.iCircuitOk 0) [ssc s, isc (gs.length : Int), isc (i : Int), crpv p q s] H) (l := gs) (gateB q) _ _
    (by rw [R_eq, e_iCircuitOk_0, lt_self]; rfl) (fun i hi => by
      rw [R_eq, e_iCircuitOk_0, lt_true hi, w1 hi (by omega), cond_true, h.ld hi]
      simp only [gateB, inB]
      by_cases a1 : gs[i].k < 1
      · simp [a1, show ¬ gs[i].k ≥ 1 by omega]
      by_cases a2 : gs[i].k > 9
      · simp [a1, a2, show ¬ gs[i].k ≤ 9 by omega]
      by_cases a3 : gs[i].a < 0
      · simp [a1, a2, a3, show ¬ gs[i].a ≥ 0 by omega]
      by_cases a4 : gs[i].a ≥ q
      · simp [a1, a2, a3, a4, show ¬ gs[i].a ≤ q - 1 by omega]
      have b1 : gs[i].k ≥ 1 := by omega
      have b2 : gs[i].k ≤ 9 := by omega
      have b3 : gs[i].a ≥ 0 := by omega
      have b4 : gs[i].a ≤ q - 1 := by omega
      simp only [decide_eq_false a1, decide_eq_false a2, decide_eq_false a3, decide_eq_false a4, cond_false, decide_eq_true b1, decide_eq_true b2, decide_eq_true b3, decide_eq_true b4, Bool.and_self, Bool.true_and]
      by_cases a5 : gs[i].k < 8
      · rw [if_pos a5, decide_eq_true a5, cond_true]
        by_cases a6 : gs[i].b = 0
        · simp [a6]
        · have : (gs[i].b != 0) = true := by simpa using a6
          rw [this, bf a6]; rfl
      · rw [if_neg a5, decide_eq_false a5, cond_false]
        by_cases a6 : gs[i].b < 0
        · simp [a6, show ¬ gs[i].b ≥ 0 by omega]
        by_cases a7 : gs[i].b ≥ q
        · simp [a6, a7, show ¬ gs[i].b ≤ q - 1 by omega]
        have b6 : gs[i].b ≥ 0 := by omega
        have b7 : gs[i].b ≤ q - 1 := by omega
        simp only [decide_eq_false a6, decide_eq_false a7, cond_false, decide_eq_true b6, decide_eq_true b7, Bool.and_self, Bool.true_and]
        by_cases a8 : gs[i].b = gs[i].a
        · simp [a8]
        · rw [bf a8, bf (Ne.symm a8)]; rfl)
/-- impl.CircuitOk -/
theorem c_iCircuitOk {H : AH} {p q : Int} {s : Sl} {gs : List Gt} (h : G3 H s gs) : R (.fn F.iCircuitOk) [crpv p q s] H = some ⟨1, [bsc (circB p q gs)], H⟩ := by
  rw [R_eq, e_iCircuitOk, c_iomegaRing]
  simp only [Option.bind_some, o_iii]
  have hr : R (.fn F.iRingOk) [.agg [.int .i64 (omega p).k, .int .i64 (omega p).p, .int .i64 (omega p).n]] H = _ := c_iRingOk (omega p) H
  rw [hr, ringB_omega]
  simp only [Option.bind_some, one_bool, circB]
  cases hp : (primeB p && decide (p > 2)) with
  | false => rfl
  | true =>
  simp only [Bool.not_true, cond_false, Bool.true_and]
  by_cases a1 : q < 1
  · simp [a1, inB, show ¬ q ≥ 1 by omega]
  by_cases a2 : q > 5
  · simp [a1, a2, inB, show ¬ q ≤ 5 by omega]
  by_cases a3 : gs.length ≤ 24
  · have hq : inB q 1 5 = true := by simp [inB]; omega
    have a3' : ¬ ((gs.length : Int) > 24) := by omega
    rw [h.1, decide_eq_false a1, decide_eq_false a2, decide_eq_false a3', hq, decide_eq_true a3]
    simp only [cond_false, Bool.true_and]
    rw [c_iCircuitOk_0 (by omega) h a3]
    cases gs.all (gateB q) <;> rfl
  · have a3' : ((gs.length : Int) > 24) := by omega
    rw [h.1, decide_eq_false a1, decide_eq_false a2, decide_eq_true a3', decide_eq_false a3]
    simp

theorem c_sCircuitOk_0 {H : AH} {p q : Int} {s : Sl} {gs : List Gt} (hq : 1 ≤ q ∧ q ≤ 5) (h : G3 H s gs) (hl : gs.length ≤ 24) : R (.loop F.sCircuitOk 0) [ssc s, isc (gs.length : Int), isc 0, crpv p q s] H = cond (gs.all (gateB q)) (some ⟨2, [], H⟩) (some ⟨1, [bsc false], H⟩) :=
  loop_allB (F := fun i : Nat => R (.loop F.sCircuitOk 0) [ssc s, isc (gs.length : Int), isc (i : Int), crpv p q s] H) (l := gs) (gateB q) _ _
    (by rw [R_eq, e_sCircuitOk_0, lt_self]; rfl) (fun i hi => by
      have hw : IntKind.wrap .i64 (q - 1) = q - 1 := by rw [wrap_id] <;> omega
      rw [R_eq, e_sCircuitOk_0, lt_true hi, w1 hi (by omega), cond_true, h.ld hi, hw]
      simp only [c_sl01In, Option.bind_some, one_bool, gateB]
      cases inB gs[i].k 1 9 with
      | false => rfl
      | true =>
      simp only [Bool.not_true, cond_false, Bool.true_and]
      cases inB gs[i].a 0 (q - 1) with
      | false => rfl
      | true =>
      simp only [Bool.not_true, cond_false, Bool.true_and]
      by_cases a5 : gs[i].k < 8
      · have a6 : ¬ gs[i].k ≥ 8 := by omega
        rw [if_pos a5, decide_eq_true a5, cond_true, decide_eq_false a6]
        by_cases a7 : gs[i].b = 0
        · simp [a7]
        · have : (gs[i].b != 0) = true := by simpa using a7
          rw [this, bf a7]; rfl
      · have a6 : gs[i].k ≥ 8 := by omega
        rw [if_neg a5, decide_eq_false a5, cond_false, decide_eq_true a6, cond_true]
        cases inB gs[i].b 0 (q - 1) with
        | false => rfl
        | true =>
        simp only [Bool.not_true, cond_false, Bool.true_and]
        cases gs[i].a == gs[i].b <;> rfl)
/-- spec.CircuitOk -/
theorem c_sCircuitOk {H : AH} {p q : Int} {s : Sl} {gs : List Gt} (h : G3 H s gs) : R (.fn F.sCircuitOk) [crpv p q s] H = some ⟨1, [bsc (circB p q gs)], H⟩ := by
  rw [R_eq, e_sCircuitOk, c_sIsPrime]
  simp only [Option.bind_some, one_bool, circB]
  cases hp : primeB p with
  | false => rfl
  | true =>
  have hp2 := prime_two hp
  simp only [Bool.not_true, cond_false, Bool.true_and]
  by_cases a0 : p = 2
  · subst a0; rfl
  have a0' : p > 2 := by omega
  rw [bf a0, decide_eq_true a0', cond_false, c_sl01In]
  simp only [Option.bind_some, one_bool, Bool.true_and]
  cases hq : inB q 1 5 with
  | false => rfl
  | true =>
  simp only [Bool.not_true, cond_false, Bool.true_and]
  simp only [inB, Bool.and_eq_true, decide_eq_true_eq] at hq
  by_cases a3 : gs.length ≤ 24
  · have a3' : ¬ ((gs.length : Int) > 24) := by omega
    rw [h.1, decide_eq_false a3', decide_eq_true a3, cond_false]
    rw [c_sCircuitOk_0 (by omega) h a3]
    cases gs.all (gateB q) <;> rfl
  · have a3' : ((gs.length : Int) > 24) := by omega
    rw [h.1, decide_eq_true a3', decide_eq_false a3]
    rfl
end Go.Abs
/- Contracts: the matrices of gates. -/
namespace Go.Abs
set_option linter.all false
set_option maxRecDepth 10000

def rootE (p : Int) (n : Nat) : List Int := if n < 4 then (List.replicate 4 0).set n 1 else (List.replicate 4 0).set (n - 4) (p - 1)
theorem rootE_len (p : Int) (n : Nat) : (rootE p n).length = 4 := by unfold rootE; split <;> simp
@[reducible] def row4 (b : Nat) : Sl := ⟨b, 0, 4, 4, true⟩
/-- impl.rootElem -/
theorem c_irootElem {p : Int} (hp : 1 ≤ p ∧ p ≤ 1000003) {n : Nat} (hn : n < 8) (H : AH) : R (.fn F.irootElem) [isc p, isc (n : Int)] H = some ⟨1, [ssc (row4 H.length)], H ++ [⟨ics (rootE p n), .rw, 1⟩]⟩ := by
  have hm : mkB H 1 8 [.int .i64 0] 4 4 = some (⟨H.length, 0, 4, 4, true⟩, H ++ [⟨ics (List.replicate 4 0), .rw, 1⟩]) := mk_ints (n := 4) (by omega)
  rw [R_eq, e_irootElem, hm]
  simp only [Option.bind_some]
  unfold rootE
  by_cases h : n < 4
  · rw [if_pos h, decide_eq_true (show (n : Int) < 4 by omega), cond_true, st_own0 app_get h (by simp; omega), app_set]
  · have e : IntKind.wrap .i64 ((n : Int) - 4) = ((n - 4 : Nat) : Int) := by rw [wrap_id] <;> omega
    have e2 : IntKind.wrap .i64 (p - 1) = p - 1 := by rw [wrap_id] <;> omega
    rw [if_neg h, decide_eq_false (show ¬ (n : Int) < 4 by omega), cond_false, e, e2, st_own0 app_get (by omega) (by simp; omega), app_set]

def oG : List Int := [1, 0, 0, 0]
def zG : List Int := [0, 0, 0, 0]
def halfG (p : Int) : Int := (p + 1) / 2
def lastG (p k : Int) : List Int := if k = 2 ∨ k = 9 then [p - 1, 0, 0, 0] else if k = 3 then [0, 0, 1, 0] else if k = 4 then [0, 1, 0, 0] else if k = 6 then [0, 0, p - 1, 0] else if k = 7 then [0, 0, 0, p - 1] else oG
def matG (p k : Int) : List (List Int) :=
  if k = 1 then [zG, oG, oG, zG]
  else if k = 5 then [[0, halfG p, 0, p - halfG p], [0, halfG p, 0, p - halfG p], [0, halfG p, 0, p - halfG p], [0, p - halfG p, 0, halfG p]]
  else if k = 8 then [oG, zG, zG, zG, zG, oG, zG, zG, zG, zG, zG, oG, zG, zG, oG, zG]
  else if k = 9 then [oG, zG, zG, zG, zG, oG, zG, zG, zG, zG, oG, zG, zG, zG, zG, lastG p k]
  else [oG, zG, zG, lastG p k]

theorem i2_of {H : AH} {b n c : Nat} {x : Bool} {sls : List Sl} {ll : List (List Int)} (hb : H[b]? = some ⟨sls.map Sc.sl, .rw, 1⟩) (hn : n = ll.length) (hc : n ≤ c) (ha : All2 (fun s l => IS H s l) sls ll) : I2 H ⟨b, 0, n, c, x⟩ ll := by
  have key : ∀ {sls : List Sl} {ll : List (List Int)}, All2 (fun s l => IS H s l) sls ll → ∀ (i : Nat) l, ll[i]? = some l → ∃ a, sls[i]? = some a ∧ IS H a l := by
    intro sls ll h
    induction h with
    | nil => intro i l h; simp at h
    | cons a _ ih =>
      intro i l h
      cases i with
      | zero => simp at h; subst h; exact ⟨_, rfl, a⟩
      | succ i => exact ih i l (by simpa using h)
  refine ⟨hn, hc, .inr ⟨sls.map Sc.sl, by unfold rdB; rw [hb]; rfl, fun i l hi => ?_⟩⟩
  obtain ⟨a, h1, h2⟩ := key ha i l hi
  exact ⟨a, by rw [Nat.zero_add]; simp [h1], h2⟩
theorem getx (H X : AH) (j : Nat) : (H ++ X)[H.length + j]? = X[j]? := by rw [List.getElem?_append_right (by omega)]; simp
theorem rowx {H X : AH} {j : Nat} {l : List Int} (h : X[j]? = some ⟨ics l, .rw, 1⟩) (hl : l.length = 4) : IS (H ++ X) (row4 (H.length + j)) l := by
  have := IS.of_blk (H := H ++ X) (b := H.length + j) (l := l) (c := 4) (x := true) (by rw [getx, h]) (by omega)
  rw [hl] at this; exact this

/-- spec.l40Matrix -/
theorem c_sl40Matrix {p k : Int} (hp : 1 ≤ p ∧ p ≤ 1000003) (hk : 1 ≤ k ∧ k ≤ 9) (H : AH) : ∃ s H', R (.fn F.sl40Matrix) [isc p, isc k] H = some ⟨1, [ssc s], H'⟩ ∧ Le H H' ∧ I2 H' s (matG p k) := by
  have w1 : IntKind.wrap .i64 (p - 1) = p - 1 := by rw [wrap_id] <;> omega
  have w2 : IntKind.wrap .i64 (p + 1) = p + 1 := by rw [wrap_id] <;> omega
  have w3 : IntKind.wrap .i64 (Int.tdiv (p + 1) 2) = halfG p := by
    rw [Int.tdiv_eq_ediv_of_nonneg (by omega)]; unfold halfG
    rw [wrap_id] <;> omega
  have hh : 0 ≤ halfG p ∧ halfG p ≤ p := by unfold halfG; omega
  have w4 : IntKind.wrap .i64 (p - halfG p) = p - halfG p := by rw [wrap_id] <;> omega
  have heq : ∀ (x y : Int), x = y → (x == y) = true := fun x y h => by simp [h]
  rw [R_eq, e_sl40Matrix]
  simp only [newB_one, Option.bind_some, w1, w2, w3, w4, List.append_assoc, List.cons_append, List.nil_append, List.length_append, List.length_cons, List.length_nil, Nat.zero_add]
  have hcases : k = 1 ∨ k = 2 ∨ k = 3 ∨ k = 4 ∨ k = 5 ∨ k = 6 ∨ k = 7 ∨ k = 8 ∨ k = 9 := by omega
  rcases hcases with rfl | rfl | rfl | rfl | rfl | rfl | rfl | rfl | rfl
  · exact ⟨_, _, rfl, Le.app _ _, i2_of (sls := [row4 (H.length + 0), row4 (H.length + 1), row4 (H.length + 1), row4 (H.length + 0)]) ((getx H _ 4).trans rfl) rfl (by omega) (.cons (rowx rfl rfl) (.cons (rowx rfl rfl) (.cons (rowx rfl rfl) (.cons (rowx rfl rfl) .nil))))⟩
  · exact ⟨_, _, rfl, Le.app _ _, i2_of (sls := [row4 (H.length + 1), row4 (H.length + 0), row4 (H.length + 0), row4 (H.length + 2)]) ((getx H _ 4).trans rfl) rfl (by omega) (.cons (rowx rfl rfl) (.cons (rowx rfl rfl) (.cons (rowx rfl rfl) (.cons (rowx rfl rfl) .nil))))⟩
  · exact ⟨_, _, rfl, Le.app _ _, i2_of (sls := [row4 (H.length + 1), row4 (H.length + 0), row4 (H.length + 0), row4 (H.length + 4)]) ((getx H _ 5).trans rfl) rfl (by omega) (.cons (rowx rfl rfl) (.cons (rowx rfl rfl) (.cons (rowx rfl rfl) (.cons (rowx rfl rfl) .nil))))⟩
  · exact ⟨_, _, rfl, Le.app _ _, i2_of (sls := [row4 (H.length + 1), row4 (H.length + 0), row4 (H.length + 0), row4 (H.length + 4)]) ((getx H _ 5).trans rfl) rfl (by omega) (.cons (rowx rfl rfl) (.cons (rowx rfl rfl) (.cons (rowx rfl rfl) (.cons (rowx rfl rfl) .nil))))⟩
  · exact ⟨_, _, rfl, Le.app _ _, i2_of (sls := [row4 (H.length + 3), row4 (H.length + 3), row4 (H.length + 3), row4 (H.length + 4)]) ((getx H _ 5).trans rfl) rfl (by omega) (.cons (rowx rfl rfl) (.cons (rowx rfl rfl) (.cons (rowx rfl rfl) (.cons (rowx rfl rfl) .nil))))⟩
  · exact ⟨_, _, rfl, Le.app _ _, i2_of (sls := [row4 (H.length + 1), row4 (H.length + 0), row4 (H.length + 0), row4 (H.length + 4)]) ((getx H _ 5).trans rfl) rfl (by omega) (.cons (rowx rfl rfl) (.cons (rowx rfl rfl) (.cons (rowx rfl rfl) (.cons (rowx rfl rfl) .nil))))⟩
  · exact ⟨_, _, rfl, Le.app _ _, i2_of (sls := [row4 (H.length + 1), row4 (H.length + 0), row4 (H.length + 0), row4 (H.length + 4)]) ((getx H _ 5).trans rfl) rfl (by omega) (.cons (rowx rfl rfl) (.cons (rowx rfl rfl) (.cons (rowx rfl rfl) (.cons (rowx rfl rfl) .nil))))⟩
  · have z : IS (H ++ _) (row4 (H.length + 0)) zG := rowx (X := [⟨ics zG, .rw, 1⟩, ⟨ics oG, .rw, 1⟩, ⟨ics [p - 1, 0, 0, 0], .rw, 1⟩, ⟨ics [0, halfG p, 0, p - halfG p], .rw, 1⟩, ⟨([1, 0, 0, 0, 0, 1, 0, 0, 0, 0, 0, 1, 0, 0, 1, 0].map fun j => row4 (H.length + j)).map Sc.sl, .rw, 1⟩]) rfl rfl
    have o : IS (H ++ _) (row4 (H.length + 1)) oG := rowx (X := [⟨ics zG, .rw, 1⟩, ⟨ics oG, .rw, 1⟩, ⟨ics [p - 1, 0, 0, 0], .rw, 1⟩, ⟨ics [0, halfG p, 0, p - halfG p], .rw, 1⟩, ⟨([1, 0, 0, 0, 0, 1, 0, 0, 0, 0, 0, 1, 0, 0, 1, 0].map fun j => row4 (H.length + j)).map Sc.sl, .rw, 1⟩]) rfl rfl
    refine ⟨_, _, rfl, Le.app _ _, i2_of (sls := [1, 0, 0, 0, 0, 1, 0, 0, 0, 0, 0, 1, 0, 0, 1, 0].map fun j => row4 (H.length + j)) ((getx H _ 4).trans rfl) rfl (by omega) ?_⟩
    exact (.cons o (.cons z (.cons z (.cons z (.cons z (.cons o (.cons z (.cons z (.cons z (.cons z (.cons z (.cons o (.cons z (.cons z (.cons o (.cons z .nil))))))))))))))))
  · have z : IS (H ++ _) (row4 (H.length + 0)) zG := rowx (X := [⟨ics zG, .rw, 1⟩, ⟨ics oG, .rw, 1⟩, ⟨ics [p - 1, 0, 0, 0], .rw, 1⟩, ⟨ics [0, halfG p, 0, p - halfG p], .rw, 1⟩, ⟨([1, 0, 0, 0, 0, 1, 0, 0, 0, 0, 1, 0, 0, 0, 0, 2].map fun j => row4 (H.length + j)).map Sc.sl, .rw, 1⟩]) rfl rfl
    have o : IS (H ++ _) (row4 (H.length + 1)) oG := rowx (X := [⟨ics zG, .rw, 1⟩, ⟨ics oG, .rw, 1⟩, ⟨ics [p - 1, 0, 0, 0], .rw, 1⟩, ⟨ics [0, halfG p, 0, p - halfG p], .rw, 1⟩, ⟨([1, 0, 0, 0, 0, 1, 0, 0, 0, 0, 1, 0, 0, 0, 0, 2].map fun j => row4 (H.length + j)).map Sc.sl, .rw, 1⟩]) rfl rfl
    have m : IS (H ++ _) (row4 (H.length + 2)) (lastG p 9) := rowx (X := [⟨ics zG, .rw, 1⟩, ⟨ics oG, .rw, 1⟩, ⟨ics [p - 1, 0, 0, 0], .rw, 1⟩, ⟨ics [0, halfG p, 0, p - halfG p], .rw, 1⟩, ⟨([1, 0, 0, 0, 0, 1, 0, 0, 0, 0, 1, 0, 0, 0, 0, 2].map fun j => row4 (H.length + j)).map Sc.sl, .rw, 1⟩]) rfl rfl
    refine ⟨_, _, rfl, Le.app _ _, i2_of (sls := [1, 0, 0, 0, 0, 1, 0, 0, 0, 0, 1, 0, 0, 0, 0, 2].map fun j => row4 (H.length + j)) ((getx H _ 4).trans rfl) rfl (by omega) ?_⟩
    exact (.cons o (.cons z (.cons z (.cons z (.cons z (.cons o (.cons z (.cons z (.cons z (.cons z (.cons o (.cons z (.cons z (.cons z (.cons z (.cons m .nil))))))))))))))))
end Go.Abs
/- Contracts: the matrices of gates (impl); the qubits of a gate; the tensor of a gate. -/
namespace Go.Abs
set_option linter.all false
set_option maxRecDepth 10000

/-- A row of cells is filled upwards. -/
theorem fill_upC {β : Type} {F : Nat → AH → β} {H : AH} {b n : Nat} (g : Nat → Sc) (hstep : ∀ i cs, i < n → cs.length = n → F i (H.set b ⟨cs, .rw, 1⟩) = F (i + 1) (H.set b ⟨cs.set i (g i), .rw, 1⟩)) :
    ∀ cs, cs.length = n → F 0 (H.set b ⟨cs, .rw, 1⟩) = F n (H.set b ⟨(List.range n).map g, .rw, 1⟩) := by
  have key : ∀ k i cs, i + k = n → cs.length = n → F i (H.set b ⟨cs, .rw, 1⟩) = F n (H.set b ⟨cs.take i ++ ((List.range n).map g).drop i, .rw, 1⟩) := by
    intro k
    induction k with
    | zero =>
      intro i cs hi hl
      obtain rfl : i = n := by omega
      rw [List.take_of_length_le (by omega), List.drop_eq_nil_of_le (by simp), List.append_nil]
    | succ k ih =>
      intro i cs hi hl
      rw [hstep i cs (by omega) hl, ih (i + 1) _ (by omega) (by simpa using hl)]
      congr 3
      have h1 : (cs.set i (g i)).take (i + 1) = cs.take i ++ [g i] := by
        rw [take_snoc_any (by simp; omega)]
        simp [List.take_set_of_le (Nat.le_refl i)]
      have h2 : ((List.range n).map g).drop i = g i :: ((List.range n).map g).drop (i + 1) := by
        rw [List.drop_eq_getElem_cons (by simp; omega)]
        simp
      rw [h1, h2]; simp
  intro cs hl
  have := key n 0 cs (by omega) hl
  simpa using this
theorem st_cell {H : AH} {b n c : Nat} {x : Bool} {cs : List Sc} (hb : H[b]? = some ⟨cs, .rw, 1⟩) {i : Nat} (hi : i < n) (hc : i < cs.length) (v : Sc) {α : Type} (k : AH → Option α) :
    ((ixA ⟨b, 0, n, c, x⟩ (i : Int) 1).bind fun o => (putR H b o [v]).bind k) = k (H.set b ⟨cs.set i v, .rw, 1⟩) := by
  rw [ixA_nat (by exact hi)]
  simp only [Option.bind_some, Nat.mul_one, Nat.zero_add]
  rw [putR_one hb hc]
  rfl
theorem mkAt_one {H : AH} : mkAt (reserve H 1) (H.length + 0) 1 8 [.int .i64 0] 4 4 = some (row4 H.length, H ++ [⟨ics zG, .rw, 1⟩]) := by
  have := mkAt_ints (H := reserve H 1) (i := H.length + 0) (n := 4) (by simp [isRes, reserve1, resB]) (by omega)
  have e : (reserve H 1).set (H.length + 0) ⟨ics (List.replicate 4 0), .rw, 1⟩ = H ++ [⟨ics zG, .rw, 1⟩] := by rw [reserve1, Nat.add_zero, app_set]; rfl
  rw [e] at this
  exact this
/-- noughts and one, side by side -/
theorem zero_one {p : Int} (hp : 1 ≤ p ∧ p ≤ 1000003) (H : AH) :
    R (.fn F.irootElem) [isc p, isc 0] ((H ++ [(⟨ics zG, .rw, 1⟩ : Blk)]).set (H.length + 0) deadB) = some ⟨1, [ssc (row4 (H.length + 1))], H ++ [deadB] ++ [⟨ics oG, .rw, 1⟩]⟩ ∧
    decide ((H ++ [deadB] ++ [(⟨ics oG, .rw, 1⟩ : Blk)]).length ≥ (H ++ [(⟨ics zG, .rw, 1⟩ : Blk)]).length) = true ∧
    restB (H ++ [⟨ics zG, .rw, 1⟩]) (H ++ [deadB] ++ [⟨ics oG, .rw, 1⟩]) (H.length + 0) = H ++ [⟨ics zG, .rw, 1⟩, ⟨ics oG, .rw, 1⟩] := by
  refine ⟨?_, ?_, ?_⟩
  · rw [Nat.add_zero, app_set]
    have := c_irootElem hp (n := 0) (by omega) (H ++ [deadB])
    have e : rootE p 0 = oG := rfl
    rw [e] at this
    simp only [List.length_append, List.length_cons, List.length_nil, Nat.zero_add] at this
    exact this
  · simp
  · unfold restB
    rw [Nat.add_zero]
    simp [deadB]

def idCells (n : Nat) (z o : Sl) : List Sc := (List.range (n * n)).map fun i => if i / n = i % n then Sc.sl o else Sc.sl z
/-- impl.gateMatrix: the unit matrix -/
theorem c_igateMatrix_0 {H : AH} {b n : Nat} {z o : Sl} (hn : 1 ≤ n) (hn4 : n ≤ 4) (hb : H[b]? = some ⟨List.replicate (n * n) (.sl ⟨0, 0, 0, 0, true⟩), .rw, 1⟩) :
    R (.loop F.igateMatrix 0) [isc (n : Int), ssc z, ssc o, ssc ⟨b, 0, n * n, n * n, true⟩, isc ((n * n : Nat) : Int), isc 0] H = some ⟨2, [], H.set b ⟨idCells n z o, .rw, 1⟩⟩ := by
  have hnn : n * n ≤ 16 := Nat.mul_le_mul hn4 hn4
  have := fill_upC (β := Option Out) (F := fun i Hc => R (.loop F.igateMatrix 0) [isc (n : Int), ssc z, ssc o, ssc ⟨b, 0, n * n, n * n, true⟩, isc ((n * n : Nat) : Int), isc (i : Int)] Hc) (H := H) (b := b) (n := n * n) (fun i => if i / n = i % n then Sc.sl o else Sc.sl z)
    (fun i cs hi hl => by
      have hz : ((n : Int) == 0) = false := bf (by omega)
      have e1 : IntKind.wrap .i64 (Int.tdiv (i : Int) n) = ((i / n : Nat) : Int) := by
        rw [Int.tdiv_eq_ediv_of_nonneg (by omega), ← Int.natCast_ediv]
        have := Nat.div_le_self i n
        generalize i / n = d at this ⊢
        rw [wrap_id] <;> omega
      have e2 : Int.tmod (i : Int) n = ((i % n : Nat) : Int) := by rw [Int.tmod_eq_emod_of_nonneg (by omega), ← Int.natCast_emod]
      rw [R_eq, e_igateMatrix_0, lt_true hi, w1 hi (by omega), cond_true, st_cell (set_get hb) hi (by omega), set_set, hz, e1, e2]
      simp only [cond_false]
      by_cases h : i / n = i % n
      · have hb1 : (((i / n : Nat) : Int) == ((i % n : Nat) : Int)) = true := by simp [h]
        rw [hb1, cond_true, st_cell (set_get hb) hi (by simp; omega), set_set, if_pos h]
        simp
      · have hb1 : (((i / n : Nat) : Int) == ((i % n : Nat) : Int)) = false := bf (by omega)
        rw [hb1, cond_false, if_neg h]) (List.replicate (n * n) (.sl ⟨0, 0, 0, 0, true⟩)) (by simp)
  rw [set_same hb] at this
  have this : R (.loop F.igateMatrix 0) [isc (n : Int), ssc z, ssc o, ssc ⟨b, 0, n * n, n * n, true⟩, isc ((n * n : Nat) : Int), isc 0] H = _ := this
  rw [this, R_eq, e_igateMatrix_0, lt_self]
  rfl
theorem mk_slices {H : AH} {n : Nat} (hn : n ≤ 1024) : mkB H 1 24 [.sl ⟨0, 0, 0, 0, true⟩] (n : Int) (n : Int) = some (⟨H.length, 0, n, n, true⟩, H ++ [⟨List.replicate n (.sl ⟨0, 0, 0, 0, true⟩), .rw, 1⟩]) := by
  unfold mkB
  have : (n : Int) * 24 ≤ most := by unfold most; omega
  rw [if_pos ⟨by omega, by omega, by omega, by omega, this⟩]
  simp [List.flatten_replicate_singleton]

def phaseN (k : Int) : Option Nat := if k = 2 ∨ k = 9 then some 4 else if k = 3 then some 2 else if k = 4 then some 1 else if k = 6 then some 6 else if k = 7 then some 7 else none
/-- impl.phaseOf -/
theorem c_iphaseOf (k : Int) (H : AH) : R (.fn F.iphaseOf) [isc k] H = some ⟨1, [isc (((phaseN k).getD 0 : Nat) : Int), bsc (phaseN k).isSome], H⟩ := by
  rw [R_eq, e_iphaseOf]
  unfold phaseN
  by_cases h2 : k = 2
  · subst h2; rfl
  by_cases h9 : k = 9
  · subst h9; rfl
  have h29 : ¬ (k = 2 ∨ k = 9) := by omega
  rw [if_neg h29, bf h2, bf h9]
  simp only [cond_false, Option.bind_some, Nat.beq, cond_true, nth_bool]
  by_cases h3 : k = 3
  · subst h3; rfl
  rw [if_neg h3, bf h3, cond_false]
  by_cases h4 : k = 4
  · subst h4; rfl
  rw [if_neg h4, bf h4, cond_false]
  by_cases h6 : k = 6
  · subst h6; rfl
  rw [if_neg h6, bf h6, cond_false]
  by_cases h7 : k = 7
  · subst h7; rfl
  rw [if_neg h7, bf h7, cond_false]
  rfl

/-- impl.gateMatrix -/
theorem c_igateMatrix {p k : Int} (hp : primeB p = true) (hp2 : p > 2) (hk : 1 ≤ k ∧ k ≤ 9) (H : AH) : ∃ s H', R (.fn F.igateMatrix) [isc p, isc k] H = some ⟨1, [ssc s], H'⟩ ∧ Le H H' ∧ I2 H' s (matG p k) := by
  have hpr : 1 ≤ p ∧ p ≤ 1000003 := by have := prime_two hp; omega
  obtain ⟨z1, z2, z3⟩ := zero_one hpr H
  have hh : 0 ≤ halfG p ∧ halfG p ≤ p := by unfold halfG; omega
  have w4 : IntKind.wrap .i64 (p - halfG p) = p - halfG p := by rw [wrap_id] <;> omega
  -- the part that all gates share, for a size
  have start : ∀ (n : Nat), (n = 2 ∨ n = 4) → (((cond (decide (k ≥ 8)) (some (⟨0, [.sc (.int .i64 4)], H⟩ : Out)) (some ⟨0, [.sc (.int .i64 2)], H⟩)) : Option Out)) = some ⟨0, [isc (n : Int)], H⟩ →
      R (.fn F.igateMatrix) [isc p, isc k] H =
        (R (.fn F.iphaseOf) [isc k] (H ++ [⟨ics zG, .rw, 1⟩, ⟨ics oG, .rw, 1⟩, ⟨idCells n (row4 H.length) (row4 (H.length + 1)), .rw, 1⟩])).bind fun r16 =>
     (lenP r16.vs 2).bind fun _ =>
     (nthP r16.vs 0).bind fun p17 =>
     p17.sc?.bind fun c18 =>
     (intAt .i64 [c18] 0).bind fun n19 =>
     (nthP r16.vs 1).bind fun p20 =>
     p20.sc?.bind fun c21 =>
     (boolAt [c21] 0).bind fun b22 =>
     cond b22
     ((R (.fn F.irootElem) [isc p, isc n19] r16.H).bind fun r23 =>
      (oneP r23.vs).bind fun p24 =>
      p24.sc?.bind fun c25 =>
      (slAt [c25] 0).bind fun s26 =>
      (ixA ⟨H.length + 2, 0, n * n, n * n, true⟩ ((n * n - 1 : Nat) : Int) 1).bind fun o27 =>
      (putR r23.H (H.length + 2) o27 [.sl s26]).bind fun H28 =>
      some ⟨1, [ssc ⟨H.length + 2, 0, n * n, n * n, true⟩], H28⟩)
     (cond (k == 1)
      ((newB r16.H 1 [.sl (row4 H.length), .sl (row4 (H.length + 1)), .sl (row4 (H.length + 1)), .sl (row4 H.length)]).bind fun h29 =>
       some ⟨1, [ssc ⟨h29.1, 0, 4, 4, true⟩], h29.2⟩)
      (cond (k == 5)
       ((R (.fn F.irawInverse) [isc p, isc 2] r16.H).bind fun r30 =>
        (oneP r30.vs).bind fun p31 =>
        p31.sc?.bind fun c32 =>
        (intAt .i64 [c32] 0).bind fun n33 =>
        (newB r30.H 1 [.int .i64 0, .int .i64 n33, .int .i64 0, .int .i64 (IntKind.wrap .i64 (p - n33))]).bind fun h34 =>
        (newB h34.2 1 [.int .i64 0, .int .i64 (IntKind.wrap .i64 (p - n33)), .int .i64 0, .int .i64 n33]).bind fun h35 =>
        (newB h35.2 1 [.sl ⟨h34.1, 0, 4, 4, true⟩, .sl ⟨h34.1, 0, 4, 4, true⟩, .sl ⟨h34.1, 0, 4, 4, true⟩, .sl ⟨h35.1, 0, 4, 4, true⟩]).bind fun h36 =>
        some ⟨1, [ssc ⟨h36.1, 0, 4, 4, true⟩], h36.2⟩)
       ((ixA ⟨H.length + 2, 0, n * n, n * n, true⟩ 10 1).bind fun o37 =>
        (putR r16.H (H.length + 2) o37 [.sl (row4 H.length)]).bind fun H38 =>
        (ixA ⟨H.length + 2, 0, n * n, n * n, true⟩ 11 1).bind fun o39 =>
        (putR H38 (H.length + 2) o39 [.sl (row4 (H.length + 1))]).bind fun H40 =>
        (ixA ⟨H.length + 2, 0, n * n, n * n, true⟩ 14 1).bind fun o41 =>
        (putR H40 (H.length + 2) o41 [.sl (row4 (H.length + 1))]).bind fun H42 =>
        (ixA ⟨H.length + 2, 0, n * n, n * n, true⟩ 15 1).bind fun o43 =>
        (putR H42 (H.length + 2) o43 [.sl (row4 H.length)]).bind fun H44 =>
        some ⟨1, [ssc ⟨H.length + 2, 0, n * n, n * n, true⟩], H44⟩))) := fun n hn hst => by
    have hnn : n * n ≤ 16 ∧ 1 ≤ n ∧ n ≤ 4 ∧ 1 ≤ n * n := by rcases hn with rfl | rfl <;> omega
    have hw : IntKind.wrap .i64 ((n : Int) * n) = ((n * n : Nat) : Int) := by rw [← Int.natCast_mul, wrap_id] <;> omega
    have hw2 : IntKind.wrap .i64 (((n * n : Nat) : Int) - 1) = ((n * n - 1 : Nat) : Int) := by rw [wrap_id] <;> omega
    have hb : (H ++ [⟨ics zG, .rw, 1⟩, ⟨ics oG, .rw, 1⟩, ⟨List.replicate (n * n) (.sl ⟨0, 0, 0, 0, true⟩), .rw, 1⟩] : AH)[H.length + 2]? = some ⟨List.replicate (n * n) (.sl ⟨0, 0, 0, 0, true⟩), .rw, 1⟩ := getx H _ 2
    have hloop := c_igateMatrix_0 (n := n) (z := row4 H.length) (o := row4 (H.length + 1)) hnn.2.1 hnn.2.2.1 hb
    have hset : (H ++ [⟨ics zG, .rw, 1⟩, ⟨ics oG, .rw, 1⟩, ⟨List.replicate (n * n) (.sl ⟨0, 0, 0, 0, true⟩), .rw, 1⟩] : AH).set (H.length + 2) ⟨idCells n (row4 H.length) (row4 (H.length + 1)), .rw, 1⟩ = H ++ [⟨ics zG, .rw, 1⟩, ⟨ics oG, .rw, 1⟩, ⟨idCells n (row4 H.length) (row4 (H.length + 1)), .rw, 1⟩] := by
      rw [List.set_append_right _ _ (by omega)]; simp
    rw [hset] at hloop
    rw [R_eq, e_igateMatrix, hst]
    simp only [Option.bind_some, Nat.beq, cond_true, nth_int]
    rw [mkAt_one]
    simp only [Option.bind_some]
    rw [z1]
    simp only [Option.bind_some, one_sl, z2, cond_true, z3, hw]
    rw [mk_slices (by omega)]
    simp only [Option.bind_some, hw2, List.append_assoc, List.cons_append, List.nil_append, List.length_append, List.length_cons, List.length_nil, Nat.zero_add]
    have hloop : R (.loop F.igateMatrix 0) [isc (n : Int), ssc (row4 H.length), ssc (row4 (H.length + 1)), ssc ⟨H.length + (0 + 1 + 1), 0, n * n, n * n, true⟩, isc ((n * n : Nat) : Int), isc 0] (H ++ [⟨ics zG, .rw, 1⟩, ⟨ics oG, .rw, 1⟩, ⟨List.replicate (n * n) (.sl ⟨0, 0, 0, 0, true⟩), .rw, 1⟩]) = _ := hloop
    simp only [Nat.zero_add] at hloop
    rw [hloop]
    rfl
  have zr : ∀ X : AH, IS (H ++ ⟨ics zG, .rw, 1⟩ :: ⟨ics oG, .rw, 1⟩ :: X) (row4 H.length) zG := fun X => rowx (X := ⟨ics zG, .rw, 1⟩ :: ⟨ics oG, .rw, 1⟩ :: X) (j := 0) rfl rfl
  have or : ∀ X : AH, IS (H ++ ⟨ics zG, .rw, 1⟩ :: ⟨ics oG, .rw, 1⟩ :: X) (row4 (H.length + 1)) oG := fun X => rowx (X := ⟨ics zG, .rw, 1⟩ :: ⟨ics oG, .rw, 1⟩ :: X) (j := 1) rfl rfl
  have kcases : k = 1 ∨ k = 2 ∨ k = 3 ∨ k = 4 ∨ k = 5 ∨ k = 6 ∨ k = 7 ∨ k = 8 ∨ k = 9 := by omega
  -- gates with a phase, two by two
  have phase2 : ∀ j : Nat, j < 8 → k < 8 → phaseN k = some j → matG p k = [oG, zG, zG, rootE p j] → ∃ s H', R (.fn F.igateMatrix) [isc p, isc k] H = some ⟨1, [ssc s], H'⟩ ∧ Le H H' ∧ I2 H' s (matG p k) := fun j hj hk8 hph hm => by
    rw [start 2 (.inl rfl) (by rw [decide_eq_false (show ¬ k ≥ 8 by omega)]; rfl), c_iphaseOf, hph]
    simp only [Option.bind_some, Option.getD_some, Option.isSome_some, t_i_b, cond_true]
    rw [c_irootElem hpr hj]
    simp only [Option.bind_some, one_sl]
    rw [st_cell (i := 2 * 2 - 1) (cs := idCells 2 (row4 H.length) (row4 (H.length + 1))) (by rw [List.append_assoc]; exact getx H _ 2) (by omega) (by simp [idCells])]
    refine ⟨_, _, rfl, ((Le.app _ _).trans (Le.app _ _)).set (by omega), ?_⟩
    rw [hm, List.append_assoc, List.set_append_right _ _ (by omega)]
    simp only [Nat.add_sub_cancel_left, List.cons_append, List.nil_append, List.set_cons_succ, List.set_cons_zero]
    refine i2_of (sls := [row4 (H.length + 1), row4 H.length, row4 H.length, row4 (H.length + 3)]) ((getx H _ 2).trans (by simp [idCells, List.range, List.range.loop])) rfl (by omega) (.cons (or _) (.cons (zr _) (.cons (zr _) (.cons (rowx (j := 3) (l := rootE p j) (by simp) (rootE_len _ _)) .nil))))
  rcases kcases with rfl | rfl | rfl | rfl | rfl | rfl | rfl | rfl | rfl
  · rw [start 2 (.inl rfl) rfl, c_iphaseOf]
    have : phaseN 1 = none := rfl
    rw [this]
    simp only [Option.bind_some, Option.getD_none, Option.isSome_none, t_i_b, cond_false, newB_one]
    refine ⟨_, _, rfl, (Le.app _ _).trans (Le.app _ _), ?_⟩
    rw [List.append_assoc]
    simp only [List.length_append, List.length_cons, List.length_nil]
    exact i2_of (sls := [row4 H.length, row4 (H.length + 1), row4 (H.length + 1), row4 H.length]) (getx H _ 3) rfl (by omega) (.cons (zr _) (.cons (or _) (.cons (or _) (.cons (zr _) .nil))))
  · exact phase2 4 (by omega) (by omega) rfl rfl
  · exact phase2 2 (by omega) (by omega) rfl rfl
  · exact phase2 1 (by omega) (by omega) rfl rfl
  · rw [start 2 (.inl rfl) rfl, c_iphaseOf]
    have : phaseN 5 = none := rfl
    rw [this]
    simp only [Option.bind_some, Option.getD_none, Option.isSome_none, t_i_b, cond_false]
    have e1 : ((5 : Int) == 1) = false := rfl
    have e2 : ((5 : Int) == 5) = true := rfl
    rw [e1, e2, cond_false, cond_true, c_irawInverse_two hp hp2]
    have hhalf : (p + 1) / 2 = halfG p := rfl
    simp only [Option.bind_some, one_int, hhalf, w4, newB_one]
    refine ⟨_, _, rfl, ((Le.app _ _).trans (Le.app _ _)).trans ((Le.app _ _).trans (Le.app _ _)), ?_⟩
    simp only [List.append_assoc, List.cons_append, List.nil_append, List.length_append, List.length_cons, List.length_nil]
    exact i2_of (sls := [row4 (H.length + 3), row4 (H.length + 3), row4 (H.length + 3), row4 (H.length + 4)]) (getx H _ 5) rfl (by omega) (.cons (rowx (j := 3) rfl rfl) (.cons (rowx (j := 3) rfl rfl) (.cons (rowx (j := 3) rfl rfl) (.cons (rowx (j := 4) rfl rfl) .nil))))
  · exact phase2 6 (by omega) (by omega) rfl rfl
  · exact phase2 7 (by omega) (by omega) rfl rfl
  · rw [start 4 (.inr rfl) rfl, c_iphaseOf]
    have : phaseN 8 = none := rfl
    rw [this]
    simp only [Option.bind_some, Option.getD_none, Option.isSome_none, t_i_b, cond_false]
    have e1 : ((8 : Int) == 1) = false := rfl
    have e2 : ((8 : Int) == 5) = false := rfl
    have hlen : (idCells 4 (row4 H.length) (row4 (H.length + 1))).length = 16 := by simp [idCells]
    rw [e1, e2, cond_false, cond_false]
    have s1 := fun (k : AH → Option Out) => st_cell (H := H ++ [⟨ics zG, .rw, 1⟩, ⟨ics oG, .rw, 1⟩, ⟨idCells 4 (row4 H.length) (row4 (H.length + 1)), .rw, 1⟩]) (b := H.length + 2) (n := 4 * 4) (c := 4 * 4) (x := true) (i := 10) (getx H _ 2) (by omega) (by omega) (Sc.sl (row4 H.length)) k
    have hb0 := getx H [⟨ics zG, .rw, 1⟩, ⟨ics oG, .rw, 1⟩, ⟨idCells 4 (row4 H.length) (row4 (H.length + 1)), .rw, 1⟩] 2
    rw [show ((10 : Int)) = ((10 : Nat) : Int) from rfl, show ((11 : Int)) = ((11 : Nat) : Int) from rfl, show ((14 : Int)) = ((14 : Nat) : Int) from rfl, show ((15 : Int)) = ((15 : Nat) : Int) from rfl]
    rw [st_cell hb0 (by omega) (by omega), st_cell (set_get hb0) (by omega) (by simp; omega), set_set, st_cell (set_get hb0) (by omega) (by simp; omega), set_set, st_cell (set_get hb0) (by omega) (by simp; omega), set_set]
    refine ⟨_, _, rfl, (Le.app _ _).set (by omega), ?_⟩
    rw [List.set_append_right _ _ (by omega)]
    simp only [Nat.add_sub_cancel_left, List.set_cons_succ, List.set_cons_zero]
    have o := or [⟨([row4 (H.length + 1), row4 H.length, row4 H.length, row4 H.length, row4 H.length, row4 (H.length + 1), row4 H.length, row4 H.length, row4 H.length, row4 H.length, row4 H.length, row4 (H.length + 1), row4 H.length, row4 H.length, row4 (H.length + 1), row4 H.length]).map Sc.sl, .rw, 1⟩]
    have z := zr [⟨([row4 (H.length + 1), row4 H.length, row4 H.length, row4 H.length, row4 H.length, row4 (H.length + 1), row4 H.length, row4 H.length, row4 H.length, row4 H.length, row4 H.length, row4 (H.length + 1), row4 H.length, row4 H.length, row4 (H.length + 1), row4 H.length]).map Sc.sl, .rw, 1⟩]
    refine i2_of (sls := [row4 (H.length + 1), row4 H.length, row4 H.length, row4 H.length, row4 H.length, row4 (H.length + 1), row4 H.length, row4 H.length, row4 H.length, row4 H.length, row4 H.length, row4 (H.length + 1), row4 H.length, row4 H.length, row4 (H.length + 1), row4 H.length]) ((getx H _ 2).trans (by simp [idCells, List.range, List.range.loop])) rfl (by omega) ?_
    exact (.cons o (.cons z (.cons z (.cons z (.cons z (.cons o (.cons z (.cons z (.cons z (.cons z (.cons z (.cons o (.cons z (.cons z (.cons o (.cons z .nil))))))))))))))))
  · rw [start 4 (.inr rfl) rfl, c_iphaseOf]
    have : phaseN 9 = some 4 := rfl
    rw [this]
    simp only [Option.bind_some, Option.getD_some, Option.isSome_some, t_i_b, cond_true]
    rw [c_irootElem hpr (n := 4) (by omega)]
    simp only [Option.bind_some, one_sl]
    rw [st_cell (i := 4 * 4 - 1) (cs := idCells 4 (row4 H.length) (row4 (H.length + 1))) (by rw [List.append_assoc]; exact getx H _ 2) (by omega) (by simp [idCells])]
    refine ⟨_, _, rfl, ((Le.app _ _).trans (Le.app _ _)).set (by omega), ?_⟩
    rw [List.append_assoc, List.set_append_right _ _ (by omega)]
    simp only [Nat.add_sub_cancel_left, List.cons_append, List.nil_append, List.set_cons_succ, List.set_cons_zero, List.length_append, List.length_cons, List.length_nil, Nat.zero_add]
    have hr : rootE p 4 = lastG p 9 := rfl
    rw [hr]
    have o := or [⟨([row4 (H.length + 1), row4 H.length, row4 H.length, row4 H.length, row4 H.length, row4 (H.length + 1), row4 H.length, row4 H.length, row4 H.length, row4 H.length, row4 (H.length + 1), row4 H.length, row4 H.length, row4 H.length, row4 H.length, row4 (H.length + 3)]).map Sc.sl, .rw, 1⟩, ⟨ics (lastG p 9), .rw, 1⟩]
    have z := zr [⟨([row4 (H.length + 1), row4 H.length, row4 H.length, row4 H.length, row4 H.length, row4 (H.length + 1), row4 H.length, row4 H.length, row4 H.length, row4 H.length, row4 (H.length + 1), row4 H.length, row4 H.length, row4 H.length, row4 H.length, row4 (H.length + 3)]).map Sc.sl, .rw, 1⟩, ⟨ics (lastG p 9), .rw, 1⟩]
    refine i2_of (sls := [row4 (H.length + 1), row4 H.length, row4 H.length, row4 H.length, row4 H.length, row4 (H.length + 1), row4 H.length, row4 H.length, row4 H.length, row4 H.length, row4 (H.length + 1), row4 H.length, row4 H.length, row4 H.length, row4 H.length, row4 (H.length + 3)]) ((getx H _ 2).trans (by simp [idCells, List.range, List.range.loop])) rfl (by omega) ?_
    exact (.cons o (.cons z (.cons z (.cons z (.cons z (.cons o (.cons z (.cons z (.cons z (.cons z (.cons o (.cons z (.cons z (.cons z (.cons z (.cons (rowx (X := [⟨ics zG, .rw, 1⟩, ⟨ics oG, .rw, 1⟩, ⟨_, .rw, 1⟩, ⟨ics (lastG p 9), .rw, 1⟩]) (j := 3) rfl rfl) .nil))))))))))))))))
end Go.Abs
/- Contracts: small parts of circuits' networks. -/
namespace Go.Abs
set_option linter.all false
set_option maxRecDepth 10000

structure NetR (H0 H : AH) (s : Sl) (xs : List Tri) (ts : List Tn) (rs : List Row) : Prop where
  fr : Fr H0 H (rowsT xs ts ++ rs)
  len : xs.length = ts.length
  out : OOut H0.length H s xs
theorem NetS.r {H0 H : AH} {s : Sl} {xs : List Tri} {ts : List Tn} (h : NetS H0 H s xs ts) : NetR H0 H s xs ts [] := ⟨by simpa using h.fr, h.len, h.out⟩
theorem NetR.ext {H0 H H' : AH} {s : Sl} {xs : List Tri} {ts : List Tn} {rs : List Row} (h : NetR H0 H s xs ts rs) (hl : Le H H') : NetR H0 H' s xs ts rs := ⟨h.fr.ext hl, h.len, h.out.le hl⟩
theorem NetR.addrow {H0 H H' : AH} {s u : Sl} {xs : List Tri} {ts : List Tn} {rs : List Row} {l : List Int} (h : NetR H0 H s xs ts rs) (hl : Le H H') (ho : Own H.length H' u l) : NetR H0 H' s xs ts ((u, l) :: rs) :=
  ⟨(h.fr.new hl ho).perm List.perm_middle, h.len, h.out.le hl⟩
/-- What other rows may be while the tensors stay. -/
theorem NetR.rest {H0 H H' : AH} {s : Sl} {xs : List Tri} {ts : List Tn} {rs qs : List Row} (h : NetR H0 H s xs ts rs) (hF : Fr H0 H' (rowsT xs ts ++ qs)) (hf : ∀ d, d < H.length → (∀ p ∈ rs, p.2 = [] ∨ d ≠ p.1.b) → H'[d]? = H[d]?) : NetR H0 H' s xs ts qs :=
  ⟨hF, h.len, h.out.keep fun hx => hf _ (h.out.lt hx) fun p hp => by
    by_cases e : p.2 = []
    · exact .inl e
    · exact .inr (Ne.symm (h.out.ne hx (h.fr.rows.own p (by simp [hp])) e))⟩
theorem NetR.push {H0 H H1 : AH} {s a b c : Sl} {xs : List Tri} {ts : List Tn} {rs : List Row} {t : Tn} (h : NetR H0 H s xs ts rs) (hl : ts.length ≤ 1048576) (ht : NewT (H ++ [resB]) H1 a b c t) :
    ∃ s' xs' H', (∀ {α : Type} (k : Sl × AH → Option α), ((newAt H1 (H.length + 0) 3 [.sl a, .sl b, .sl c]).bind fun h => (rng h.2 h.1 0 (1 * 3)).bind fun l => (appB h.2 3 72 s l 1).bind k) = k (s', H')) ∧
      NetR H0 H' s' xs' (ts ++ [t]) rs := by
  obtain ⟨s', H', e, F, O, l, f⟩ := push_tensor h.fr h.out (by rw [h.len]; exact hl) ht
  exact ⟨s', xs ++ [(a, b, c)], H', e, F.snocT h.len, by simp [h.len], O⟩
theorem NetR.push' {H0 H : AH} {s a b c : Sl} {xs : List Tri} {ts : List Tn} {rs : List Row} {t : Tn} (hF : Fr H0 H (rows3 a b c t ++ (rowsT xs ts ++ rs))) (hlen : xs.length = ts.length) (hO : OOut H0.length H s xs) (hl : ts.length ≤ 1048576) :
    ∃ s' xs' H', (∀ {α : Type} (k : Sl × AH → Option α), ((newB H 3 [.sl a, .sl b, .sl c]).bind fun h => (rng h.2 h.1 0 (1 * 3)).bind fun l => (appB h.2 3 72 s l 1).bind k) = k (s', H')) ∧
      NetR H0 H' s' xs' (ts ++ [t]) rs := by
  obtain ⟨s', H', e, F, O, l, f⟩ := push_tensor' (a := a) (b := b) (c := c) hF hO (by rw [hlen]; exact hl)
  exact ⟨s', xs ++ [(a, b, c)], H', e, F.snocT hlen, by simp [hlen], O⟩
theorem Fr.low {H H0 H' : AH} {rs : List Row} (h : Fr H0 H' rs) (hl : Le H H0) : Fr H H' rs := ⟨hl.trans h.le, h.rows.low hl.len⟩
theorem OOut.low {n0 n1 : Nat} {H : AH} {s : Sl} {xs : List Tri} (h : OOut n0 H s xs) (hn : n1 ≤ n0) : OOut n1 H s xs := ⟨h.o, h.n, h.c, h.blk.imp id fun ⟨a, b, c⟩ => ⟨a, Nat.le_trans hn b, c⟩⟩
theorem NetR.low {H H0 H' : AH} {s : Sl} {xs : List Tri} {ts : List Tn} {rs : List Row} (h : NetR H0 H' s xs ts rs) (hl : Le H H0) : NetR H H' s xs ts rs := ⟨h.fr.low hl, h.len, h.out.low hl.len⟩
theorem NetR.neto {H0 H : AH} {s u : Sl} {xs : List Tri} {r : Rg} {ts : List Tn} {op : List Int} (h : NetR H0 H s xs ts [(u, op)]) : NetO H0.length H s u xs ⟨r, ts, op⟩ := ⟨h.len, h.out, h.fr.rows⟩

/-- A frame beside a row of tensors of its own. -/
structure FrN (H0 H : AH) (rs : List Row) (o : Sl) (xo : List Tri) : Prop where
  fr : Fr H0 H rs
  out : OOut H0.length H o xo
theorem Fr.n {H0 H : AH} {rs : List Row} (h : Fr H0 H rs) (b : Nat) : FrN H0 H rs ⟨b, 0, 0, 0, true⟩ [] := ⟨h, OOut.nil _ _ _⟩
section
variable {H0 H H' : AH} {rs : List Row} {o : Sl} {xo : List Tri}
theorem FrN.own (h : FrN H0 H rs o xo) {s : Sl} {l : List Int} (hp : (s, l) ∈ rs) : Own H0.length H s l := h.fr.own hp
theorem FrN.is (h : FrN H0 H rs o xo) {s : Sl} {l : List Int} (hp : (s, l) ∈ rs) : IS H s l := h.fr.is hp
theorem FrN.ext (h : FrN H0 H rs o xo) (k : Le H H') : FrN H0 H' rs o xo := ⟨h.fr.ext k, h.out.le k⟩
theorem FrN.perm (h : FrN H0 H rs o xo) {qs : List Row} (hp : qs.Perm rs) : FrN H0 H qs o xo := ⟨h.fr.perm hp, h.out⟩
theorem FrN.sub (h : FrN H0 H rs o xo) {qs : List Row} (hp : qs.Sublist rs) : FrN H0 H qs o xo := ⟨h.fr.sub hp, h.out⟩
theorem FrN.new (h : FrN H0 H rs o xo) {s : Sl} {l : List Int} (hle : Le H H') (ho : Own H.length H' s l) : FrN H0 H' ((s, l) :: rs) o xo := ⟨h.fr.new hle ho, h.out.le hle⟩
theorem FrN.newN (h : FrN H0 H rs o xo) {s : Sl} {l : List Int} (k : New H H' s l) : FrN H0 H' ((s, l) :: rs) o xo := h.new k.le k.own
theorem FrN.newT (h : FrN H0 H rs o xo) {a b c : Sl} {t : Tn} (k : NewT H H' a b c t) : FrN H0 H' ((a, t.L) :: (b, t.D) :: (c, t.X) :: rs) o xo := ⟨h.fr.newT k, h.out.le k.le⟩
theorem FrN.empty (h : FrN H0 H rs o xo) (b : Nat) : FrN H0 H ((⟨b, 0, 0, 0, true⟩, []) :: rs) o xo := ⟨h.fr.empty b, h.out⟩
theorem FrN.mk0 (h : FrN H0 H rs o xo) (n : Nat) : FrN H0 (H ++ [⟨ics (List.replicate n 0), .rw, 1⟩]) ((⟨H.length, 0, n, n, true⟩, List.replicate n 0) :: rs) o xo := ⟨h.fr.mk0 n, h.out.le (Le.app _ _)⟩
theorem FrN.mut (xs : List Row) {ys : List Row} {s : Sl} {l l' : List Int} (h : FrN H0 H (xs ++ (s, l) :: ys) o xo) (m : Mut H0.length H H' s l l') (he : l = [] → l' = []) : FrN H0 H' (xs ++ (s, l') :: ys) o xo :=
  ⟨h.fr.mut xs m he, h.out.keep fun hx => m.fr _ (by
    by_cases e : l = []
    · exact .inr e
    · exact .inl (Ne.symm (h.out.ne hx (h.fr.own (s := s) (l := l) (by simp)) e)))⟩
theorem FrN.app (xs : List Row) {ys : List Row} {s : Sl} {l m : List Int} (h : FrN H0 H (xs ++ (s, l) :: ys) o xo) (hl : l.length + m.length ≤ 134217728) :
    ∃ s' H', appB H 1 8 s (ics m) m.length = some (s', H') ∧ FrN H0 H' (xs ++ (s', l ++ m) :: ys) o xo ∧ H.length ≤ H'.length := by
  obtain ⟨s', H', e, F, l1⟩ := h.fr.app xs hl
  obtain ⟨s2, H2, e', o2, l2, f2, g2, g3⟩ := app_own h.fr.le.len (h.fr.own (s := s) (l := l) (by simp)) hl
  rw [e] at e'; cases e'
  exact ⟨s', H', e, ⟨F, h.out.keep fun hx => f2 _ (h.out.lt hx) (by
    by_cases e : l = []
    · exact .inr e
    · exact .inl (Ne.symm (h.out.ne hx (h.fr.own (s := s) (l := l) (by simp)) e)))⟩, l1⟩
theorem FrN.push (xs : List Row) {ys : List Row} {s : Sl} {l : List Int} (h : FrN H0 H (xs ++ (s, l) :: ys) o xo) (hl : l.length < 134217728) (v : Int) :
    ∃ s' H', (∀ {α : Type} (k : Sl × AH → Option α), ((newB H 1 [.int .i64 v]).bind fun h => (rng h.2 h.1 0 (1 * 1)).bind fun q => (appB h.2 1 8 s q 1).bind k) = k (s', H')) ∧ FrN H0 H' (xs ++ (s', l ++ [v]) :: ys) o xo := by
  obtain ⟨s', H', e, o1, l1, f, f3⟩ := push_own h.fr.le.len (h.fr.own (s := s) (l := l) (by simp)) hl v
  obtain ⟨s2, H2, e2, F2⟩ := h.fr.push xs hl v
  have hs : (s', H') = (s2, H2) := Option.some.inj ((e some).symm.trans (e2 some))
  cases hs
  exact ⟨s', H', e, ⟨F2, h.out.keep fun hx => f _ (h.out.lt hx) (by
    by_cases e : l = []
    · exact .inr e
    · exact .inl (Ne.symm (h.out.ne hx (h.fr.own (s := s) (l := l) (by simp)) e)))⟩⟩
end
theorem NetR.frn {H0 H : AH} {s : Sl} {xs : List Tri} {ts : List Tn} {rs : List Row} (h : NetR H0 H s xs ts rs) : FrN H0 H (rowsT xs ts ++ rs) s xs := ⟨h.fr, h.out⟩

/-- impl.firstLabels -/
theorem c_ifirstLabels (n : Nat) (hn : n ≤ 1048576) (H : AH) : R (.fn F.ifirstLabels) [isc (n : Int)] H = some ⟨1, [ssc (rowAt H.length ((List.range n).map fun i : Nat => (i : Int)))], H ++ [⟨ics ((List.range n).map fun i : Nat => (i : Int)), .rw, 1⟩]⟩ := by
  rw [R_eq, e_ifirstLabels, mk_ints (by omega)]
  simp only [Option.bind_some]
  have := fill_up (β := Option Out) (F := fun i Hc => R (.loop F.ifirstLabels 0) [ssc ⟨H.length, 0, n, n, true⟩, isc (n : Int), isc (i : Int)] Hc) (H := H ++ [⟨ics (List.replicate n 0), .rw, 1⟩]) (b := H.length) (n := n) (fun i => (i : Int))
    (fun i cs hi hl => by
      rw [R_eq, e_ifirstLabels_0, lt_true hi, w1 hi (by omega), cond_true, st_own0 (set_get app_get) hi (by omega), set_set]) (List.replicate n 0) (by simp)
  rw [app_set] at this
  have this : R (.loop F.ifirstLabels 0) [ssc ⟨H.length, 0, n, n, true⟩, isc (n : Int), isc 0] (H ++ [⟨ics (List.replicate n 0), .rw, 1⟩]) = _ := this
  rw [this, R_eq, e_ifirstLabels_0, lt_self, app_set]
  simp

def gQ (g : Gt) : List Int := if g.k ≥ 8 then [g.a, g.b] else [g.a]
theorem c_igateQubits (g : Gt) (H : AH) : ∃ s H', R (.fn F.igateQubits) [gpv g] H = some ⟨1, [ssc s], H'⟩ ∧ New H H' s (gQ g) := by
  rw [R_eq, e_igateQubits]
  unfold gQ
  by_cases h : g.k ≥ 8
  · rw [if_pos h, decide_eq_true h, cond_true, newB_one]
    exact ⟨_, _, rfl, new_app H [g.a, g.b]⟩
  · rw [if_neg h, decide_eq_false h, cond_false, newB_one]
    exact ⟨_, _, rfl, new_app H [g.a]⟩
theorem c_sl40Lines (g : Gt) (H : AH) : ∃ s H', R (.fn F.sl40Lines) [gpv g] H = some ⟨1, [ssc s], H'⟩ ∧ New H H' s (gQ g) := by
  rw [R_eq, e_sl40Lines]
  unfold gQ
  by_cases h : g.k ≥ 8
  · rw [if_pos h, decide_eq_true h, cond_true, newB_one]
    exact ⟨_, _, rfl, new_app H [g.a, g.b]⟩
  · rw [if_neg h, decide_eq_false h, cond_false, newB_one]
    exact ⟨_, _, rfl, new_app H [g.a]⟩

/-- Rows are appended to a row of numbers. -/
theorem append_rows {F : Nat → Sl → AH → Option Out} {fin : Sl → AH → Option Out} {H0 Hm : AH} {sm : Sl} {ll : List (List Int)} (hm : I2 Hm sm ll) {xs ys : List Row} {o : Sl} {xo : List Tri} (hlen : ∀ l ∈ ll, l.length ≤ 1024) (hll : ll.length ≤ 1024)
    (hend : ∀ c H, F ll.length c H = fin c H)
    (hstep : ∀ i (h : i < ll.length) c H, F i c H = ((ixA sm (i : Int) 1).bind fun o => (rdB H sm.b).bind fun q => (slAt q o).bind fun s => (rng H s.b s.o (s.n * 1)).bind fun l => (appB H 1 8 c l s.n).bind fun m => F (i + 1) m.1 m.2)) :
    ∀ (k i : Nat), i + k = ll.length → ∀ (X : List Int) (c : Sl) (H : AH), Le Hm H → FrN H0 H (xs ++ (c, X) :: ys) o xo → (c.b < Hm.length → X = []) → X.length ≤ i * 1024 →
      ∃ c' H', F i c H = fin c' H' ∧ FrN H0 H' (xs ++ (c', X ++ (ll.drop i).flatten) :: ys) o xo ∧ Le Hm H'
  | 0, i, hi, X, c, H, hle, hF, hc, hX => by
    obtain rfl : i = ll.length := by omega
    exact ⟨c, H, hend c H, by simpa using hF, hle⟩
  | k + 1, i, hi, X, c, H, hle, hF, hc, hX => by
    have hlt : i < ll.length := by omega
    obtain ⟨a, ha, hk⟩ := (hm.le hle).ld hlt
    have hl := hlen ll[i] (List.getElem_mem hlt)
    have him : i * 1024 ≤ 1024 * 1024 := Nat.mul_le_mul_right _ (by omega)
    obtain ⟨c2, H2, e2, F2, l2⟩ := hF.app xs (m := ll[i]) (by omega)
    have hcO := hF.own (s := c) (l := X) (by simp)
    have hle2 : Le Hm H2 := by
      obtain ⟨s', H', e', o', l', f', f2, f3⟩ := app_own (m := ll[i]) hF.fr.le.len hcO (by omega)
      rw [e2] at e'
      cases e'
      refine hle.lo_trans (Lo.mk l' fun d hd => f' d (by have := hle.len; omega) ?_)
      by_cases hx : X = []
      · exact .inr hx
      · refine .inl fun e => hx (hc (by rw [← e]; exact hd))
    have hc2 : c2.b < Hm.length → X ++ ll[i] = [] := fun h => by
      obtain ⟨s', H', e', o', l', f', f2, f3⟩ := app_own (m := ll[i]) hF.fr.le.len hcO (by omega)
      rw [e2] at e'
      cases e'
      by_cases hx : ll[i] = []
      · have := (f2 hx).1
        rw [this] at h
        rw [hc h, hx]; rfl
      · have := f3 hx
        have := hle.len
        omega
    obtain ⟨c', H', e3, F3, l3⟩ := append_rows hm hlen hll hend hstep k (i + 1) (by omega) (X ++ ll[i]) c2 H2 hle2 F2 hc2 (by simp; omega)
    refine ⟨c', H', ?_, ?_, l3⟩
    · rw [hstep i hlt c H, hk, ha.rng]
      simp only [Option.bind_some]
      rw [ha.n, e2]
      exact e3
    · rw [List.drop_eq_getElem_cons hlt, List.flatten_cons, ← List.append_assoc]
      exact F3

theorem matG_len {p k : Int} (hk : 1 ≤ k ∧ k ≤ 9) : (matG p k).length = if k ≥ 8 then 16 else 4 := by
  have kcases : k = 1 ∨ k = 2 ∨ k = 3 ∨ k = 4 ∨ k = 5 ∨ k = 6 ∨ k = 7 ∨ k = 8 ∨ k = 9 := by omega
  rcases kcases with rfl | rfl | rfl | rfl | rfl | rfl | rfl | rfl | rfl <;> rfl
theorem matG_uni {p k : Int} (hk : 1 ≤ k ∧ k ≤ 9) : Uni 4 (matG p k) := by
  have kcases : k = 1 ∨ k = 2 ∨ k = 3 ∨ k = 4 ∨ k = 5 ∨ k = 6 ∨ k = 7 ∨ k = 8 ∨ k = 9 := by omega
  have un : Uni 4 [] := fun _ h => by simp at h
  have uc : ∀ {e : List Int} {els : List (List Int)}, e.length = 4 → Uni 4 els → Uni 4 (e :: els) := fun h hu x hx => by
    rcases List.mem_cons.1 hx with rfl | hx
    · exact h
    · exact hu x hx
  rcases kcases with rfl | rfl | rfl | rfl | rfl | rfl | rfl | rfl | rfl
  · exact (uc rfl (uc rfl (uc rfl (uc rfl un))))
  · exact (uc rfl (uc rfl (uc rfl (uc rfl un))))
  · exact (uc rfl (uc rfl (uc rfl (uc rfl un))))
  · exact (uc rfl (uc rfl (uc rfl (uc rfl un))))
  · exact (uc rfl (uc rfl (uc rfl (uc rfl un))))
  · exact (uc rfl (uc rfl (uc rfl (uc rfl un))))
  · exact (uc rfl (uc rfl (uc rfl (uc rfl un))))
  · exact (uc rfl (uc rfl (uc rfl (uc rfl (uc rfl (uc rfl (uc rfl (uc rfl (uc rfl (uc rfl (uc rfl (uc rfl (uc rfl (uc rfl (uc rfl (uc rfl un))))))))))))))))
  · exact (uc rfl (uc rfl (uc rfl (uc rfl (uc rfl (uc rfl (uc rfl (uc rfl (uc rfl (uc rfl (uc rfl (uc rfl (uc rfl (uc rfl (uc rfl (uc rfl un))))))))))))))))
/-- spec.l40Gate: twos -/
theorem c_sl40Gate_0 {H0 : AH} {s4 q : Sl} {n : Nat} (hn : n ≤ 1024) (xs ys : List Row) : ∀ (k i : Nat), i + k = n → ∀ (d : Sl) (H : AH), Fr H0 H (xs ++ (d, List.replicate i 2) :: ys) →
    ∃ d' H', R (.loop F.sl40Gate 0) [isc (n : Int), isc (i : Int), tpv s4 d q] H = some ⟨2, [tpv s4 d' q], H'⟩ ∧ Fr H0 H' (xs ++ (d', List.replicate n 2) :: ys)
  | 0, i, hi, d, H, hF => by
    obtain rfl : i = n := by omega
    exact ⟨d, H, by rw [R_eq, e_sl40Gate_0, lt_self]; rfl, hF⟩
  | k + 1, i, hi, d, H, hF => by
    have hlt : i < n := by omega
    obtain ⟨d2, H2, p2, F2⟩ := hF.push xs (by simp; omega) 2
    rw [← List.replicate_succ'] at F2
    obtain ⟨d', H', e3, F3⟩ := c_sl40Gate_0 hn xs ys k (i + 1) (by omega) d2 H2 F2
    refine ⟨d', H', ?_, F3⟩
    rw [R_eq, e_sl40Gate_0, lt_true hlt, w1 hlt (by omega), cond_true, p2]
    exact e3
/-- spec.l40Gate -/
theorem c_sl40Gate {p k : Int} (hp : 1 ≤ p ∧ p ≤ 1000003) (hk : 1 ≤ k ∧ k ≤ 9) {H : AH} {s : Sl} {l : List Int} (hs : IS H s l) (hl : l.length ≤ 1024) :
    ∃ a b c H', R (.fn F.sl40Gate) [isc p, isc k, ssc s] H = some ⟨1, [tpv a b c], H'⟩ ∧ NewT H H' a b c ⟨l, List.replicate l.length 2, (matG p k).flatten⟩ := by
  obtain ⟨a, H1, e1, l1, o1⟩ := c_sl05Ints hs (by omega)
  have F1 := ((Fr.start H).new l1 o1).empty 0
  obtain ⟨b, H2, e2, F2⟩ := c_sl40Gate_0 (H0 := H) (s4 := a) (q := ⟨0, 0, 0, 0, true⟩) (n := l.length) hl [] [(a, l)] l.length 0 (by omega) ⟨0, 0, 0, 0, true⟩ H1 F1
  rw [n0z] at e2
  obtain ⟨m, H3, e3, l3, i3⟩ := c_sl40Matrix hp hk H2
  have F3 := (F2.ext l3).empty 0
  have hml := matG_len (p := p) hk
  have hml16 : (matG p k).length ≤ 16 := by rw [hml]; split <;> omega
  obtain ⟨c, H4, e4, F4, l4⟩ := append_rows (o := ⟨0, 0, 0, 0, true⟩) (xo := []) (F := fun i c Hc => R (.loop F.sl40Gate 1) [ssc m, isc ((matG p k).length : Int), isc (i : Int), tpv a b c] Hc) (fin := fun c Hc => some ⟨4, [tpv a b c], Hc⟩) (H0 := H) i3 (xs := []) (ys := [(b, List.replicate l.length 2), (a, l)])
    (fun x hx => by rw [matG_uni hk x hx]; omega) (by omega) (fun c Hc => by rw [R_eq, e_sl40Gate_1, lt_self]; rfl)
    (fun i hi c Hc => by rw [R_eq, e_sl40Gate_1, lt_true hi, w1 hi (by omega), cond_true]) (matG p k).length 0 (by omega) [] ⟨0, 0, 0, 0, true⟩ H3 (Le.refl _) (F3.n 0) (fun _ => rfl) (by simp)
  refine ⟨a, b, c, H4, ?_, ⟨F4.fr.le, F4.fr.rows.perm ?_⟩⟩
  · rw [R_eq, e_sl40Gate, e1]
    simp only [Option.bind_some, one_sl]
    rw [hs.n, e2]
    simp only [Option.bind_some, Nat.beq, cond_true, nthP, List.getElem?_cons_zero, List.getElem?_cons_succ, PV.agg?, List.length_cons, List.length_nil, decide_true, slAt]
    rw [e3]
    simp only [Option.bind_some, oneP, PV.sc?, slAt, List.getElem?_cons_zero]
    have e4 : R (.loop F.sl40Gate 1) [ssc m, isc ((matG p k).length : Int), isc 0, tpv a b ⟨0, 0, 0, 0, true⟩] H3 = _ := e4
    rw [i3.1, e4]
    rfl
  · simp only [List.drop_zero, List.nil_append]
    exact (List.reverse_perm [(c, (matG p k).flatten), (b, List.replicate l.length 2), (a, l)])
end Go.Abs
/- Words: rows of cells of their own; the state of an order that is followed. -/
namespace Go.Abs
set_option linter.all false
set_option maxRecDepth 10000

/-- A row of cells of its own, elements of a size. -/
structure CO (z n0 : Nat) (H : AH) (s : Sl) (cells : List Sc) : Prop where
  o : s.o = 0
  n : s.n * z = cells.length
  c : s.c = s.n
  blk : (cells = [] ∧ s.x = true ∧ s.n = 0) ∨ (cells ≠ [] ∧ n0 ≤ s.b ∧ H[s.b]? = some ⟨cells, .rw, z⟩)
theorem CO.nil (z n0 : Nat) (H : AH) (b : Nat) : CO z n0 H ⟨b, 0, 0, 0, true⟩ [] := ⟨rfl, by simp, rfl, .inl ⟨rfl, rfl, rfl⟩⟩
theorem CO.keep {z n0 : Nat} {H H' : AH} {s : Sl} {cells : List Sc} (h : CO z n0 H s cells) (hb : cells ≠ [] → H'[s.b]? = H[s.b]?) : CO z n0 H' s cells :=
  ⟨h.o, h.n, h.c, h.blk.imp id fun ⟨h1, h2, h3⟩ => ⟨h1, h2, (hb h1).trans h3⟩⟩
theorem CO.lt {z n0 : Nat} {H : AH} {s : Sl} {cells : List Sc} (h : CO z n0 H s cells) (hc : cells ≠ []) : s.b < H.length := by
  rcases h.blk with ⟨e, _⟩ | ⟨_, _, e⟩
  · exact absurd e hc
  · exact (List.getElem?_eq_some_iff.1 e).1
theorem CO.le {z n0 : Nat} {H H' : AH} {s : Sl} {cells : List Sc} (h : CO z n0 H s cells) (hl : Le H H') : CO z n0 H' s cells := h.keep fun hc => hl.get _ (h.lt hc)
theorem CO.ne {z n0 n1 : Nat} {H : AH} {s u : Sl} {cells : List Sc} {l : List Int} (h : CO z n0 H s cells) (hc : cells ≠ []) (hz : z ≠ 1) (ho : Own n1 H u l) (hl : l ≠ []) : u.b ≠ s.b := fun e => by
  have h1 := ho.blk' hl
  rcases h.blk with ⟨e', _⟩ | ⟨_, _, h2⟩
  · exact absurd e' hc
  · rw [e, h2] at h1
    have := congrArg (fun o : Option Blk => o.map (·.z)) h1
    simp at this
    exact hz this
/-- An element is put at the end. -/
theorem CO.push {z by_ n0 : Nat} {H : AH} {s : Sl} {cells new : List Sc} (h : CO z n0 H s cells) (hn0 : n0 ≤ H.length) (hz : z ≠ 0) (hb : by_ ≠ 0) (hn : new.length = z) (hm : (s.n + 1) * by_ ≤ most) :
    ∃ s' H', appB H z by_ s new 1 = some (s', H') ∧ CO z n0 H' s' (cells ++ new) ∧ s'.n = s.n + 1 ∧ H.length ≤ H'.length ∧ (∀ d, d < H.length → (d ≠ s.b ∨ cells = []) → H'[d]? = H[d]?) := by
  have hrng : rng H s.b s.o (s.n * z) = some cells := by
    unfold rng
    rcases h.blk with ⟨e, _, e0⟩ | ⟨e, _, h2⟩
    · subst e; rw [if_pos (by rw [e0]; simp)]
    · have : cells.length ≠ 0 := fun h => e (List.length_eq_zero_iff.1 h)
      rw [if_neg (by rw [h.n]; exact this)]
      have hr : rdB H s.b = some cells := by unfold rdB; rw [h2]; rfl
      rw [hr]
      simp only [Option.bind_some]
      rw [if_pos (by rw [h.o, h.n]; omega), h.o]
      simp only [List.drop_zero]
      rw [List.take_of_length_le (by rw [h.n]; exact Nat.le_refl _)]
  have hne : cells ++ new ≠ [] := fun e => by
    have := (List.append_eq_nil_iff.1 e).2
    rw [this] at hn; simp at hn; omega
  unfold appB
  rw [if_neg (by rw [h.c]; omega), if_pos ⟨hz, hb, hm⟩, hrng]
  simp only [Option.bind_some]
  by_cases hx : s.x = true
  · simp only [hx]
    refine ⟨_, _, rfl, ⟨rfl, ?_, rfl, .inr ⟨hne, hn0, by simp⟩⟩, rfl, by simp, fun d hd _ => List.getElem?_append_left hd⟩
    rw [List.length_append, hn, Nat.add_mul, h.n]; omega
  · have hx' : s.x = false := by cases e : s.x <;> simp_all
    simp only [hx']
    have hb' : cells ≠ [] ∧ n0 ≤ s.b ∧ H[s.b]? = some ⟨cells, .rw, z⟩ := by
      rcases h.blk with ⟨_, e, _⟩ | h
      · exact absurd e hx
      · exact h
    have hrw : rwB H s.b z = some cells := by unfold rwB; rw [hb'.2.2]; simp
    simp only [hrw, Option.bind_some]
    have hk : (killB H s.b).length = H.length := by simp [killB]
    refine ⟨_, _, rfl, ⟨rfl, ?_, rfl, .inr ⟨hne, hn0, ?_⟩⟩, rfl, by simp [hk], fun d hd h => ?_⟩
    · rw [List.length_append, hn, Nat.add_mul, h.n]; omega
    · have : H.length = (killB H s.b).length := hk.symm
      show (killB H s.b ++ _)[H.length]? = _
      rw [this]; simp
    · rcases h with h | h
      · rw [List.getElem?_append_left (by omega)]
        unfold killB
        rw [List.getElem?_modify]
        have : ¬ s.b = d := fun e => h e.symm
        simp [this]
      · exact absurd h hb'.1

/-- A tensor that is there: its number, its labels. -/
structure LE where
  n : Int
  s : Sl
  l : List Int
def lcells (v : List LE) : List Sc := v.flatMap fun x => [.int .i64 x.n, .sl x.s]
def lrows (v : List LE) : List Row := v.map fun x => (x.s, x.l)
theorem lcells_app (a b : List LE) : lcells (a ++ b) = lcells a ++ lcells b := by simp [lcells]
theorem lcells_len : ∀ v : List LE, (lcells v).length = v.length * 2
  | [] => rfl
  | x :: v => by
    have := lcells_len v
    simp only [lcells, List.flatMap_cons, List.length_append, List.length_cons, List.length_nil] at this ⊢
    omega
theorem lcells_nil {v : List LE} : lcells v = [] ↔ v = [] := by
  constructor
  · intro h
    have := congrArg List.length h
    rw [lcells_len] at this
    exact List.length_eq_zero_iff.1 (by simp at this; omega)
  · intro h; subst h; rfl
theorem lcells_get : ∀ (v : List LE) (i : Nat) (x : LE), v[i]? = some x → (lcells v)[i * 2]? = some (.int .i64 x.n) ∧ (lcells v)[i * 2 + 1]? = some (.sl x.s)
  | [], i, x, h => by simp at h
  | y :: v, 0, x, h => by simp at h; subst h; simp [lcells]
  | y :: v, i + 1, x, h => by
    have := lcells_get v i x (by simpa using h)
    have e : (i + 1) * 2 = i * 2 + 2 := by omega
    have e2 : lcells (y :: v) = [Sc.int .i64 y.n, Sc.sl y.s] ++ lcells v := rfl
    have e3 : i * 2 + 2 + 1 = (i * 2 + 1) + 2 := by omega
    rw [e2, e, e3]
    refine ⟨?_, ?_⟩
    · rw [List.getElem?_append_right (by simp)]; simpa using this.1
    · rw [List.getElem?_append_right (by simp)]; simpa using this.2
/-- A row of such tensors reads so. -/
structure LR (H : AH) (s : Sl) (v : List LE) : Prop where
  n : s.n = v.length
  o : s.o = 0
  rd : v = [] ∨ rdB H s.b = some (lcells v)
theorem CO.lr {n0 : Nat} {H : AH} {s : Sl} {v : List LE} (h : CO 2 n0 H s (lcells v)) : LR H s v := by
  have hn := h.n
  rw [lcells_len] at hn
  refine ⟨by omega, h.o, ?_⟩
  rcases h.blk with ⟨e, _⟩ | ⟨_, _, e⟩
  · exact .inl (lcells_nil.1 e)
  · refine .inr ?_
    unfold rdB; rw [e]; rfl
theorem LR.ld {H : AH} {s : Sl} {v : List LE} (h : LR H s v) {i : Nat} (hi : i < v.length) {α : Type} (k : Int → Sl → Option α) :
    ((ixA s (i : Int) 2).bind fun o => (rdB H s.b).bind fun q => (intAt .i64 q o).bind fun x => (slAt q (o + 1)).bind fun y => k x y) = k v[i].n v[i].s := by
  obtain ⟨g1, g2⟩ := lcells_get v i _ (List.getElem?_eq_getElem hi)
  rcases h.rd with e | hc
  · rw [e] at hi; simp at hi
  · rw [ixA_nat (by rw [h.n]; exact hi), h.o, Nat.zero_add]
    simp only [Option.bind_some, hc, intAt_get g1, slAt_get g2]
theorem LR.ldn {H : AH} {s : Sl} {v : List LE} (h : LR H s v) {i : Nat} (hi : i < v.length) {α : Type} (k : Int → Option α) :
    ((ixA s (i : Int) 2).bind fun o => (rdB H s.b).bind fun q => (intAt .i64 q (o + 0)).bind k) = k v[i].n := by
  obtain ⟨g1, g2⟩ := lcells_get v i _ (List.getElem?_eq_getElem hi)
  rcases h.rd with e | hc
  · rw [e] at hi; simp at hi
  · rw [ixA_nat (by rw [h.n]; exact hi), h.o, Nat.zero_add]
    simp only [Option.bind_some, hc, Nat.add_zero, intAt_get g1]
theorem LR.lds {H : AH} {s : Sl} {v : List LE} (h : LR H s v) {i : Nat} (hi : i < v.length) {α : Type} (k : Sl → Option α) :
    ((ixA s (i : Int) 2).bind fun o => (rdB H s.b).bind fun q => (slAt q (o + 1)).bind k) = k v[i].s := by
  obtain ⟨g1, g2⟩ := lcells_get v i _ (List.getElem?_eq_getElem hi)
  rcases h.rd with e | hc
  · rw [e] at hi; simp at hi
  · rw [ixA_nat (by rw [h.n]; exact hi), h.o, Nat.zero_add]
    simp only [Option.bind_some, hc, slAt_get g2]

/-- impl.joinLabels -/
def joinL (a b : List Int) : List Int := a ++ colF (fun _ x => if (a.any fun y => x == y) then none else some x) b 0
theorem joinL_len (a b : List Int) : (joinL a b).length ≤ a.length + b.length := by
  unfold joinL
  have := colF_len (g := fun _ x => if (a.any fun y => x == y) then none else some x) (l := b) (i := 0)
  simp only [List.length_append]; omega
theorem c_ijoinLabels {H : AH} {s u : Sl} {a b : List Int} (ha : IS H s a) (hb : IS H u b) (hl : a.length + b.length ≤ 1048576) :
    ∃ s' H', R (.fn F.ijoinLabels) [ssc s, ssc u] H = some ⟨1, [ssc s'], H'⟩ ∧ Le H H' ∧ Own H.length H' s' (joinL a b) := by
  obtain ⟨s4, H1, e1, l1, o1⟩ := c_icopyInts ha (by omega)
  have key : ∀ k i, i + k = b.length → ∀ (acc : List Int) (c : Sl) (Hc : AH), Le H Hc → Own H.length Hc c acc → acc.length ≤ a.length + i →
      ∃ c' H', R (.loop F.ijoinLabels 0) [ssc s, ssc c, ssc u, isc (b.length : Int), isc (i : Int)] Hc = some ⟨2, [ssc c'], H'⟩ ∧ Le H H' ∧ Own H.length H' c' (acc ++ colF (fun _ x => if (a.any fun y => x == y) then none else some x) (b.drop i) i) := by
    intro k
    induction k with
    | zero =>
      intro i hi acc c Hc hle ho hacc
      obtain rfl : i = b.length := by omega
      exact ⟨c, Hc, by rw [R_eq, e_ijoinLabels_0, lt_self]; rfl, hle, by simpa [colF] using ho⟩
    | succ k ih =>
      intro i hi acc c Hc hle ho hacc
      have hlt : i < b.length := by omega
      rw [List.drop_eq_getElem_cons hlt]
      simp only [colF]
      by_cases hh : (a.any fun y => b[i] == y) = true
      · obtain ⟨c', H', e2, l2, o2⟩ := ih (i + 1) (by omega) acc c Hc hle ho (by omega)
        refine ⟨c', H', ?_, l2, by rw [if_pos hh]; simpa using o2⟩
        rw [R_eq, e_ijoinLabels_0, lt_true hlt, w1 hlt (by omega), cond_true, (hb.le hle).ldk hlt, c_ihasInt (ha.le hle) (by omega)]
        simp only [Option.bind_some, one_bool, hh, Bool.not_true, cond_false]
        exact e2
      · obtain ⟨c1, H2, p1, o1, l1⟩ := push_le hle ho (by omega) b[i]
        obtain ⟨c', H', e2, l2, o2⟩ := ih (i + 1) (by omega) (acc ++ [b[i]]) c1 H2 l1 o1 (by simp; omega)
        refine ⟨c', H', ?_, l2, by rw [if_neg hh]; simpa using o2⟩
        have hh' := Bool.eq_false_iff.2 hh
        rw [R_eq, e_ijoinLabels_0, lt_true hlt, w1 hlt (by omega), cond_true, (hb.le hle).ldk hlt, c_ihasInt (ha.le hle) (by omega)]
        simp only [Option.bind_some, one_bool, hh', Bool.not_false, cond_true]
        rw [p1]
        exact e2
  obtain ⟨c', H', e2, l2, o2⟩ := key b.length 0 (by omega) a s4 H1 l1 o1 (by omega)
  refine ⟨c', H', ?_, l2, by simpa [joinL] using o2⟩
  have e2 : R (.loop F.ijoinLabels 0) [ssc s, ssc s4, ssc u, isc (b.length : Int), isc 0] H1 = _ := e2
  rw [R_eq, e_ijoinLabels, e1]
  simp only [Option.bind_some, one_sl]
  rw [hb.n, e2]
  rfl

/-- Where a number stands. -/
def placeF : List LE → Int → Nat → Int
  | [], _, _ => -1
  | x :: v, n, i => if x.n == n then (i : Int) else placeF v n (i + 1)
structure OS (H0 H : AH) (bs : Nat) (D op : List Int) (so sl : Sl) (next : Nat) (v : List LE) : Prop where
  fr : Fr H0 H (lrows v)
  out : CO 2 H0.length H sl (lcells v)
  blk : H[bs]? = some ⟨ics D ++ [.sl so, .sl sl, .int .i64 (next : Int)], .rw, 103⟩
  lo : H0.length ≤ bs
  dl : D.length = 100
  op : IS H0 so op
theorem OS.rd {H0 H : AH} {bs : Nat} {D op : List Int} {so sl : Sl} {next : Nat} {v : List LE} (h : OS H0 H bs D op so sl next v) : rdB H bs = some (ics D ++ [.sl so, .sl sl, .int .i64 (next : Int)]) := by unfold rdB; rw [h.blk]; rfl
theorem OS.at0 {H0 H : AH} {bs : Nat} {D op : List Int} {so sl : Sl} {next : Nat} {v : List LE} (h : OS H0 H bs D op so sl next v) :
    slAt (ics D ++ [.sl so, .sl sl, .int .i64 (next : Int)]) (0 + 100) = some so ∧ slAt (ics D ++ [.sl so, .sl sl, .int .i64 (next : Int)]) (0 + 101) = some sl ∧ intAt .i64 (ics D ++ [.sl so, .sl sl, .int .i64 (next : Int)]) (0 + 102) = some (next : Int) := by
  have hl : (ics D).length = 100 := by simp [h.dl]
  refine ⟨slAt_get ?_, slAt_get ?_, intAt_get ?_⟩ <;> (rw [List.getElem?_append_right (by omega), hl]; rfl)

/-- impl.place -/
theorem c_place {H0 H : AH} {bs : Nat} {D op : List Int} {so sl : Sl} {next : Nat} {v : List LE} (h : OS H0 H bs D op so sl next v) (hv : v.length ≤ 1024) (n : Int) : R (.fn F.x__impl_orderState__place) [.sc (.hp bs 0), isc n] H = some ⟨1, [isc (placeF v n 0)], H⟩ := by
  obtain ⟨a1, a2, a3⟩ := h.at0
  have hL := h.out.lr
  have lp := loopG (F := fun i : Nat => R (.loop F.x__impl_orderState__place 0) [isc n, ssc sl, isc (v.length : Int), isc (i : Int)] H) (l := v) (fun q i => if placeF q n i = -1 then some ⟨2, [], H⟩ else some ⟨1, [isc (placeF q n i)], H⟩)
    (by rw [R_eq, e_x__impl_orderState__place_0, lt_self]; simp [placeF]) (fun i hi q hq => by
      rw [R_eq, e_x__impl_orderState__place_0, lt_true hi, w1 hi (by omega), cond_true, hL.ld hi]
      simp only [placeF]
      by_cases he : v[i].n = n
      · have : (v[i].n == n) = true := by simp [he]
        simp only [this, cond_true, if_true]
        rw [if_neg (by omega)]
      · simp only [bf he, cond_false, Bool.false_eq_true, if_false]
        exact hq)
  have lp : R (.loop F.x__impl_orderState__place 0) [isc n, ssc sl, isc (v.length : Int), isc 0] H = _ := lp
  rw [R_eq, e_x__impl_orderState__place, h.rd]
  simp only [Option.bind_some, a2]
  rw [hL.n, lp]
  by_cases hp : placeF v n 0 = -1
  · rw [if_pos hp, hp]; rfl
  · rw [if_neg hp]; rfl
theorem placeF_lo : ∀ (v : List LE) (n : Int) (i : Nat), placeF v n i = -1 ∨ ((i : Int) ≤ placeF v n i ∧ placeF v n i < i + v.length)
  | [], n, i => .inl rfl
  | x :: v, n, i => by
    unfold placeF
    split
    · right; simp; omega
    · rcases placeF_lo v n (i + 1) with h | h
      · exact .inl h
      · right; simp only [List.length_cons]; omega
end Go.Abs
/- Contracts: an order is followed: a step. -/
namespace Go.Abs
set_option linter.all false
set_option maxRecDepth 10000

/-- Has another tensor the label? -/
def keptF (x : Int) (i j : Nat) : List LE → Nat → Bool
  | [], _ => false
  | t :: v, k => (k != i && k != j && t.l.any fun y => x == y) || keptF x i j v (k + 1)
def resL (op : List Int) (v : List LE) (i j : Nat) : List Int :=
  colF (fun _ x => if (op.any fun y => x == y) || keptF x i j v 0 then some x else none) (joinL (v.getD i ⟨0, ⟨0, 0, 0, 0, true⟩, []⟩).l (v.getD j ⟨0, ⟨0, 0, 0, 0, true⟩, []⟩).l) 0
def dropF (i j : Nat) : List LE → Nat → List LE
  | [], _ => []
  | t :: v, k => if k != i && k != j then t :: dropF i j v (k + 1) else dropF i j v (k + 1)
theorem dropF_sub (i j : Nat) : ∀ (v : List LE) (k : Nat), (dropF i j v k).Sublist v
  | [], _ => .slnil
  | t :: v, k => by
    unfold dropF
    split
    · exact .cons₂ _ (dropF_sub i j v (k + 1))
    · exact .cons _ (dropF_sub i j v (k + 1))
theorem getD_le {v : List LE} {i : Nat} (h : i < v.length) (d : LE) : v.getD i d = v[i] := by simp [List.getD_eq_getElem?_getD, h]
theorem bne_nat (a b : Nat) : (((a : Int)) != (b : Int)) = (a != b) := by
  by_cases h : a = b
  · subst h; simp
  · have h1 : (((a : Int)) != (b : Int)) = true := bne_iff_ne.2 (by omega)
    have h2 : (a != b) = true := bne_iff_ne.2 h
    rw [h1, h2]

theorem c_resultLabels_1 {H : AH} {sl : Sl} {v : List LE} (hL : LR H sl v) (hr : ∀ t ∈ v, IS H t.s t.l ∧ t.l.length ≤ 1048576) (hv : v.length ≤ 1024) (i j : Nat) (x : Int) :
    ∀ (m k : Nat), k + m = v.length → ∀ b : Bool, R (.loop F.x__impl_orderState__resultLabels 1) [isc (i : Int), isc (j : Int), isc x, bsc b, ssc sl, isc (v.length : Int), isc (k : Int)] H = some ⟨4, [bsc (b || keptF x i j (v.drop k) k)], H⟩
  | 0, k, hk, b => by
    obtain rfl : k = v.length := by omega
    rw [R_eq, e_x__impl_orderState__resultLabels_1, lt_self]
    simp [keptF]
  | m + 1, k, hk, b => by
    have hlt : k < v.length := by omega
    obtain ⟨h1, h2⟩ := hr v[k] (List.getElem_mem hlt)
    rw [R_eq, e_x__impl_orderState__resultLabels_1, lt_true hlt, w1 hlt (by omega), cond_true, hL.ld hlt, List.drop_eq_getElem_cons hlt]
    simp only [keptF, bne_nat]
    have ih := fun b => c_resultLabels_1 hL hr hv i j x m (k + 1) (by omega) b
    cases hki : (k != i) with
    | false => simp only [cond_false, Bool.false_and, Bool.false_or]; exact ih b
    | true =>
      cases hkj : (k != j) with
      | false => simp only [cond_true, cond_false, Bool.true_and, Bool.false_and, Bool.false_or]; exact ih b
      | true =>
        simp only [cond_true, Bool.true_and]
        rw [c_ihasInt h1 h2]
        simp only [Option.bind_some, one_bool]
        cases (v[k].l.any fun y => x == y) with
        | true => simp only [cond_true, Bool.true_or, Bool.or_true]; rw [ih true]; simp
        | false => simp only [cond_false, Bool.false_or]; exact ih b

theorem OS.ext {H0 H H' : AH} {bs : Nat} {D op : List Int} {so sl : Sl} {next : Nat} {v : List LE} (h : OS H0 H bs D op so sl next v) (hl : Le H H') : OS H0 H' bs D op so sl next v :=
  ⟨h.fr.ext hl, h.out.le hl, by rw [hl.get _ (List.getElem?_eq_some_iff.1 h.blk).1]; exact h.blk, h.lo, h.dl, h.op⟩
def SmallV (v : List LE) : Prop := v.length ≤ 1024 ∧ ∀ t ∈ v, t.l.length ≤ 1000
theorem OS.lab {H0 H : AH} {bs : Nat} {D op : List Int} {so sl : Sl} {next : Nat} {v : List LE} (h : OS H0 H bs D op so sl next v) {t : LE} (ht : t ∈ v) : IS H t.s t.l := h.fr.is (s := t.s) (l := t.l) (List.mem_map.2 ⟨t, ht, rfl⟩)

/-- impl.resultLabels -/
theorem c_resultLabels {H0 H : AH} {bs : Nat} {D op : List Int} {so sl : Sl} {next : Nat} {v : List LE} (h : OS H0 H bs D op so sl next v) (hs : SmallV v) (ho : op.length ≤ 1024) {i j : Nat} (hi : i < v.length) (hj : j < v.length) :
    ∃ s' H', R (.fn F.x__impl_orderState__resultLabels) [.sc (.hp bs 0), isc (i : Int), isc (j : Int)] H = some ⟨1, [ssc s'], H'⟩ ∧ Le H H' ∧ Own H.length H' s' (resL op v i j) := by
  obtain ⟨a1, a2, a3⟩ := h.at0
  have hL := h.out.lr
  have hsi := hs.2 v[i] (List.getElem_mem hi)
  have hsj := hs.2 v[j] (List.getElem_mem hj)
  obtain ⟨s14, H1, e1, l1, o1⟩ := c_ijoinLabels (h.lab (List.getElem_mem hi)) (h.lab (List.getElem_mem hj)) (by omega)
  have hjl := joinL_len v[i].l v[j].l
  have cl := collect (l := joinL v[i].l v[j].l) (H0 := H1) (F := fun n u Hc => R (.loop F.x__impl_orderState__resultLabels 0) [.sc (.hp bs 0), isc (i : Int), isc (j : Int), ssc u, ssc s14, isc ((joinL v[i].l v[j].l).length : Int), isc (n : Int)] Hc) (fin := fun u Hc => some ⟨2, [ssc u], Hc⟩)
    (fun _ x => if (op.any fun y => x == y) || keptF x i j v 0 then some x else none)
    (fun u Hc => by rw [R_eq, e_x__impl_orderState__resultLabels_0, lt_self]; rfl)
    (fun n hn u Hc acc hle hoA ha => by
      have hc := h.ext (l1.trans hle)
      have hr := hc.out.lr
      have hrd : rdB Hc bs = some (ics D ++ [.sl so, .sl sl, .int .i64 (next : Int)]) := hc.rd
      have hl2 := c_resultLabels_1 hr (fun t ht => ⟨hc.lab ht, by have := hs.2 t ht; omega⟩) hs.1 i j (joinL v[i].l v[j].l)[n] v.length 0 (by omega) (op.any fun y => (joinL v[i].l v[j].l)[n] == y)
      have hop : IS Hc so op := hc.op.le hc.fr.le
      have hst : R (.loop F.x__impl_orderState__resultLabels 0) [.sc (.hp bs 0), isc (i : Int), isc (j : Int), ssc u, ssc s14, isc ((joinL v[i].l v[j].l).length : Int), isc (n : Int)] Hc =
          cond ((op.any fun y => (joinL v[i].l v[j].l)[n] == y) || keptF (joinL v[i].l v[j].l)[n] i j v 0)
            ((newB Hc 1 [.int .i64 (joinL v[i].l v[j].l)[n]]).bind fun h38 => (rng h38.2 h38.1 0 (1 * 1)).bind fun l39 => (appB h38.2 1 8 u l39 1).bind fun m40 =>
              R (.loop F.x__impl_orderState__resultLabels 0) [.sc (.hp bs 0), isc (i : Int), isc (j : Int), ssc m40.1, ssc s14, isc ((joinL v[i].l v[j].l).length : Int), isc ((n + 1 : Nat) : Int)] m40.2)
            (R (.loop F.x__impl_orderState__resultLabels 0) [.sc (.hp bs 0), isc (i : Int), isc (j : Int), ssc u, ssc s14, isc ((joinL v[i].l v[j].l).length : Int), isc ((n + 1 : Nat) : Int)] Hc) := by
        rw [R_eq, e_x__impl_orderState__resultLabels_0, lt_true hn, w1 hn (by omega), cond_true, (o1.is.le hle).ldk hn, hrd]
        simp only [Option.bind_some, a1]
        rw [c_ihasInt hop (by omega)]
        simp only [Option.bind_some, one_bool, hrd, a2]
        rw [List.drop_zero] at hl2
        rw [hr.n]
        have hl2 : R (.loop F.x__impl_orderState__resultLabels 1) [isc (i : Int), isc (j : Int), isc (joinL v[i].l v[j].l)[n], bsc (op.any fun y => (joinL v[i].l v[j].l)[n] == y), ssc sl, isc (v.length : Int), isc 0] Hc = _ := hl2
        rw [hl2]
        simp only [Option.bind_some, Nat.beq, cond_true, nth_bool]
      by_cases hk : ((op.any fun y => (joinL v[i].l v[j].l)[n] == y) || keptF (joinL v[i].l v[j].l)[n] i j v 0) = true
      · obtain ⟨s', H', p, o, l⟩ := push_le hle hoA (by omega) (joinL v[i].l v[j].l)[n]
        refine ⟨s', H', ?_, by rw [if_pos hk]; simpa using o, l⟩
        rw [hst, hk, cond_true, p]
      · refine ⟨u, Hc, ?_, by rw [if_neg hk]; simpa using hoA, hle⟩
        rw [hst, Bool.eq_false_iff.2 hk, cond_false])
    (s0 := ⟨0, 0, 0, 0, true⟩) (H := H1) (Le.refl _) (Own.nil _ _ _)
  obtain ⟨s', H', e2, o2, l2⟩ := cl
  refine ⟨s', H', ?_, l1.trans l2, ?_⟩
  · rw [R_eq, e_x__impl_orderState__resultLabels, h.rd]
    simp only [Option.bind_some, a2]
    rw [hL.lds hi, hL.lds hj, e1]
    simp only [Option.bind_some, one_sl]
    have e2 : R (.loop F.x__impl_orderState__resultLabels 0) [.sc (.hp bs 0), isc (i : Int), isc (j : Int), ssc ⟨0, 0, 0, 0, true⟩, ssc s14, isc ((joinL v[i].l v[j].l).length : Int), isc 0] H1 = _ := e2
    rw [o1.n, e2]
    rfl
  · unfold resL
    rw [getD_le hi, getD_le hj]
    exact o2.low l1.len

/-- impl.contract: what stays -/
theorem c_contract_0 {H0 : AH} {sl : Sl} {v : List LE} (hv : v.length ≤ 1024) (i j : Nat) : ∀ (m k : Nat), k + m = v.length → ∀ (acc : List LE) (c : Sl) (H : AH), Le H0 H → LR H0 sl v → CO 2 H0.length H c (lcells acc) → acc.length ≤ k →
    ∃ c' H', R (.loop F.x__impl_orderState__contract 0) [isc (i : Int), isc (j : Int), ssc c, ssc sl, isc (v.length : Int), isc (k : Int)] H = some ⟨2, [ssc c'], H'⟩ ∧ Le H0 H' ∧ CO 2 H0.length H' c' (lcells (acc ++ dropF i j (v.drop k) k))
  | 0, k, hk, acc, c, H, hle, hL, hO, ha => by
    obtain rfl : k = v.length := by omega
    exact ⟨c, H, by rw [R_eq, e_x__impl_orderState__contract_0, lt_self]; rfl, hle, by simpa [dropF] using hO⟩
  | m + 1, k, hk, acc, c, H, hle, hL, hO, ha => by
    have hlt : k < v.length := by omega
    have hLc : LR H sl v := ⟨hL.n, hL.o, hL.rd.imp id fun h => hle.rdB h⟩
    rw [List.drop_eq_getElem_cons hlt]
    simp only [dropF]
    have hst : R (.loop F.x__impl_orderState__contract 0) [isc (i : Int), isc (j : Int), ssc c, ssc sl, isc (v.length : Int), isc (k : Int)] H =
        cond (k != i && k != j) ((newB H 2 [.int .i64 v[k].n, .sl v[k].s]).bind fun h27 => (rng h27.2 h27.1 0 (1 * 2)).bind fun l28 => (appB h27.2 2 32 c l28 1).bind fun m29 =>
          R (.loop F.x__impl_orderState__contract 0) [isc (i : Int), isc (j : Int), ssc m29.1, ssc sl, isc (v.length : Int), isc ((k + 1 : Nat) : Int)] m29.2)
        (R (.loop F.x__impl_orderState__contract 0) [isc (i : Int), isc (j : Int), ssc c, ssc sl, isc (v.length : Int), isc ((k + 1 : Nat) : Int)] H) := by
      rw [R_eq, e_x__impl_orderState__contract_0, lt_true hlt, w1 hlt (by omega), cond_true, hLc.ld hlt]
      simp only [bne_nat]
      cases (k != i) with
      | false => simp only [cond_false, Option.bind_some, Nat.beq, cond_true, nth_bool, Bool.false_and]
      | true => simp only [cond_true, Option.bind_some, Nat.beq, nth_bool, Bool.true_and]
    rw [hst]
    by_cases hc : (k != i && k != j) = true
    · have hle1 := Le.app H [⟨[.int .i64 v[k].n, .sl v[k].s], .rw, 2⟩]
      have hcn : c.n = acc.length := by have := hO.n; rw [lcells_len] at this; omega
      obtain ⟨c1, H1, e1, O1, n1, l1, f1⟩ := (hO.le hle1).push (by_ := 32) (new := [.int .i64 v[k].n, .sl v[k].s]) (by simp; have := hle.len; omega) (by omega) (by omega) rfl (by rw [hcn]; unfold most; omega)
      have hle2 : Le H0 H1 := ⟨by simp at l1; have := hle.len; omega, fun d hd => by
        have hd1 := hle.len
        rw [f1 d (by simp; omega) (by
          by_cases e : lcells acc = []
          · exact .inr e
          · rcases hO.blk with ⟨e', _⟩ | ⟨_, hlo, _⟩
            · exact absurd e' e
            · exact .inl (by omega)), hle1.get d (by omega)]
        exact hle.get d hd⟩
      have O1' : CO 2 H0.length H1 c1 (lcells (acc ++ [v[k]])) := by rw [lcells_app]; exact O1
      obtain ⟨c', H', e2, l2, O2⟩ := c_contract_0 hv i j m (k + 1) (by omega) (acc ++ [v[k]]) c1 H1 hle2 hL O1' (by simp; omega)
      refine ⟨c', H', ?_, l2, by rw [if_pos hc]; simpa using O2⟩
      rw [hc, cond_true]
      have hnb : newB H 2 [.int .i64 v[k].n, .sl v[k].s] = some (H.length, H ++ [⟨[.int .i64 v[k].n, .sl v[k].s], .rw, 2⟩]) := rfl
      rw [hnb]
      simp only [Option.bind_some]
      rw [rng_new (cs := [.int .i64 v[k].n, .sl v[k].s]) (z := 2) (m := 1 * 2) (by simp) rfl (by omega)]
      simp only [Option.bind_some]
      rw [e1]
      exact e2
    · obtain ⟨c', H', e2, l2, O2⟩ := c_contract_0 hv i j m (k + 1) (by omega) acc c H hle hL hO (by omega)
      exact ⟨c', H', by rw [Bool.eq_false_iff.2 hc, cond_false]; exact e2, l2, by rw [if_neg hc]; exact O2⟩

theorem lrows_sub {v w : List LE} (h : v.Sublist w) : (lrows v).Sublist (lrows w) := h.map _
/-- The state behind a step. -/
def stepV (op : List Int) (v : List LE) (next i j : Nat) (s : Sl) : List LE := dropF i j v 0 ++ [⟨(next : Int), s, resL op v i j⟩]
theorem put_cell {H : AH} {b o z : Nat} {cs : List Sc} (hb : H[b]? = some ⟨cs, .rw, z⟩) (ho : o < cs.length) (v : Sc) : putR H b o [v] = some (H.set b ⟨cs.set o v, .rw, z⟩) := putR_one hb ho
/-- impl.contract -/
theorem c_contract {H0 H : AH} {bs : Nat} {D op : List Int} {so sl : Sl} {next : Nat} {v : List LE} (h : OS H0 H bs D op so sl next v) (hs : SmallV v) (ho : op.length ≤ 1024) (hnx : next ≤ 4096) {i j : Nat} (hi : i < v.length) (hj : j < v.length) :
    ∃ sl' s H', R (.fn F.x__impl_orderState__contract) [.sc (.hp bs 0), isc (i : Int), isc (j : Int)] H = some ⟨1, [.agg [.int .i64 v[i].n, .int .i64 v[j].n]], H'⟩ ∧ OS H0 H' bs D op so sl' (next + 1) (stepV op v next i j s) := by
  obtain ⟨a1, a2, a3⟩ := h.at0
  have hL := h.out.lr
  have hbl : bs < H.length := (List.getElem?_eq_some_iff.1 h.blk).1
  obtain ⟨s16, H1, e1, l1, o1⟩ := c_resultLabels h hs ho hi hj
  have h1 := h.ext l1
  have htake : H1.take H.length = H.take H.length := List.ext_getElem? fun d => by
    rw [List.getElem?_take, List.getElem?_take]
    split
    · rename_i hd; exact l1.get d hd
    · rfl
  obtain ⟨c, H2, e2, l2, O2⟩ := c_contract_0 (H0 := H1) (sl := sl) hs.1 i j v.length 0 (by omega) [] ⟨0, 0, 0, 0, true⟩ H1 (Le.refl _) h1.out.lr (CO.nil _ _ _ _) (by simp)
  simp only [List.drop_zero, List.nil_append] at O2
  have h2 := h1.ext l2
  have F2 := (h1.fr.ext l2)
  -- the new row
  have hdl : (dropF i j v 0).length ≤ 1024 := Nat.le_trans (dropF_sub i j v 0).length_le hs.1
  have hcn : c.n = (dropF i j v 0).length := by have := O2.n; rw [lcells_len] at this; omega
  have hle3 := Le.app H2 [⟨[.int .i64 (next : Int), .sl s16], .rw, 2⟩]
  obtain ⟨c3, H3, e3, O3, n3, l3, f3⟩ := (O2.le hle3).push (by_ := 32) (new := [.int .i64 (next : Int), .sl s16]) (by simp; have := l2.len; omega) (by omega) (by omega) rfl (by rw [hcn]; unfold most; omega)
  -- what was there before stays
  have keep3 : ∀ d, d < H1.length → H3[d]? = H1[d]? := fun d hd => by
    have hd2 := l2.len
    rw [f3 d (by simp; omega) (by
      by_cases e : lcells (dropF i j v 0) = []
      · exact .inr e
      · rcases O2.blk with ⟨e', _⟩ | ⟨_, hlo, _⟩
        · exact absurd e' e
        · exact .inl (by omega)), hle3.get d (by omega)]
    exact l2.get d hd
  have hle13 : Le H1 H3 := ⟨by simp at l3; have := l2.len; omega, keep3⟩
  have h3 := h1.ext hle13
  have hb3 : H3[bs]? = some ⟨ics D ++ [.sl so, .sl sl, .int .i64 (next : Int)], .rw, 103⟩ := h3.blk
  have hcl : (ics D ++ [Sc.sl so, Sc.sl sl, Sc.int .i64 (next : Int)]).length = 103 := by simp [h.dl]
  have hD : (ics D).length = 100 := by simp [h.dl]
  have hp1 : putR H3 bs (0 + 101) [.sl c3] = some (H3.set bs ⟨ics D ++ [.sl so, .sl c3, .int .i64 (next : Int)], .rw, 103⟩) := by
    rw [put_cell hb3 (by omega)]
    congr 4
    rw [List.set_append_right _ _ (by omega), hD]; rfl
  have hp2 : putR (H3.set bs ⟨ics D ++ [.sl so, .sl c3, .int .i64 (next : Int)], .rw, 103⟩) bs (0 + 102) [.int .i64 ((next + 1 : Nat) : Int)] = some (H3.set bs ⟨ics D ++ [.sl so, .sl c3, .int .i64 ((next + 1 : Nat) : Int)], .rw, 103⟩) := by
    rw [put_cell (set_get hb3) (by simp [h.dl]), set_set]
    congr 4
    rw [List.set_append_right _ _ (by omega), hD]; rfl
  have hw : IntKind.wrap .i64 ((next : Int) + 1) = ((next + 1 : Nat) : Int) := by rw [wrap_id] <;> omega
  have hrd4 : rdB (H3.set bs ⟨ics D ++ [.sl so, .sl c3, .int .i64 (next : Int)], .rw, 103⟩) bs = some (ics D ++ [.sl so, .sl c3, .int .i64 (next : Int)]) := by unfold rdB; rw [set_get hb3]; rfl
  have hi4 : intAt .i64 (ics D ++ [.sl so, .sl c3, .int .i64 (next : Int)]) (0 + 102) = some (next : Int) := intAt_get (by rw [List.getElem?_append_right (by omega), hD]; rfl)
  have hOne : ∀ {s : Sl} {l : List Int}, Own H0.length H3 s l → l ≠ [] → s.b ≠ bs := fun ho hl e => by
    have := ho.blk' hl
    rw [e, hb3] at this
    simp at this
  refine ⟨c3, s16, H3.set bs ⟨ics D ++ [.sl so, .sl c3, .int .i64 ((next + 1 : Nat) : Int)], .rw, 103⟩, ?_, ?_⟩
  · rw [R_eq, e_x__impl_orderState__contract, h.rd]
    simp only [Option.bind_some, a2]
    rw [hL.ldn hi, hL.ldn hj, decide_eq_true hbl]
    simp only [cond_true, Option.bind_some, a3]
    rw [e1]
    simp only [Option.bind_some, one_sl]
    rw [decide_eq_true htake, cond_true, h1.rd]
    simp only [Option.bind_some, a2]
    rw [hL.n]
    have e2 : R (.loop F.x__impl_orderState__contract 0) [isc (i : Int), isc (j : Int), ssc ⟨0, 0, 0, 0, true⟩, ssc sl, isc (v.length : Int), isc 0] H1 = _ := e2
    rw [e2]
    simp only [Option.bind_some, Nat.beq, cond_true, nth_sl]
    have hnb : newB H2 2 [.int .i64 (next : Int), .sl s16] = some (H2.length, H2 ++ [⟨[.int .i64 (next : Int), .sl s16], .rw, 2⟩]) := rfl
    rw [hnb]
    simp only [Option.bind_some]
    rw [rng_new (cs := [.int .i64 (next : Int), .sl s16]) (z := 2) (m := 1 * 2) (by simp) rfl (by omega)]
    simp only [Option.bind_some]
    rw [e3]
    simp only [Option.bind_some]
    rw [hp1]
    simp only [Option.bind_some]
    rw [hrd4]
    simp only [Option.bind_some, hi4]
    rw [hw, hp2]
    rfl
  · -- the frame
    have F3 : Fr H0 H3 (lrows (stepV op v next i j s16)) := by
      have A := h.fr.new l1 o1
      have B := (A.sub (qs := (s16, resL op v i j) :: lrows (dropF i j v 0)) (.cons₂ _ (lrows_sub (dropF_sub i j v 0)))).ext hle13
      refine B.perm ?_
      unfold stepV lrows
      rw [List.map_append]
      exact List.perm_append_comm
    refine ⟨⟨F3.le.set h.lo, F3.rows.frame fun p hp hne => List.getElem?_set_ne (Ne.symm (hOne (F3.rows.own p hp) hne))⟩, ?_, set_get hb3, h.lo, h.dl, h.op⟩
    have hcells : lcells (stepV op v next i j s16) = lcells (dropF i j v 0) ++ [.int .i64 (next : Int), .sl s16] := by unfold stepV; rw [lcells_app]; rfl
    rw [hcells]
    have O3' : CO 2 H0.length H3 c3 (lcells (dropF i j v 0) ++ [.int .i64 (next : Int), .sl s16]) := ⟨O3.o, O3.n, O3.c, O3.blk.imp id fun ⟨a, b, c⟩ => ⟨a, Nat.le_trans h1.fr.le.len b, c⟩⟩
    refine O3'.keep fun hc => List.getElem?_set_ne fun e => ?_
    rcases O3'.blk with ⟨e', _⟩ | ⟨_, _, hb⟩
    · exact absurd e' hc
    · rw [← e, hb3] at hb
      simp at hb
end Go.Abs
/- Contracts: orders (impl). -/
namespace Go.Abs
set_option linter.all false
set_option maxRecDepth 10000

/-- impl.follow -/
theorem c_follow {H0 H : AH} {bs : Nat} {D op : List Int} {so sl : Sl} {next : Nat} {v : List LE} (h : OS H0 H bs D op so sl next v) (hs : SmallV v) (ho : op.length ≤ 1024) (hnx : next ≤ 4096) (a b : Int) :
    ((placeF v a 0 < 0 ∨ placeF v b 0 < 0 ∨ a ≥ b) ∧ R (.fn F.x__impl_orderState__follow) [.sc (.hp bs 0), .agg [.int .i64 a, .int .i64 b]] H = some ⟨1, [bsc false], H⟩) ∨
    (∃ i j : Nat, placeF v a 0 = i ∧ placeF v b 0 = j ∧ a < b ∧ i < v.length ∧ j < v.length ∧ ∃ sl' s H', R (.fn F.x__impl_orderState__follow) [.sc (.hp bs 0), .agg [.int .i64 a, .int .i64 b]] H = some ⟨1, [bsc true], H'⟩ ∧ OS H0 H' bs D op so sl' (next + 1) (stepV op v next i j s)) := by
  have pa := c_place h hs.1 a
  have pb := c_place h hs.1 b
  have hst : R (.fn F.x__impl_orderState__follow) [.sc (.hp bs 0), .agg [.int .i64 a, .int .i64 b]] H = cond (decide (placeF v a 0 < 0)) (some ⟨1, [bsc false], H⟩) (cond (decide (placeF v b 0 < 0)) (some ⟨1, [bsc false], H⟩) (cond (decide (a ≥ b)) (some ⟨1, [bsc false], H⟩)
      ((R (.fn F.x__impl_orderState__contract) [.sc (.hp bs 0), isc (placeF v a 0), isc (placeF v b 0)] H).bind fun r9 => (oneP r9.vs).bind fun p10 => p10.agg?.bind fun l11 => cond (decide (l11.length = 2)) ((intAt .i64 l11 0).bind fun n12 => (intAt .i64 l11 1).bind fun n13 => some ⟨1, [bsc true], r9.H⟩) none))) := by
    rw [R_eq, e_x__impl_orderState__follow, pa]
    simp only [Option.bind_some, one_int]
    rw [pb]
    simp only [Option.bind_some, one_int]
  by_cases h1 : placeF v a 0 < 0
  · exact .inl ⟨.inl h1, by rw [hst, decide_eq_true h1]; rfl⟩
  by_cases h2 : placeF v b 0 < 0
  · exact .inl ⟨.inr (.inl h2), by rw [hst, decide_eq_false h1, decide_eq_true h2]; rfl⟩
  by_cases h3 : a ≥ b
  · exact .inl ⟨.inr (.inr h3), by rw [hst, decide_eq_false h1, decide_eq_false h2, decide_eq_true h3]; rfl⟩
  have ra := placeF_lo v a 0
  have rb := placeF_lo v b 0
  obtain ⟨i, hi⟩ : ∃ i : Nat, placeF v a 0 = i := ⟨(placeF v a 0).toNat, by omega⟩
  obtain ⟨j, hj⟩ : ∃ j : Nat, placeF v b 0 = j := ⟨(placeF v b 0).toNat, by omega⟩
  have hil : i < v.length := by omega
  have hjl : j < v.length := by omega
  obtain ⟨sl', s, H', e, O⟩ := c_contract h hs ho hnx hil hjl
  refine .inr ⟨i, j, hi, hj, by omega, hil, hjl, sl', s, H', ?_, O⟩
  rw [hst, decide_eq_false h1, decide_eq_false h2, decide_eq_false h3, hi, hj]
  simp only [cond_false]
  rw [e]
  simp only [Option.bind_some, o_ii]

structure Sp where
  a : Int
  b : Int
def S2 (H : AH) (s : Sl) (ps : List Sp) : Prop := s.n = ps.length ∧ s.n ≤ s.c ∧ (ps = [] ∨ ∃ cs, rdB H s.b = some cs ∧ ∀ (i : Nat) g, ps[i]? = some g → cs[s.o + i * 2]? = some (.int .i64 g.a) ∧ cs[s.o + i * 2 + 1]? = some (.int .i64 g.b))
theorem S2.le {H H' : AH} (h : Go.Abs.Le H H') {s : Sl} {ps : List Sp} (k : S2 H s ps) : S2 H' s ps := ⟨k.1, k.2.1, k.2.2.imp id fun ⟨cs, h1, h2⟩ => ⟨cs, h.rdB h1, h2⟩⟩
theorem S2.ld {H : AH} {s : Sl} {ps : List Sp} (h : S2 H s ps) {i : Nat} (hi : i < ps.length) {α : Type} (k : Int → Int → Option α) :
    ((ixA s (i : Int) 2).bind fun o => (rdB H s.b).bind fun q => (intAt .i64 q o).bind fun x => (intAt .i64 q (o + 1)).bind fun y => k x y) = k ps[i].a ps[i].b := by
  obtain ⟨h1, h2, e | ⟨cs, hc, hg⟩⟩ := h
  · rw [e] at hi; simp at hi
  · obtain ⟨g1, g2⟩ := hg i _ (List.getElem?_eq_getElem hi)
    rw [ixA_nat (by omega)]
    simp only [Option.bind_some, hc, intAt_get g1, intAt_get g2]

/-- All labels that are there. -/
def totV (v : List LE) : Nat := (v.map fun t => t.l.length).sum
theorem totV_mem {v : List LE} {t : LE} (h : t ∈ v) : t.l.length ≤ totV v := by
  unfold totV
  induction v with
  | nil => simp at h
  | cons x v ih =>
    simp only [List.map_cons, List.sum_cons]
    rcases List.mem_cons.1 h with rfl | h
    · omega
    · have := ih h; omega
theorem dropF_ge (i j : Nat) : ∀ (v : List LE) (k : Nat), i < k → j < k → dropF i j v k = v
  | [], _, _, _ => rfl
  | t :: v, k, h1, h2 => by
    unfold dropF
    have a1 : (k != i) = true := bne_iff_ne.2 (by omega)
    have a2 : (k != j) = true := bne_iff_ne.2 (by omega)
    rw [a1, a2, dropF_ge i j v (k + 1) (by omega) (by omega)]
    rfl
theorem dropF_one (i j : Nat) : ∀ (v : List LE) (k : Nat) (hk : i < k) (hj : k ≤ j) (hl : j - k < v.length), totV (dropF i j v k) + v[j - k].l.length = totV v ∧ (dropF i j v k).length + 1 = v.length
  | [], k, _, _, hl => by simp at hl
  | t :: v, k, hk, hj, hl => by
    have a1 : (k != i) = true := bne_iff_ne.2 (by omega)
    by_cases e : k = j
    · subst e
      unfold dropF
      have a2 : (k != k) = false := by simp
      rw [a1, a2]
      simp only [Bool.and_false, Bool.false_eq_true, if_false, Nat.sub_self, List.getElem_cons_zero]
      rw [dropF_ge i k v (k + 1) (by omega) (by omega)]
      simp [totV]; omega
    · unfold dropF
      have a2 : (k != j) = true := bne_iff_ne.2 e
      rw [a1, a2]
      simp only [Bool.and_self, if_true]
      have hs : j - k = (j - (k + 1)) + 1 := by omega
      obtain ⟨g1, g2⟩ := dropF_one i j v (k + 1) (by omega) (by omega) (by simp at hl; omega)
      have hget : (t :: v)[j - k] = v[j - (k + 1)]'(by simp at hl; omega) := by simp [hs]
      rw [hget]
      simp only [totV, List.map_cons, List.sum_cons, List.length_cons] at g1 ⊢
      omega
theorem dropF_comm (i j : Nat) : ∀ (v : List LE) (k : Nat), dropF i j v k = dropF j i v k
  | [], _ => rfl
  | t :: v, k => by
    unfold dropF
    rw [dropF_comm i j v (k + 1), Bool.and_comm]
theorem dropF_two (i j : Nat) : ∀ (v : List LE) (k : Nat) (hi : k ≤ i) (hij : i < j) (hl : j - k < v.length), totV (dropF i j v k) + (v[i - k]'(by omega)).l.length + v[j - k].l.length = totV v ∧ (dropF i j v k).length + 2 = v.length
  | [], k, _, _, hl => by simp at hl
  | t :: v, k, hi, hij, hl => by
    by_cases e : k = i
    · subst e
      unfold dropF
      have a1 : (k != k) = false := by simp
      rw [a1]
      simp only [Bool.false_and, Bool.false_eq_true, if_false, Nat.sub_self, List.getElem_cons_zero]
      have hs : j - k = (j - (k + 1)) + 1 := by omega
      obtain ⟨g1, g2⟩ := dropF_one k j v (k + 1) (by omega) (by omega) (by simp at hl; omega)
      have hget : (t :: v)[j - k] = v[j - (k + 1)]'(by simp at hl; omega) := by simp [hs]
      rw [hget]
      simp only [totV, List.map_cons, List.sum_cons, List.length_cons] at g1 ⊢
      omega
    · unfold dropF
      have a1 : (k != i) = true := bne_iff_ne.2 e
      have a2 : (k != j) = true := bne_iff_ne.2 (by omega)
      rw [a1, a2]
      simp only [Bool.and_self, if_true]
      have hs : j - k = (j - (k + 1)) + 1 := by omega
      have hs2 : i - k = (i - (k + 1)) + 1 := by omega
      obtain ⟨g1, g2⟩ := dropF_two i j v (k + 1) (by omega) hij (by simp at hl; omega)
      have hget : (t :: v)[j - k] = v[j - (k + 1)]'(by simp at hl; omega) := by simp [hs]
      have hget2 : (t :: v)[i - k]'(by omega) = v[i - (k + 1)]'(by simp at hl; omega) := by simp [hs2]
      rw [hget, hget2]
      simp only [totV, List.map_cons, List.sum_cons, List.length_cons] at g1 ⊢
      omega
theorem resL_len (op : List Int) {v : List LE} {i j : Nat} (hi : i < v.length) (hj : j < v.length) : (resL op v i j).length ≤ v[i].l.length + v[j].l.length := by
  unfold resL
  rw [getD_le hi, getD_le hj]
  exact Nat.le_trans colF_len (joinL_len _ _)
theorem stepV_tot (op : List Int) {v : List LE} {next i j : Nat} (s : Sl) (hi : i < v.length) (hj : j < v.length) (hij : i ≠ j) : totV (stepV op v next i j s) ≤ totV v ∧ (stepV op v next i j s).length + 1 = v.length := by
  have hr := resL_len op hi hj
  have hs : totV (stepV op v next i j s) = totV (dropF i j v 0) + (resL op v i j).length := by simp [stepV, totV]
  have hl : (stepV op v next i j s).length = (dropF i j v 0).length + 1 := by simp [stepV]
  rcases Nat.lt_or_gt_of_ne hij with h | h
  · obtain ⟨g1, g2⟩ := dropF_two i j v 0 (by omega) h (by omega)
    simp only [Nat.sub_zero] at g1
    omega
  · obtain ⟨g1, g2⟩ := dropF_two j i v 0 (by omega) h (by omega)
    rw [dropF_comm] at g1 g2
    simp only [Nat.sub_zero] at g1
    omega
theorem placeF_at : ∀ (v : List LE) (n : Int) (k i : Nat), placeF v n k = (i : Int) → ∃ h : i - k < v.length, k ≤ i ∧ v[i - k].n = n
  | [], n, k, i, h => by simp [placeF] at h
  | x :: v, n, k, i, h => by
    unfold placeF at h
    split at h
    · rename_i he
      have : i = k := by omega
      subst this
      exact ⟨by simp, Nat.le_refl _, by simpa using he⟩
    · obtain ⟨h1, h2, h3⟩ := placeF_at v n (k + 1) i h
      have hs : i - k = (i - (k + 1)) + 1 := by omega
      exact ⟨by simp; omega, by omega, by simp [hs, h3]⟩
theorem placeF_neg : ∀ (v : List LE) (n : Int) (k : Nat), placeF v n k < 0 ↔ n ∉ v.map (·.n)
  | [], n, k => by simp [placeF]
  | x :: v, n, k => by
    unfold placeF
    split
    · rename_i he
      have : x.n = n := by simpa using he
      simp [this]
    · rename_i he
      have : ¬ x.n = n := by simpa using he
      rw [placeF_neg v n (k + 1)]
      simp [Ne.symm this]

/-- An order is followed: by the numbers that are there. -/
def orderN : List Int → Int → List Sp → Bool
  | _, _, [] => true
  | ns, nx, p :: ps => if p.a ∈ ns ∧ p.b ∈ ns ∧ p.a < p.b then orderN (ns.filter (fun x => x != p.a && x != p.b) ++ [nx]) (nx + 1) ps else false
theorem dropF_nums {i j : Nat} {a b : Int} : ∀ (v : List LE) (k : Nat), (v.map (·.n)).Nodup → (∀ (m : Nat) t, v[m]? = some t → ((m + k = i ↔ t.n = a) ∧ (m + k = j ↔ t.n = b))) → (dropF i j v k).map (·.n) = (v.map (·.n)).filter (fun x => x != a && x != b)
  | [], _, _, _ => rfl
  | t :: v, k, hd, h => by
    obtain ⟨h1, h2⟩ := h 0 t (by simp)
    have ih := dropF_nums (i := i) (j := j) (a := a) (b := b) v (k + 1) (by simp at hd; exact hd.2) (fun m u hu => by
      have := h (m + 1) u (by simpa using hu)
      have e : m + 1 + k = m + (k + 1) := by omega
      rw [e] at this; exact this)
    unfold dropF
    rw [List.map_cons, List.filter_cons]
    have e1 : (k != i) = (t.n != a) := by
      rw [Bool.eq_iff_iff, bne_iff_ne, bne_iff_ne]
      rw [Nat.zero_add] at h1
      exact not_congr h1
    have e2 : (k != j) = (t.n != b) := by
      rw [Bool.eq_iff_iff, bne_iff_ne, bne_iff_ne]
      rw [Nat.zero_add] at h2
      exact not_congr h2
    rw [e1, e2]
    split
    · rw [List.map_cons, ih]
    · exact ih
theorem nodup_at {v : List LE} (hd : (v.map (·.n)).Nodup) {i : Nat} (hi : i < v.length) {a : Int} (ha : v[i].n = a) (m : Nat) (t : LE) (ht : v[m]? = some t) : m = i ↔ t.n = a := by
  constructor
  · intro e; subst e
    rw [List.getElem?_eq_getElem hi] at ht
    cases ht; exact ha
  · intro e
    obtain ⟨hm, rfl⟩ := List.getElem?_eq_some_iff.1 ht
    rw [List.Nodup, List.pairwise_iff_getElem] at hd
    rcases Nat.lt_trichotomy m i with h | h | h
    · have := hd m i (by simpa using hm) (by simpa using hi) h
      simp [ha, e] at this
    · exact h
    · have := hd i m (by simpa using hi) (by simpa using hm) h
      simp [ha, e] at this
/-- impl.OrderOk: the steps -/
theorem c_iOrderOk_0 {H0 : AH} {bs : Nat} {D op : List Int} {so sp : Sl} {ps : List Sp} (hp : S2 H0 sp ps) (hpl : ps.length ≤ 1024) (ho : op.length ≤ 1024) :
    ∀ (k i : Nat) (H : AH) (sl : Sl) (next : Nat) (v : List LE), i + k = ps.length → OS H0 H bs D op so sl next v → v.length ≤ 1024 → totV v ≤ 1000 → next ≤ 2048 + i → (v.map (·.n)).Nodup → (∀ t ∈ v, t.n < (next : Int)) →
      ∃ H', R (.loop F.iOrderOk 0) [.sc (.hp bs 0), ssc sp, isc (ps.length : Int), isc (i : Int)] H = cond (orderN (v.map (·.n)) next (ps.drop i)) (some ⟨2, [], H'⟩) (some ⟨1, [bsc false], H'⟩) ∧ Go.Abs.Le H0 H'
  | 0, i, H, sl, next, v, hi, hO, hv, ht, hn, hd, hx => by
    obtain rfl : i = ps.length := by omega
    refine ⟨H, ?_, hO.fr.le⟩
    rw [R_eq, e_iOrderOk_0, lt_self]
    simp [orderN]
  | k + 1, i, H, sl, next, v, hi, hO, hv, ht, hn, hd, hx => by
    have hlt : i < ps.length := by omega
    have hsv : SmallV v := ⟨hv, fun t h => by have := totV_mem h; omega⟩
    rw [List.drop_eq_getElem_cons hlt]
    simp only [orderN]
    rcases c_follow hO hsv ho (by omega) ps[i].a ps[i].b with ⟨hbad, e⟩ | ⟨p, q, hpa, hqb, hab, hpl', hql', sl', s, H', e, O⟩
    · have hno : ¬ (ps[i].a ∈ v.map (·.n) ∧ ps[i].b ∈ v.map (·.n) ∧ ps[i].a < ps[i].b) := by
        rintro ⟨h1, h2, h3⟩
        rcases hbad with h | h | h
        · exact (placeF_neg v _ 0).1 h h1
        · exact (placeF_neg v _ 0).1 h h2
        · omega
      refine ⟨H, ?_, hO.fr.le⟩
      rw [if_neg hno, R_eq, e_iOrderOk_0, lt_true hlt, w1 hlt (by omega), cond_true, (hp.le hO.fr.le).ld hlt, e]
      simp only [Option.bind_some, one_bool, Bool.not_false, cond_true, cond_false]
    · obtain ⟨hp1, _, hp2⟩ := placeF_at v _ 0 p hpa
      obtain ⟨hq1, _, hq2⟩ := placeF_at v _ 0 q hqb
      simp only [Nat.sub_zero] at hp2 hq2
      have hpq : p ≠ q := fun e => by subst e; omega
      have hyes : ps[i].a ∈ v.map (·.n) ∧ ps[i].b ∈ v.map (·.n) ∧ ps[i].a < ps[i].b := ⟨List.mem_map.2 ⟨v[p], List.getElem_mem hpl', hp2⟩, List.mem_map.2 ⟨v[q], List.getElem_mem hql', hq2⟩, hab⟩
      obtain ⟨g1, g2⟩ := stepV_tot op (next := next) s hpl' hql' hpq
      have hnums : (stepV op v next p q s).map (·.n) = (v.map (·.n)).filter (fun x => x != ps[i].a && x != ps[i].b) ++ [(next : Int)] := by
        unfold stepV
        rw [List.map_append, dropF_nums v 0 hd fun m t hm => ⟨by rw [Nat.add_zero]; exact nodup_at hd hpl' hp2 m t hm, by rw [Nat.add_zero]; exact nodup_at hd hql' hq2 m t hm⟩]
        rfl
      have hd' : ((stepV op v next p q s).map (·.n)).Nodup := by
        rw [hnums, List.nodup_append]
        refine ⟨hd.filter _, by simp, fun x hx1 y hy e => ?_⟩
        simp at hy
        have := (List.mem_filter.1 hx1).1
        obtain ⟨t, ht1, ht2⟩ := List.mem_map.1 this
        have := hx t ht1
        omega
      have hx' : ∀ t ∈ stepV op v next p q s, t.n < ((next + 1 : Nat) : Int) := fun t htm => by
        unfold stepV at htm
        rcases List.mem_append.1 htm with h | h
        · have := hx t ((dropF_sub p q v 0).subset h); omega
        · simp at h; subst h; show (next : Int) < _; omega
      obtain ⟨H2, e2, l2⟩ := c_iOrderOk_0 hp hpl ho k (i + 1) H' sl' (next + 1) (stepV op v next p q s) (by omega) O (by omega) (by omega) (by omega) hd' hx'
      refine ⟨H2, ?_, l2⟩
      rw [if_pos hyes, R_eq, e_iOrderOk_0, lt_true hlt, w1 hlt (by omega), cond_true, (hp.le hO.fr.le).ld hlt, e]
      simp only [Option.bind_some, one_bool, Bool.not_true, cond_false]
      rw [e2, hnums]
      rfl
end Go.Abs
/- Contracts: orders: the start (impl); the reference's check; they agree. -/
namespace Go.Abs
set_option linter.all false
set_option maxRecDepth 10000

theorem zc_os : zc P Y.timpl_orderState = ics (List.replicate 100 0) ++ [.sl ⟨0, 0, 0, 0, true⟩, .sl ⟨0, 0, 0, 0, true⟩, .int .i64 0] := by kernel_rfl
theorem fill_os {X : List Sc} (hX : X.length = 100) (so : Sl) (m : Int) : fillB [(0, 100), (100, 1), (101, 1), (102, 1)] (zc P Y.timpl_orderState) [(0, .agg X), (1, .sc (.sl so)), (3, .sc (.int .i64 m))] = some (X ++ [.sl so, .sl ⟨0, 0, 0, 0, true⟩, .int .i64 m]) := by
  rw [zc_os]
  have hz : (ics (List.replicate 100 0)).length = 100 := by simp
  have h0 : setAll (ics (List.replicate 100 0) ++ [Sc.sl ⟨0, 0, 0, 0, true⟩, Sc.sl ⟨0, 0, 0, 0, true⟩, Sc.int .i64 0]) 0 X = X ++ [Sc.sl ⟨0, 0, 0, 0, true⟩, Sc.sl ⟨0, 0, 0, 0, true⟩, Sc.int .i64 0] := by
    rw [setAll_all _ _ _ (by simp only [List.length_append, hz, hX, List.length_cons, List.length_nil]; omega), hX]
    simp only [List.take_zero, List.nil_append, Nat.zero_add]
    rw [List.drop_append, hz, List.drop_eq_nil_of_le (by omega)]
    simp
  have h1 : (X ++ [Sc.sl ⟨0, 0, 0, 0, true⟩, Sc.sl ⟨0, 0, 0, 0, true⟩, Sc.int .i64 0]).set 100 (.sl so) = X ++ [Sc.sl so, Sc.sl ⟨0, 0, 0, 0, true⟩, Sc.int .i64 0] := by
    rw [List.set_append_right _ _ (by omega), hX]; rfl
  have h2 : (X ++ [Sc.sl so, Sc.sl ⟨0, 0, 0, 0, true⟩, Sc.int .i64 0]).set 102 (.int .i64 m) = X ++ [Sc.sl so, Sc.sl ⟨0, 0, 0, 0, true⟩, Sc.int .i64 m] := by
    rw [List.set_append_right _ _ (by omega), hX]; rfl
  have b1 : Nat.beq X.length 100 = true := by rw [hX]; rfl
  have b2 : ∀ l : List Sc, l.length = 103 → Nat.ble (0 + 100) l.length = true := fun l h => by rw [h]; rfl
  have b3 : ∀ l : List Sc, l.length = 103 → Nat.ble (100 + 1) l.length = true := fun l h => by rw [h]; rfl
  have b4 : ∀ l : List Sc, l.length = 103 → Nat.ble (102 + 1) l.length = true := fun l h => by rw [h]; rfl
  have l1 : (ics (List.replicate 100 0) ++ [Sc.sl ⟨0, 0, 0, 0, true⟩, Sc.sl ⟨0, 0, 0, 0, true⟩, Sc.int .i64 0]).length = 103 := by simp only [List.length_append, hz, List.length_cons, List.length_nil]
  have l2 : ∀ a b c : Sc, (X ++ [a, b, c]).length = 103 := fun a b c => by simp only [List.length_append, hX, List.length_cons, List.length_nil]
  unfold fillB
  simp only [fillC, List.getElem?_cons_zero, List.getElem?_cons_succ, PV.cells, b1, b2 _ l1, Bool.and_self, if_true, h0, List.length_cons, List.length_nil, Nat.beq, b3 _ (l2 _ _ _), setAll, h1, b4 _ (l2 _ _ _), h2]

/-- The tensors that are there at the start. -/
def startV (rs : List Row) : Nat → List LE
  | _ => (rs.zipIdx).map fun x => ⟨(x.2 : Int), x.1.1, x.1.2⟩
theorem startV_nums : ∀ (rs : List Row) (k : Nat), ((rs.zipIdx k).map fun x : Row × Nat => (⟨(x.2 : Int), x.1.1, x.1.2⟩ : LE)).map (·.n) = (List.range' k rs.length).map fun i : Nat => (i : Int)
  | [], k => rfl
  | r :: rs, k => by simp [List.zipIdx_cons, List.range'_succ, startV_nums rs (k + 1)]

/-- impl.startState: the tensors -/
theorem c_istartState_0 {H0 : AH} {bs : Nat} {D op : List Int} {so st : Sl} {ts : List Tn} (hT : T3 H0 st ts) (hl : ts.length ≤ 12) (htl : ∀ t ∈ ts, t.L.length ≤ 12) :
    ∀ (k i : Nat) (H : AH) (sl : Sl) (v : List LE), i + k = ts.length → OS H0 H bs D op so sl ts.length v → v.map (fun t => (t.n, t.l)) = ((ts.take i).zipIdx).map (fun x => ((x.2 : Int), x.1.L)) →
      ∃ sl' v' H', R (.loop F.istartState 0) [.sc (.hp bs 0), ssc st, isc (ts.length : Int), isc (i : Int)] H = some ⟨2, [], H'⟩ ∧ OS H0 H' bs D op so sl' ts.length v' ∧ v'.map (fun t => (t.n, t.l)) = (ts.zipIdx).map (fun x => ((x.2 : Int), x.1.L))
  | 0, i, H, sl, v, hi, hO, hv => by
    obtain rfl : i = ts.length := by omega
    rw [List.take_of_length_le (Nat.le_refl _)] at hv
    exact ⟨sl, v, H, by rw [R_eq, e_istartState_0, lt_self]; rfl, hO, hv⟩
  | k + 1, i, H, sl, v, hi, hO, hv => by
    have hlt : i < ts.length := by omega
    obtain ⟨a1, a2, a3⟩ := hO.at0
    have hbl : bs < H.length := (List.getElem?_eq_some_iff.1 hO.blk).1
    have hvl : v.length = i := by
      have := congrArg List.length hv
      simp at this; omega
    obtain ⟨a, b, c, hTt, hk⟩ := (hT.le hO.fr.le).ld hlt
    have hle1 := Go.Abs.Le.app H [resB]
    obtain ⟨s19, H1, e1, l1, o1⟩ := c_icopyInts (hTt.L.le hle1) (by have := htl _ (List.getElem_mem hlt); omega)
    have hle := hle1.trans l1
    have hres : H1[H.length]? = some resB := by rw [l1.get _ (by simp)]; simp
    have hl1 : H.length < H1.length := by have := l1.len; simp at this; omega
    have htake : H1.take H.length = (reserve H 1).take H.length := List.ext_getElem? fun d => by
      rw [List.getElem?_take, List.getElem?_take]
      split
      · rename_i hd
        rw [l1.get _ (by simp; omega)]; rfl
      · rfl
    have hset : ∀ d, d ≠ H.length → (H1.set H.length ⟨[.int .i64 (i : Int), .sl s19], .rw, 2⟩)[d]? = H1[d]? := fun d hd => List.getElem?_set_ne (Ne.symm hd)
    have hH0 := hO.fr.le.len
    -- the frame with the new row
    have F1 : Fr H0 H1 ((s19, ts[i].L) :: lrows v) := (hO.fr.ext hle1).new l1 o1
    have F2 : Fr H0 (H1.set H.length ⟨[.int .i64 (i : Int), .sl s19], .rw, 2⟩) ((s19, ts[i].L) :: lrows v) := ⟨F1.le.set hH0, F1.rows.frame fun p hp hne => hset _ fun e => by
      have := (F1.rows.own p hp).blk' hne
      rw [e, hres] at this; simp [resB] at this⟩
    have O1 := hO.out.le hle
    have O2 : CO 2 H0.length (H1.set H.length ⟨[.int .i64 (i : Int), .sl s19], .rw, 2⟩) sl (lcells v) := O1.keep fun hc => hset _ (by have := hO.out.lt hc; omega)
    have hsn : sl.n = v.length := hO.out.lr.n
    obtain ⟨sl', H3, e3, O3, n3, l3, f3⟩ := O2.push (by_ := 32) (new := [.int .i64 (i : Int), .sl s19]) (by simp; omega) (by omega) (by omega) rfl (by rw [hsn, hvl]; unfold most; omega)
    have keep3 : ∀ d, d < H.length → (d ≠ sl.b ∨ lcells v = []) → H3[d]? = H[d]? := fun d hd h => by
      rw [f3 d (by simp; omega) h, hset d (by omega), hle.get d hd]
    have hbs : bs ≠ sl.b ∨ lcells v = [] := by
      rcases hO.out.blk with ⟨e, _⟩ | ⟨_, _, hb⟩
      · exact .inr e
      · refine .inl fun e => ?_
        rw [← e, hO.blk] at hb
        simp at hb
    have hb3 : H3[bs]? = some ⟨ics D ++ [.sl so, .sl sl, .int .i64 (ts.length : Int)], .rw, 103⟩ := by rw [keep3 bs hbl hbs]; exact hO.blk
    have hD : (ics D).length = 100 := by simp [hO.dl]
    have hp1 : putR H3 bs (0 + 101) [.sl sl'] = some (H3.set bs ⟨ics D ++ [.sl so, .sl sl', .int .i64 (ts.length : Int)], .rw, 103⟩) := by
      rw [put_cell hb3 (by simp [hO.dl])]
      congr 4
      rw [List.set_append_right _ _ (by omega), hD]; rfl
    -- rows stay
    have hrow3 : ∀ p ∈ (s19, ts[i].L) :: lrows v, p.2 ≠ [] → H3[p.1.b]? = (H1.set H.length ⟨[.int .i64 (i : Int), .sl s19], .rw, 2⟩)[p.1.b]? := fun p hp hne => f3 _ (F2.rows.lt p hp hne) (by
      by_cases e : lcells v = []
      · exact .inr e
      · exact .inl (O2.ne e (by omega) (F2.rows.own p hp) hne))
    have F3 : Fr H0 H3 ((s19, ts[i].L) :: lrows v) := ⟨⟨by simp at l3; omega, fun d hd => by
      rw [keep3 d (by omega) (by
        by_cases e : lcells v = []
        · exact .inr e
        · rcases hO.out.blk with ⟨e', _⟩ | ⟨_, hlo, _⟩
          · exact absurd e' e
          · exact .inl (by omega))]
      exact hO.fr.le.get d hd⟩, F2.rows.frame hrow3⟩
    have hOne : ∀ {s : Sl} {l : List Int}, Own H0.length H3 s l → l ≠ [] → s.b ≠ bs := fun ho hl e => by
      have := ho.blk' hl
      rw [e, hb3] at this
      simp at this
    have hO4 : OS H0 (H3.set bs ⟨ics D ++ [.sl so, .sl sl', .int .i64 (ts.length : Int)], .rw, 103⟩) bs D op so sl' ts.length (v ++ [⟨(i : Int), s19, ts[i].L⟩]) := by
      have F3' : Fr H0 H3 (lrows (v ++ [⟨(i : Int), s19, ts[i].L⟩])) := F3.perm (by unfold lrows; rw [List.map_append]; exact List.perm_append_comm)
      refine ⟨⟨F3'.le.set hO.lo, F3'.rows.frame fun p hp hne => List.getElem?_set_ne (Ne.symm (hOne (F3'.rows.own p hp) hne))⟩, ?_, set_get hb3, hO.lo, hO.dl, hO.op⟩
      rw [lcells_app]
      refine O3.keep fun hc => List.getElem?_set_ne fun e => ?_
      rcases O3.blk with ⟨e', _⟩ | ⟨_, _, hb⟩
      · exact absurd e' hc
      · rw [← e, hb3] at hb
        simp at hb
    obtain ⟨sl2, v2, H', e5, O5, v5⟩ := c_istartState_0 hT hl htl k (i + 1) _ sl' (v ++ [⟨(i : Int), s19, ts[i].L⟩]) (by omega) hO4 (by
      rw [List.map_append, hv, take_snoc_any hlt, List.zipIdx_append, List.map_append]
      simp; omega)
    refine ⟨sl2, v2, H', ?_, O5, v5⟩
    have hrd : rdB ((reserve H 1).set (H.length + 0) deadB) bs = some (ics D ++ [.sl so, .sl sl, .int .i64 (ts.length : Int)]) := by
      unfold rdB
      rw [List.getElem?_set_ne (by omega), reserve1, hle1.get bs hbl, hO.blk]; rfl
    rw [R_eq, e_istartState_0, lt_true hlt, w1 hlt (by omega), cond_true, hk, decide_eq_true hbl, cond_true, hrd]
    simp only [Option.bind_some, a2]
    rw [reserve1, e1]
    simp only [Option.bind_some, one_sl]
    rw [reserve1] at htake
    rw [decide_eq_true htake, cond_true, Nat.add_zero, newAt_ok hres (by omega)]
    simp only [Option.bind_some]
    rw [rng_new (cs := [.int .i64 (i : Int), .sl s19]) (z := 2) (m := 1 * 2) (by simp [hl1]) rfl (by omega)]
    simp only [Option.bind_some]
    rw [e3]
    simp only [Option.bind_some]
    rw [hp1]
    exact e5

/-- impl.startState, of a network -/
theorem c_istartState {H : AH} {s u : Sl} {n : Nw} (h : NS H s u n) (hn : netB n = true) :
    ∃ bs D sl v H', R (.fn F.istartState) [npv n.r s u] H = some ⟨1, [.sc (.hp bs 0)], H'⟩ ∧ OS H H' bs D n.op u sl n.ts.length v ∧ v.map (fun t => (t.n, t.l)) = (n.ts.zipIdx).map (fun x => ((x.2 : Int), x.1.L)) ∧ dimTs (List.replicate 100 0) n.ts = some D := by
  simp only [netB, Bool.and_eq_true, decide_eq_true_eq] at hn
  obtain ⟨⟨⟨h1, h2⟩, h3⟩, h4⟩ := hn
  have hm : ∀ t ∈ n.ts, tensorB n.r t = true := cons_mem h3
  have hD0 : Dm (List.replicate 100 0) [] := ⟨by simp, fun y _ _ => by
    simp only [List.getD_eq_getElem?_getD, List.getElem?_replicate]
    split <;> rfl⟩
  rcases dimTs_spec n.ts [] _ hD0 (fun _ h => by simp at h) hm with ⟨k1, D, k2, k3⟩ | ⟨k1, k2⟩
  · rcases c_idimsOf h.ts h2 fun t ht => (tensor_facts (hm t ht)).1 with ⟨d, e1, e2, e3⟩ | ⟨e1, _⟩
    · rw [k2] at e1; cases e1
      have hdl : (ics D).length = 100 := by simp [e2]
      have hz : (zc P Y.t100_int).length = 100 := by rw [zc_dims]; simp
      have e6 : setAll (zc P Y.t100_int) 0 (ics D) = ics D := setAll_full (by rw [hdl, hz])
      have e7 : (List.take 100 (List.drop 0 (ics D))) = ics D := by rw [List.drop_zero, List.take_of_length_le (by omega)]
      have hO0 : OS H (H ++ [⟨ics D ++ [.sl u, .sl ⟨0, 0, 0, 0, true⟩, .int .i64 (n.ts.length : Int)], .rw, 103⟩]) H.length D n.op u ⟨0, 0, 0, 0, true⟩ n.ts.length [] :=
        ⟨Fr.of (Go.Abs.Le.app _ _), CO.nil _ _ _ _, app_get, Nat.le_refl _, e2, h.op⟩
      obtain ⟨sl, v, H', e8, O8, v8⟩ := c_istartState_0 h.ts h2 (fun t ht => (tensor_dims (hm t ht)).2.1) n.ts.length 0 _ _ [] (by omega) hO0 (by simp)
      rw [n0z] at e8
      refine ⟨H.length, D, sl, v, H', ?_, O8, v8, k2⟩
      rw [R_eq, e_istartState, e3]
      have b1 : Nat.beq (ics D).length 100 = true := by rw [hdl]; rfl
      simp only [Option.bind_some, lenP, nthP, PV.agg?, PV.sc?, boolAt, List.length_cons, List.length_nil, if_true, List.getElem?_cons_zero, List.getElem?_cons_succ, hdl, decide_true, cond_true, hz, Nat.zero_add, Nat.le_refl, e6, e7]
      rw [show (Nat.beq 100 100) = true from rfl, cond_true, h.ts.1, fill_os hdl]
      simp only [Option.bind_some]
      have hnb : newB H 103 (ics D ++ [.sl u, .sl ⟨0, 0, 0, 0, true⟩, .int .i64 (n.ts.length : Int)]) = some (H.length, H ++ [⟨ics D ++ [.sl u, .sl ⟨0, 0, 0, 0, true⟩, .int .i64 (n.ts.length : Int)], .rw, 103⟩]) := rfl
      rw [hnb]
      simp only [Option.bind_some]
      rw [e8]
      rfl
    · rw [k2] at e1; cases e1
  · rw [h3] at k1; cases k1

/-- Is an order one of the network's? -/
def ordB (n : Nw) (ps : List Sp) : Bool := netB n && decide (ps.length = n.ts.length - 1) && orderN ((List.range n.ts.length).map fun i : Nat => (i : Int)) n.ts.length ps
theorem netB_small {n : Nw} (h : netB n = true) : n.ts.length ≤ 12 ∧ n.op.length ≤ 12 ∧ ∀ t ∈ n.ts, t.L.length ≤ 12 := by
  simp only [netB, Bool.and_eq_true, decide_eq_true_eq] at h
  exact ⟨h.1.1.2, (sizeB_open h.2).1, fun t ht => (tensor_dims (cons_mem h.1.2 t ht)).2.1⟩
/-- impl.OrderOk -/
theorem c_iOrderOk {H : AH} {s u sp : Sl} {n : Nw} {ps : List Sp} (h : NS H s u n) (ho : n.op.length ≤ 1048576) (hp : S2 H sp ps) (hts : n.ts.length ≤ 4611686018427387904) :
    ∃ H', R (.fn F.iOrderOk) [npv n.r s u, ssc sp] H = some ⟨1, [bsc (ordB n ps)], H'⟩ ∧ Go.Abs.Le H H' := by
  obtain ⟨H1, e1, l1⟩ := c_iNetworkOk h ho
  unfold ordB
  cases hn : netB n with
  | false =>
    rw [hn] at e1
    exact ⟨H1, by rw [R_eq, e_iOrderOk, e1]; rfl, l1⟩
  | true =>
  rw [hn] at e1
  obtain ⟨b1, b2, b3⟩ := netB_small hn
  have hw : IntKind.wrap .i64 ((n.ts.length : Int) - 1) = (n.ts.length : Int) - 1 := by rw [wrap_id] <;> omega
  have hif : (if 0 > (n.ts.length : Int) - 1 then 0 else (n.ts.length : Int) - 1) = ((n.ts.length - 1 : Nat) : Int) := by split <;> omega
  by_cases hl : ps.length = n.ts.length - 1
  · obtain ⟨bs, D, sl, v, H2, e2, O2, v2, _⟩ := c_istartState (h.le l1) hn
    have hvl : v.length = n.ts.length := by have := congrArg List.length v2; simpa using this
    have hnums : v.map (·.n) = (List.range n.ts.length).map fun i : Nat => (i : Int) := by
      have := congrArg (List.map Prod.fst) v2
      rw [List.map_map, List.map_map] at this
      have e : (Prod.fst ∘ fun t : LE => (t.n, t.l)) = fun t => t.n := rfl
      rw [e] at this
      rw [this]
      refine List.ext_getElem (by simp) fun i h1 h2 => ?_
      simp
    have htot : totV v ≤ 144 := by
      have hlens : v.map (fun t => t.l.length) = n.ts.map (fun t => t.L.length) := by
        have := congrArg (List.map fun x : Int × List Int => x.2.length) v2
        rw [List.map_map, List.map_map] at this
        have e : ((fun x : Int × List Int => x.2.length) ∘ fun t : LE => (t.n, t.l)) = fun t => t.l.length := rfl
        rw [e] at this
        rw [this]
        refine List.ext_getElem (by simp) fun i h1 h2 => ?_
        simp
      unfold totV
      rw [hlens]
      have key : ∀ l : List Tn, (∀ t ∈ l, t.L.length ≤ 12) → (l.map fun t => t.L.length).sum ≤ l.length * 12 := by
        intro l
        induction l with
        | nil => intro _; simp
        | cons t l ih =>
          intro h
          have h1 := h t List.mem_cons_self
          have h2 := ih fun u hu => h u (List.mem_cons_of_mem _ hu)
          simp only [List.map_cons, List.sum_cons, List.length_cons]
          omega
      have := key n.ts b3
      omega
    have hnd : (v.map (·.n)).Nodup := by
      rw [hnums, List.Nodup, List.pairwise_map]
      exact List.pairwise_lt_range.imp fun {a b} hab => by omega
    have hlt : ∀ t ∈ v, t.n < ((n.ts.length : Nat) : Int) := fun t ht => by
      have : t.n ∈ v.map (·.n) := List.mem_map.2 ⟨t, ht, rfl⟩
      rw [hnums] at this
      obtain ⟨i, hi, e⟩ := List.mem_map.1 this
      have := List.mem_range.1 hi
      omega
    obtain ⟨H3, e3, l3⟩ := c_iOrderOk_0 (hp.le l1) (by omega) (by omega) ps.length 0 H2 sl n.ts.length v (by omega) O2 (by omega) (by omega) (by omega) hnd hlt
    rw [List.drop_zero, hnums] at e3
    refine ⟨H3, ?_, l1.trans l3⟩
    rw [decide_eq_true hl, R_eq, e_iOrderOk, e1]
    simp only [Option.bind_some, one_bool, Bool.not_true, cond_false]
    rw [h.ts.1, hw, hif, hp.1, hl, ne_i, cond_false, e2]
    have e3 : R (.loop F.iOrderOk 0) [.sc (.hp bs 0), ssc sp, isc (ps.length : Int), isc 0] H2 = _ := e3
    have hone : ∀ {α : Type} (b o : Nat) (k : Nat × Nat → Option α), ((oneP [.sc (.hp b o)]).bind fun p6 => p6.sc?.bind fun c7 => (ptrAt [c7] 0).bind k) = k (b, o) := fun b o k => rfl
    simp only [Option.bind_some, hone]
    rw [← hl, e3]
    cases orderN ((List.range n.ts.length).map fun i : Nat => (i : Int)) n.ts.length ps <;> rfl
  · refine ⟨H1, ?_, l1⟩
    have hne : (((ps.length : Nat) : Int) != ((n.ts.length - 1 : Nat) : Int)) = true := bne_iff_ne.2 (by omega)
    rw [R_eq, e_iOrderOk, e1]
    simp only [Option.bind_some, one_bool, Bool.not_true, cond_false]
    rw [h.ts.1, hw, hif, hp.1, hne, decide_eq_false hl]
    rfl
end Go.Abs
