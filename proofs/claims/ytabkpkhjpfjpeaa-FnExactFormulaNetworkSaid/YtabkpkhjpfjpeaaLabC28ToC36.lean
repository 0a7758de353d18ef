/- Part of the proof of FnExactFormulaNetwork: that for every input the law answers true and leaves what it reads as it was. Conditions: none beyond the given statement. -/
import Derived.Test.YtabkpkhjpfjpeaaLabC1ToC27
set_option linter.all false
/- Contracts: a clause's tensor (impl). -/
namespace Go.Abs
set_option linter.unusedVariables false
set_option linter.unusedSimpArgs false

def setV (V : List Int) (ps : List (Int × Int)) : List Int := ps.foldl (fun v p => v.set p.1.toNat p.2) V
theorem setV_len : ∀ (ps : List (Int × Int)) (V : List Int), (setV V ps).length = V.length
  | [], V => rfl
  | p :: ps, V => by show (setV (V.set _ _) ps).length = _; rw [setV_len ps]; simp
theorem setV_snoc (V : List Int) (ps : List (Int × Int)) (p : Int × Int) : setV V (ps ++ [p]) = (setV V ps).set p.1.toNat p.2 := by simp [setV]
/-- Only what lies off the labels counts. -/
theorem setV_off : ∀ (L I V Z : List Int), L.length = I.length → V.length = Z.length → (∀ x ∈ L, 0 ≤ x) → (∀ i : Nat, (i : Int) ∉ L → V[i]? = Z[i]?) → setV V (L.zip I) = setV Z (L.zip I)
  | [], I, V, Z, _, _, _, h => by
    have : V = Z := List.ext_getElem? fun i => h i (by simp)
    rw [this]
  | x :: L, [], _, _, h, _, _, _ => by simp at h
  | x :: L, y :: I, V, Z, h1, h2, h3, h4 => by
    show setV (V.set x.toNat y) (L.zip I) = setV (Z.set x.toNat y) (L.zip I)
    refine setV_off L I _ _ (by simpa using h1) (by simpa using h2) (fun z hz => h3 z (List.mem_cons_of_mem _ hz)) fun i hi => ?_
    have hx := h3 x List.mem_cons_self
    rw [List.getElem?_set, List.getElem?_set, h2]
    by_cases e : x.toNat = i
    · rw [if_pos e, if_pos e]
    · rw [if_neg e, if_neg e]
      refine h4 i fun hm => ?_
      rcases List.mem_cons.1 hm with hm | hm
      · omega
      · exact hi hm
theorem setV_get_off : ∀ (L I V : List Int) (i : Nat), (∀ x ∈ L, 0 ≤ x) → (i : Int) ∉ L → (setV V (L.zip I))[i]? = V[i]?
  | [], I, V, i, _, _ => by simp [setV]
  | x :: L, [], V, i, _, _ => by simp [setV]
  | x :: L, y :: I, V, i, h, hi => by
    show (setV (V.set x.toNat y) (L.zip I))[i]? = _
    simp only [List.mem_cons, not_or] at hi
    rw [setV_get_off L I _ i (fun z hz => h z (List.mem_cons_of_mem _ hz)) hi.2, List.getElem?_set_ne (by have := h x List.mem_cons_self; omega)]
theorem setV_mem : ∀ (ps : List (Int × Int)) (V : List Int) (v : Int), v ∈ setV V ps → v ∈ V ∨ ∃ p ∈ ps, v = p.2
  | [], V, v, h => .inl h
  | p :: ps, V, v, h => by
    have h : v ∈ setV (V.set p.1.toNat p.2) ps := h
    rcases setV_mem ps _ v h with h | ⟨q, hq, e⟩
    · rcases List.mem_or_eq_of_mem_set h with h | h
      · exact .inl h
      · exact .inr ⟨p, List.mem_cons_self, h⟩
    · exact .inr ⟨q, List.mem_cons_of_mem _ hq, e⟩
theorem setV_key {n0 : Nat} {H : AH} {sV : Sl} {V L I : List Int} (hV : Own n0 H sV V) (hne : V ≠ []) {β : Type} {F : Nat → AH → β} (hLI : L.length = I.length)
    (hstep : ∀ i (h1 : i < L.length) (h2 : i < I.length) cs, cs.length = V.length → F i (H.set sV.b ⟨ics cs, .rw, 1⟩) = F (i + 1) (H.set sV.b ⟨ics (cs.set L[i].toNat I[i]), .rw, 1⟩)) :
    F 0 H = F L.length (H.set sV.b ⟨ics (setV V (L.zip I)), .rw, 1⟩) := by
  have key : ∀ k i, i + k = L.length → F i (H.set sV.b ⟨ics (setV V ((L.zip I).take i)), .rw, 1⟩) = F L.length (H.set sV.b ⟨ics (setV V (L.zip I)), .rw, 1⟩) := by
    intro k
    induction k with
    | zero =>
      intro i hi
      obtain rfl : i = L.length := by omega
      rw [List.take_of_length_le (by simp; omega)]
    | succ k ih =>
      intro i hi
      have h1 : i < L.length := by omega
      have h2 : i < I.length := by omega
      have hz : (L.zip I).take (i + 1) = (L.zip I).take i ++ [(L[i], I[i])] := by
        rw [List.take_succ_eq_append_getElem (by simp; omega)]
        simp
      rw [hstep i h1 h2 _ (setV_len _ _)]
      have := ih (i + 1) (by omega)
      rw [hz, setV_snoc] at this
      exact this
  have := key L.length 0 (by omega)
  simp only [List.take_zero] at this
  have e : setV V [] = V := rfl
  rw [e, set_same (hV.blk' hne)] at this
  exact this

theorem st_lab {H : AH} {b n : Nat} {x : Bool} {cs : List Int} (hb : H[b]? = some ⟨ics cs, .rw, 1⟩) {y : Int} (h0 : 0 ≤ y) (hi : y < n) (hc : n ≤ cs.length) (v : Int) {α : Type} (k : AH → Option α) :
    ((ixA ⟨b, 0, n, n, x⟩ y 1).bind fun o => (putR H b o [.int .i64 v]).bind k) = k (H.set b ⟨ics (cs.set y.toNat v), .rw, 1⟩) := by
  have e : y = ((y.toNat : Nat) : Int) := by omega
  have := st_own0 (c := n) (x := x) hb (i := y.toNat) (n := n) (by omega) (by omega) v k
  rw [← e] at this
  exact this

/-- impl.clauseTensor: the values of the labels -/
theorem c_iclauseTensor_2 {n0 : Nat} {H : AH} {sI sV sL : Sl} {I V L : List Int} (hI : IS H sI I) (hL : IS H sL L) (hV : Own n0 H sV V) (hLI : L.length = I.length) (hb : ∀ x ∈ L, 0 ≤ x ∧ x < V.length) (h1 : I ≠ [] → V ≠ [] → sI.b ≠ sV.b) (h2 : L ≠ [] → V ≠ [] → sL.b ≠ sV.b) (hl : L.length ≤ 1048576) :
    ∃ H', R (.loop F.iclauseTensor 2) [ssc sI, ssc sV, ssc sL, isc (L.length : Int), isc 0] H = some ⟨6, [], H'⟩ ∧ Mut n0 H H' sV V (setV V (L.zip I)) := by
  by_cases hne : V = []
  · have : L = [] := by
      cases L with
      | nil => rfl
      | cons x L => have := hb x List.mem_cons_self; rw [hne] at this; simp at this; omega
    subst this
    refine ⟨H, ?_, Mut.refl hV⟩
    have : R (.loop F.iclauseTensor 2) [ssc sI, ssc sV, ssc sL, isc (0 : Nat), isc ((0 : Nat) : Int)] H = some ⟨6, [], H⟩ := by rw [R_eq, e_iclauseTensor_2, lt_self]; rfl
    exact this
  · refine ⟨_, ?_, Mut.set (l' := setV V (L.zip I)) hV hne (setV_len _ _)⟩
    have := setV_key hV hne (β := Option Out) (F := fun i Hc => R (.loop F.iclauseTensor 2) [ssc sI, ssc sV, ssc sL, isc (L.length : Int), isc (i : Int)] Hc) (L := L) (I := I) hLI (fun i g1 g2 cs hcs => by
      have hx := hb L[i] (List.getElem_mem g1)
      have hIne : I ≠ [] := fun e => by rw [e] at g2; simp at g2
      have hLne : L ≠ [] := fun e => by rw [e] at g1; simp at g1
      rw [R_eq, e_iclauseTensor_2, lt_true g1, w1 g1 (by omega), cond_true, (hL.set fun _ => h2 hLne hne).ldk g1, (hI.set fun _ => h1 hIne hne).ldk g2, hV.eta]
      rw [st_lab (set_get (hV.blk' hne)) hx.1 hx.2 (by omega), set_set])
    have this : R (.loop F.iclauseTensor 2) [ssc sI, ssc sV, ssc sL, isc (L.length : Int), isc 0] H = _ := this
    rw [this, R_eq, e_iclauseTensor_2, lt_self]
    rfl

def hasL (l : List Int) (i : Nat) : Bool := (l.any fun x => ((i + 1 : Nat) : Int) == x) || (l.any fun x => -((i + 1 : Nat) : Int) == x)
/-- The labels of a clause. -/
def labelsF (v : Nat) (l : List Int) : List Int := colF (fun _ (i : Nat) => if hasL l i then some (i : Int) else none) (List.range v) 0
theorem colF_mem {α : Type} {g : Nat → α → Option Int} : ∀ {l : List α} {i : Nat} {x : Int}, x ∈ colF g l i → ∃ j a, a ∈ l ∧ g j a = some x
  | [], _, x, h => by simp [colF] at h
  | a :: l, i, x, h => by
    simp only [colF, List.mem_append] at h
    rcases h with h | h
    · exact ⟨i, a, List.mem_cons_self, by cases hg : g i a <;> simp_all⟩
    · obtain ⟨j, b, hb, e⟩ := colF_mem h
      exact ⟨j, b, List.mem_cons_of_mem _ hb, e⟩
theorem colF_len {α : Type} {g : Nat → α → Option Int} : ∀ {l : List α} {i : Nat}, (colF g l i).length ≤ l.length
  | [], _ => by simp [colF]
  | a :: l, i => by
    simp only [colF, List.length_append, List.length_cons]
    have := colF_len (g := g) (l := l) (i := i + 1)
    have : (g i a).toList.length ≤ 1 := by cases g i a <;> simp
    omega
theorem labelsF_mem {v : Nat} {l : List Int} {x : Int} (h : x ∈ labelsF v l) : 0 ≤ x ∧ x < v := by
  obtain ⟨j, a, ha, e⟩ := colF_mem h
  have := List.mem_range.1 ha
  split at e
  · cases e; omega
  · cases e
theorem labelsF_len (v : Nat) (l : List Int) : (labelsF v l).length ≤ v := by
  have := colF_len (g := fun _ (i : Nat) => if hasL l i then some (i : Int) else none) (l := List.range v) (i := 0)
  simpa [labelsF] using this
def valsF (v : Nat) (L I : List Int) : List Int := setV (List.replicate v 0) (L.zip I)
def elemF (r : Rg) (v : Nat) (l L : List Int) (n : Nat) : List Int := if l.any (litT (valsF v L (idxF (List.replicate L.length 2) n))) then oneR r else zeroR r
def clauseT (r : Rg) (v : Nat) (l : List Int) : Tn := ⟨labelsF v l, List.replicate (labelsF v l).length 2, ((List.range (2 ^ (labelsF v l).length)).map fun n => elemF r v l (labelsF v l) n).flatten⟩

theorem prd_twos : ∀ k : Nat, prd (List.replicate k 2) = ((2 ^ k : Nat) : Int)
  | 0 => rfl
  | k + 1 => by rw [List.replicate_succ]; simp only [prd]; rw [prd_twos k, Nat.pow_succ, Nat.mul_comm]; simp
theorem twos_ok {k : Nat} (h : k ≤ 10) : DimsOk (List.replicate k 2) := by
  refine ⟨by simp; omega, fun d hd => by rw [(List.mem_replicate.1 hd).2]; omega, ?_⟩
  rw [prd_twos]
  have : 2 ^ k ≤ 2 ^ 10 := Nat.pow_le_pow_right (by omega) h
  omega

/-- impl.clauseTensor: the labels -/
theorem c_iclauseTensor_0 {H0 : AH} {v : Nat} {w : Int} {s s0 : Sl} {l : List Int} (hv : v ≤ 10) (hw : w = (v : Int)) (hs : IS H0 s l) (hl : l.length ≤ 1048576) :
    ∃ s' H', R (.loop F.iclauseTensor 0) [ssc s, ssc ⟨0, 0, 0, 0, true⟩, isc 1, cpv w s0] H0 = some ⟨2, [ssc s'], H'⟩ ∧ Own H0.length H' s' (labelsF v l) ∧ Le H0 H' := by
  subst hw
  have := collect (l := List.range v) (H0 := H0) (F := fun i u Hc => R (.loop F.iclauseTensor 0) [ssc s, ssc u, isc ((i + 1 : Nat) : Int), cpv (v : Int) s0] Hc) (fin := fun u Hc => some ⟨2, [ssc u], Hc⟩) (fun _ (i : Nat) => if hasL l i then some (i : Int) else none)
    (fun u Hc => by
      have : decide (((List.range v).length + 1 : Nat) ≤ (v : Int)) = false := decide_eq_false (by simp; omega)
      show R (.loop F.iclauseTensor 0) [ssc s, ssc u, isc (((List.range v).length + 1 : Nat) : Int), cpv (v : Int) s0] Hc = _
      rw [R_eq, e_iclauseTensor_0, this]; rfl)
    (fun i hi u Hc acc hle ho ha => by
      simp only [List.length_range] at hi
      have hd : decide (((i + 1 : Nat) : Int) ≤ (v : Int)) = true := decide_eq_true (by omega)
      have e0 : IntKind.wrap .i64 (0 - ((i + 1 : Nat) : Int)) = -((i + 1 : Nat) : Int) := by rw [wrap_id] <;> omega
      have e1 : IntKind.wrap .i64 (((i + 1 : Nat) : Int) + 1) = ((i + 1 + 1 : Nat) : Int) := by rw [wrap_id] <;> omega
      have e2 : IntKind.wrap .i64 (((i + 1 : Nat) : Int) - 1) = (i : Int) := by rw [wrap_id] <;> omega
      have key : ∀ (k : Out → Option Out), (((R (.fn F.ihasInt) [ssc s, isc ((i + 1 : Nat) : Int)] Hc).bind fun r1 => (oneP r1.vs).bind fun p2 => p2.sc?.bind fun c3 => (boolAt [c3] 0).bind fun b4 =>
          cond b4 (some (⟨0, [.sc (.bool true)], r1.H⟩ : Out)) ((R (.fn F.ihasInt) [ssc s, isc (IntKind.wrap .i64 (0 - ((i + 1 : Nat) : Int)))] r1.H).bind fun r5 => (oneP r5.vs).bind fun p6 => p6.sc?.bind fun c7 => (boolAt [c7] 0).bind fun b8 => some ⟨0, [.sc (.bool b8)], r5.H⟩)) : Option Out).bind k = k ⟨0, [bsc (hasL l i)], Hc⟩ := by
        intro k
        rw [c_ihasInt (hs.le hle) hl]
        simp only [Option.bind_some, one_bool]
        rw [e0, c_ihasInt (hs.le hle) hl]
        simp only [Option.bind_some, one_bool]
        unfold hasL
        cases (l.any fun x => ((i + 1 : Nat) : Int) == x) <;> rfl
      rw [List.getElem_range]
      by_cases hh : hasL l i = true
      · obtain ⟨s', H', e, o, hl'⟩ := push_le hle ho (by simp at ha; omega) (i : Int)
        refine ⟨s', H', ?_, by simpa [hh] using o, hl'⟩
        rw [R_eq, e_iclauseTensor_0, hd, cond_true, key]
        simp only [Nat.beq, cond_true, nth_bool, hh, e1, e2]
        exact e _
      · have hf : hasL l i = false := by cases h : hasL l i <;> simp_all
        refine ⟨u, Hc, ?_, by simpa [hf] using ho, hle⟩
        rw [R_eq, e_iclauseTensor_0, hd, cond_true, key]
        simp only [Nat.beq, cond_true, nth_bool, hf, e1, cond_false])
    (s0 := ⟨0, 0, 0, 0, true⟩) (H := H0) (Le.refl _) (Own.nil _ _ _)
  exact this
end Go.Abs
/- Contracts: a clause's tensor (impl), whole. -/
namespace Go.Abs
set_option linter.unusedVariables false
set_option linter.unusedSimpArgs false

/-- Elements of which the first are told. -/
def elsN (f : Nat → List Int) (z : List Int) (N n : Nat) : List (List Int) := (List.range N).map fun j => if j < n then f j else z
theorem elsN_len (f : Nat → List Int) (z : List Int) (N n : Nat) : (elsN f z N n).length = N := by simp [elsN]
theorem elsN_zero (f : Nat → List Int) (z : List Int) (N : Nat) : elsN f z N 0 = List.replicate N z :=
  List.ext_getElem (by simp [elsN]) fun i h1 h2 => by simp [elsN]
theorem elsN_all (f : Nat → List Int) (z : List Int) (N : Nat) : elsN f z N N = (List.range N).map f :=
  List.ext_getElem (by simp [elsN]) fun i h1 h2 => by
    simp only [elsN, List.length_map, List.length_range] at h1
    simp [elsN, h1]
theorem elsN_set (f : Nat → List Int) (z : List Int) {N n : Nat} (h : n < N) : (elsN f z N n).set n (f n) = elsN f z N (n + 1) :=
  List.ext_getElem (by simp [elsN]) fun i h1 h2 => by
    simp only [elsN, List.length_map, List.length_range] at h2
    rw [List.getElem_set]
    simp only [elsN, List.getElem_map, List.getElem_range]
    by_cases e : n = i
    · subst e; rw [if_pos rfl, if_pos (by omega)]
    · rw [if_neg e]
      by_cases h3 : i < n
      · rw [if_pos h3, if_pos (by omega)]
      · rw [if_neg h3, if_neg (by omega)]
theorem elsN_skip {f : Nat → List Int} {z : List Int} {N n : Nat} (h : f n = z) : elsN f z N (n + 1) = elsN f z N n :=
  List.ext_getElem (by simp [elsN]) fun i h1 h2 => by
    simp only [elsN, List.getElem_map, List.getElem_range]
    by_cases e : i = n
    · subst e; rw [if_pos (by omega), if_neg (by omega), h]
    · by_cases h3 : i < n
      · rw [if_pos h3, if_pos (by omega)]
      · rw [if_neg h3, if_neg (by omega)]
theorem elsN_uni {f : Nat → List Int} {z : List Int} {w N n : Nat} (hf : ∀ j, (f j).length = w) (hz : z.length = w) : Uni w (elsN f z N n) := fun e he => by
  simp only [elsN, List.mem_map] at he
  obtain ⟨j, _, rfl⟩ := he
  split
  · exact hf j
  · exact hz
theorem elemF_len {r : Rg} (v : Nat) (l L : List Int) (n : Nat) : (elemF r v l L n).length = (widthR r).toNat := by
  unfold elemF
  split
  · exact oneR_len r
  · exact zeroR_len r
theorem vals_bits {V : List Int} {L I : List Int} (hV : ∀ v ∈ V, v = 0 ∨ v = 1) (hI : ∀ v ∈ I, v = 0 ∨ v = 1) : ∀ v ∈ setV V (L.zip I), v = 0 ∨ v = 1 := fun v hv => by
  rcases setV_mem _ _ _ hv with h | ⟨p, hp, e⟩
  · exact hV v h
  · rw [e]; exact hI _ (List.of_mem_zip hp).2
theorem fits_mem : ∀ {D I : List Int}, fitsI D I → ∀ x ∈ I, ∃ d ∈ D, 0 ≤ x ∧ x < d
  | d :: ds, y :: ys, h, x, hx => by
    rcases List.mem_cons.1 hx with rfl | hx
    · exact ⟨d, List.mem_cons_self, h.1, h.2.1⟩
    · obtain ⟨e, he, h'⟩ := fits_mem h.2.2 x hx
      exact ⟨e, List.mem_cons_of_mem _ he, h'⟩
  | [], [], _, x, hx => by simp at hx
  | [], _ :: _, h, _, _ => h.elim
  | _ :: _, [], h, _, _ => h.elim
theorem bits_twos {k : Nat} {n : Int} : ∀ v ∈ idxF (List.replicate k 2) n, v = 0 ∨ v = 1 := fun v hv => by
  obtain ⟨d, hd, h0, h1⟩ := fits_mem (idxF_fits (D := List.replicate k 2) (n := n) fun d hd => by rw [(List.mem_replicate.1 hd).2]; omega) v hv
  rw [(List.mem_replicate.1 hd).2] at h1
  omega
/-- The literals of a clause. -/
def LitsOk (v : Nat) (l : List Int) : Prop := l.length ≤ 1048576 ∧ ∀ x ∈ l, x ≠ 0 ∧ x.natAbs ≤ v
theorem row_ne {n0 : Nat} {H : AH} {rs : List Row} (h : Rows n0 H rs) {p q : Row} {xs ys zs : List Row} (e : rs = xs ++ p :: ys ++ q :: zs) (hp : p.2 ≠ []) (hq : q.2 ≠ []) : p.1.b ≠ q.1.b := by
  subst e
  have := h.apart
  rw [List.append_assoc, List.pairwise_append] at this
  have := this.2.1
  rw [List.cons_append, List.pairwise_cons] at this
  rcases this.1 q (by simp) with h | h | h
  · exact absurd h hp
  · exact absurd h hq
  · exact h

theorem c_iclauseTensor_1s {r : Rg} (hr : ringB r = true) {H0 : AH} {v : Nat} {s sL sI sV a b c : Sl} {l L : List Int} (hv : v ≤ 10) (hs : IS H0 s l) (hl : LitsOk v l) (hL : ∀ x ∈ L, 0 ≤ x ∧ x < v) (hLl : L.length ≤ v) {q1 q2 q3 : Sl}
    {n : Nat} {V : List Int} {H : AH} (hn : n < 2 ^ L.length) (hVl : V.length = v) (hVb : ∀ x ∈ V, x = 0 ∨ x = 1) (hVo : ∀ i : Nat, (i : Int) ∉ L → V[i]? = (List.replicate v (0 : Int))[i]?)
    (hF : Fr H0 H [(sV, V), (sI, idxF (List.replicate L.length 2) n), (a, L), (b, List.replicate L.length 2), (c, (elsN (elemF r v l L) (zeroR r) (2 ^ L.length) n).flatten), (sL, L)]) :
    ∃ H' V', R (.loop F.iclauseTensor 1) [ssc s, ssc sL, ssc sI, ssc sV, r.pv, tpv q1 q2 q3, tpv a b c] H = cond (decide (n + 1 < 2 ^ L.length)) (R (.loop F.iclauseTensor 1) [ssc s, ssc sL, ssc sI, ssc sV, r.pv, tpv q1 q2 q3, tpv a b c] H') (some ⟨1, [tpv a b c], H'⟩) ∧
      V'.length = v ∧ (∀ x ∈ V', x = 0 ∨ x = 1) ∧ (∀ i : Nat, (i : Int) ∉ L → V'[i]? = (List.replicate v (0 : Int))[i]?) ∧
      Fr H0 H' [(sV, V'), (sI, idxF (List.replicate L.length 2) ((n + 1 : Nat) : Int)), (a, L), (b, List.replicate L.length 2), (c, (elsN (elemF r v l L) (zeroR r) (2 ^ L.length) (n + 1)).flatten), (sL, L)] := by
  have hw := width_range hr
  have hwn : widthR r = ((widthR r).toNat : Int) := by omega
  have hN10 : 2 ^ L.length ≤ 2 ^ 10 := Nat.pow_le_pow_right (by omega) (by omega)
  have htw := twos_ok (k := L.length) (by omega)
  have hprd := prd_twos L.length
  generalize hD : List.replicate L.length (2 : Int) = D at *
  have hDl : D.length = L.length := by rw [← hD]; simp
  have hIl : (idxF D (n : Int)).length = L.length := by rw [idxF_len, hDl]
  have hbit : ∀ m : Int, ∀ x ∈ idxF D m, x = 0 ∨ x = 1 := fun m => by rw [← hD]; exact bits_twos
  -- the values
  have hvI := hF.own (s := sI) (l := idxF D n) (by simp)
  have hvV := hF.own (s := sV) (l := V) (by simp)
  have hvL := hF.own (s := sL) (l := L) (by simp)
  obtain ⟨H1, e1, m1⟩ := c_iclauseTensor_2 hvI.is hvL.is hvV (by rw [hIl]) (fun x hx => by rw [hVl]; exact hL x hx)
    (fun h1 h2 => Ne.symm (row_ne hF.rows (xs := []) (ys := []) (p := (sV, V)) (q := (sI, idxF D n)) rfl h2 h1))
    (fun h1 h2 => Ne.symm (row_ne hF.rows (xs := []) (ys := [_, _, _, _]) (zs := []) (p := (sV, V)) (q := (sL, L)) rfl h2 h1)) (by omega)
  have F1 := hF.mut [] m1 (fun e => List.length_eq_zero_iff.1 (by rw [setV_len, e]; rfl))
  generalize hV' : setV V (L.zip (idxF D n)) = V' at *
  have hV'l : V'.length = v := by rw [← hV', setV_len, hVl]
  have hV'b : ∀ x ∈ V', x = 0 ∨ x = 1 := by rw [← hV']; exact vals_bits hVb (hbit n)
  have hV'o : ∀ i : Nat, (i : Int) ∉ L → V'[i]? = (List.replicate v (0 : Int))[i]? := fun i hi => by rw [← hV', setV_get_off L _ V i (fun x hx => (hL x hx).1) hi]; exact hVo i hi
  have hV'v : V' = valsF v L (idxF D n) := by
    rw [← hV']
    exact setV_off L _ V _ (by rw [hIl]) (by simp [hVl]) (fun x hx => (hL x hx).1) hVo
  have hct := c_iclauseTrue (hs.le F1.le) (F1.is (s := sV) (l := V') (by simp)) ⟨hV'b, fun x hx => by rw [hV'l]; exact hl.2 x hx, by omega, hl.1⟩
  have hwl : (zeroR r).length = (widthR r).toNat := zeroR_len r
  have huni := elsN_uni (f := elemF r v l L) (z := zeroR r) (w := (widthR r).toNat) (N := 2 ^ L.length) (n := n) (fun j => elemF_len v l L j) hwl
  have hlen := elsN_len (elemF r v l L) (zeroR r) (2 ^ L.length) n
  have hN6 : 2 ^ L.length * (widthR r).toNat ≤ 1024 * 6 := Nat.mul_le_mul hN10 (by omega)
  -- the element
  have step2 : ∃ H2, (((R (.fn F.iclauseTrue) [ssc s, ssc sV] H1).bind fun r45 => (oneP r45.vs).bind fun p46 => p46.sc?.bind fun c47 => (boolAt [c47] 0).bind fun b48 =>
      cond b48
      ((R (.fn F.ioffsetIn) [ssc b, ssc sI] r45.H).bind fun r49 => (oneP r49.vs).bind fun p50 => p50.sc?.bind fun c51 => (intAt .i64 [c51] 0).bind fun n52 =>
       (R (.fn F.irawElem) [r.pv, tpv a b c, isc n52] r49.H).bind fun r53 => (oneP r53.vs).bind fun p54 => p54.sc?.bind fun c55 => (slAt [c55] 0).bind fun s56 =>
       (R (.fn F.irawOne) [r.pv] r53.H).bind fun r57 => (oneP r57.vs).bind fun p58 => p58.sc?.bind fun c59 => (slAt [c59] 0).bind fun s60 =>
       (cpB r57.H 1 s56 s60).bind fun m61 => some ⟨0, [], m61.2⟩)
      (some ⟨0, [], r45.H⟩)) : Option Out) = some ⟨0, [], H2⟩ ∧
      Fr H0 H2 [(sV, V'), (sI, idxF D (n : Int)), (a, L), (b, D), (c, (elsN (elemF r v l L) (zeroR r) (2 ^ L.length) (n + 1)).flatten), (sL, L)] := by
    rw [hct]
    simp only [Option.bind_some, one_bool]
    by_cases hc : l.any (litT V') = true
    · have hel : elemF r v l L n = oneR r := by unfold elemF; rw [hD, ← hV'v, if_pos hc]
      have hfit : fitsI D (idxF D n) := idxF_fits htw.ge
      have hoff := c_ioffsetIn (F1.is (s := b) (l := D) (by simp)) (F1.is (s := sI) (l := idxF D n) (by simp)) hfit (by omega) htw.ge (by rw [hprd]; omega)
      rw [offF_idx htw.ge (by omega) (by rw [hprd]; omega)] at hoff
      have hcO := F1.own (s := c) (l := (elsN (elemF r v l L) (zeroR r) (2 ^ L.length) n).flatten) (by simp)
      have hcc : c.c = 2 ^ L.length * (widthR r).toNat := by rw [hcO.c, uni_len huni, hlen]
      have hre := c_irawElem (r := r) (H := H1) (a := a) (b := b) (c := c) (n := n) hwn (by rw [hcc]; exact Nat.mul_le_mul_right _ (by omega)) (by omega) (by omega)
      obtain ⟨s60, H2, e2, n2⟩ := c_irawOne hr H1
      have F2 := F1.ext n2.le
      obtain ⟨H3, e3, m3⟩ := m_cp (w := (widthR r).toNat) (n := n) (v := oneR r) (by omega) huni (by rw [hlen]; exact hn) (oneR_len r) (F2.own (s := c) (l := (elsN (elemF r v l L) (zeroR r) (2 ^ L.length) n).flatten) (by simp)) n2.own.is
      refine ⟨H3, ?_, ?_⟩
      · rw [hc, cond_true, hoff]
        simp only [Option.bind_some, one_int]
        rw [hre]
        simp only [Option.bind_some, one_sl]
        rw [e2]
        simp only [Option.bind_some, one_sl]
        rw [e3]
        rfl
      · have F3 := F2.mut [(sV, V'), (sI, idxF D (n : Int)), (a, L), (b, D)] m3 (fun e => by
          have := congrArg List.length e
          rw [uni_len huni, hlen] at this
          have : 0 < 2 ^ L.length * (widthR r).toNat := Nat.mul_pos (by omega) (by omega)
          simp at *; omega)
        rw [← hel, elsN_set _ _ hn] at F3
        exact F3
    · have hc' : l.any (litT V') = false := Bool.eq_false_iff.2 hc
      have hel : elemF r v l L n = zeroR r := by unfold elemF; rw [hD, ← hV'v, if_neg hc]
      refine ⟨H1, by rw [hc']; rfl, ?_⟩
      rw [elsN_skip hel]
      exact F1
  obtain ⟨H2, e2, F2⟩ := step2
  -- the next index
  have hIo := F2.own (s := sI) (l := idxF D n) (by simp)
  have hDo := F2.own (s := b) (l := D) (by simp)
  obtain ⟨H3, e3, m3⟩ := m_inextIndex hDo.is (by omega) hIo (fun hne => Ne.symm (row_ne F2.rows (xs := [(sV, V')]) (ys := [(a, L)]) (zs := [_, _]) (p := (sI, idxF D n)) (q := (b, D)) rfl (fun e => hne (List.length_eq_zero_iff.1 (by rw [hDl, ← hIl, show idxF D (n : Int) = [] from e]; rfl))) hne)) (by rw [hIl, hDl]) (fun x hx => by have := hbit n x hx; omega)
  have hnx := nextF_idx (D := D) (n := n) htw.ge (by omega) (by rw [hprd]; omega)
  rw [hnx] at e3 m3
  have hcast : ((n : Int) + 1) = ((n + 1 : Nat) : Int) := by omega
  have F3 := F2.mut [(sV, V')] m3 (fun e => List.length_eq_zero_iff.1 (by rw [idxF_len, ← idxF_len D (n : Int), e]; rfl))
  refine ⟨H3, V', ?_, hV'l, hV'b, hV'o, ?_⟩
  · rw [R_eq, e_iclauseTensor_1, hvL.n, e1]
    simp only [Option.bind_some, Nat.beq, cond_true]
    have hdec : decide ((n : Int) + 1 < prd D) = decide (n + 1 < 2 ^ L.length) := by rw [hprd]; exact decide_eq_decide.2 (by omega)
    rw [e2]
    simp only [Option.bind_some, Nat.beq, cond_true]
    rw [e3]
    simp only [Option.bind_some, one_bool, hdec]
    cases decide (n + 1 < 2 ^ L.length) <;> rfl
  · rw [← hcast]; exact F3

theorem c_iclauseTensor_1 {r : Rg} (hr : ringB r = true) {H0 : AH} {v : Nat} {s sL sI sV a b c : Sl} {l L : List Int} (hv : v ≤ 10) (hs : IS H0 s l) (hl : LitsOk v l) (hL : ∀ x ∈ L, 0 ≤ x ∧ x < v) (hLl : L.length ≤ v) {q1 q2 q3 : Sl} :
    ∀ (k n : Nat) (V : List Int) (H : AH), n + k + 1 = 2 ^ L.length → V.length = v → (∀ x ∈ V, x = 0 ∨ x = 1) → (∀ i : Nat, (i : Int) ∉ L → V[i]? = (List.replicate v (0 : Int))[i]?) →
      Fr H0 H [(sV, V), (sI, idxF (List.replicate L.length 2) n), (a, L), (b, List.replicate L.length 2), (c, (elsN (elemF r v l L) (zeroR r) (2 ^ L.length) n).flatten), (sL, L)] →
      ∃ H', R (.loop F.iclauseTensor 1) [ssc s, ssc sL, ssc sI, ssc sV, r.pv, tpv q1 q2 q3, tpv a b c] H = some ⟨1, [tpv a b c], H'⟩ ∧ Fr H0 H' [(a, L), (b, List.replicate L.length 2), (c, ((List.range (2 ^ L.length)).map (elemF r v l L)).flatten)] := by
  intro k
  induction k with
  | zero =>
    intro n V H hn hVl hVb hVo hF
    obtain ⟨H', V', e, _, _, _, F'⟩ := c_iclauseTensor_1s hr hv hs hl hL hLl (by omega) hVl hVb hVo hF (q1 := q1) (q2 := q2) (q3 := q3)
    have : decide (n + 1 < 2 ^ L.length) = false := decide_eq_false (by omega)
    rw [this, cond_false] at e
    have hn' : n + 1 = 2 ^ L.length := by omega
    rw [hn', elsN_all] at F'
    exact ⟨H', e, F'.sub (by simp)⟩
  | succ k ih =>
    intro n V H hn hVl hVb hVo hF
    obtain ⟨H1, V', e, g1, g2, g3, F'⟩ := c_iclauseTensor_1s hr hv hs hl hL hLl (by omega) hVl hVb hVo hF (q1 := q1) (q2 := q2) (q3 := q3)
    have : decide (n + 1 < 2 ^ L.length) = true := decide_eq_true (by omega)
    rw [this, cond_true] at e
    obtain ⟨H', e', F2⟩ := ih (n + 1) V' H1 (by omega) g1 g2 g3 F'
    exact ⟨H', e.trans e', F2⟩

/-- impl.clauseTensor -/
theorem c_iclauseTensor {r : Rg} (hr : ringB r = true) {H : AH} {v : Nat} {w : Int} {s s0 : Sl} {l : List Int} (hv : v ≤ 10) (hw : w = (v : Int)) (hs : IS H s l) (hl : LitsOk v l) :
    ∃ a b c H', R (.fn F.iclauseTensor) [r.pv, cpv w s0, ssc s] H = some ⟨1, [tpv a b c], H'⟩ ∧ NewT H H' a b c (clauseT r v l) := by
  have hwd := width_range hr
  obtain ⟨sL, H1, e1, o1, l1⟩ := c_iclauseTensor_0 (s0 := s0) hv hw hs hl.1
  have hLl := labelsF_len v l
  have F1 := (Fr.start H).new l1 o1
  have e2 := c_itwos (labelsF v l).length (by omega) H1
  have F2 := F1.newN (new_app H1 (List.replicate (labelsF v l).length 2))
  obtain ⟨sz, H3, e3, n3⟩ := c_irawZero hr (H1 ++ [⟨ics (List.replicate (labelsF v l).length 2), .rw, 1⟩])
  have F3 := F2.newN n3
  have htw := twos_ok (k := (labelsF v l).length) (by omega)
  obtain ⟨a, b, c, H4, e4, t4⟩ := c_ifillTensor (r := r) (F3.is (s := sL) (l := labelsF v l) (by simp)) (F3.is (s := rowAt H1.length (List.replicate (labelsF v l).length 2)) (l := List.replicate (labelsF v l).length 2) (by simp)) (F3.is (s := sz) (l := zeroR r) (by simp)) (by omega) htw (w := (widthR r).toNat) (by omega) (by omega) (zeroR_len r)
  have F4 := (F3.newT t4).mk0 (labelsF v l).length
  have F5 := F4.mk0 v
  have hpn : (prd (List.replicate (labelsF v l).length 2)).toNat = 2 ^ (labelsF v l).length := by rw [prd_twos, Int.toNat_natCast]
  rw [hpn, ← elsN_zero (elemF r v l (labelsF v l))] at F5
  have hpos : 0 < 2 ^ (labelsF v l).length := Nat.pow_pos (by omega)
  have hz0 : idxF (List.replicate (labelsF v l).length 2) ((0 : Nat) : Int) = List.replicate (labelsF v l).length 0 := by
    have := idxF_zero (List.replicate (labelsF v l).length 2)
    rw [List.length_replicate] at this
    exact this
  rw [← hz0] at F5
  obtain ⟨H6, e6, F6⟩ := c_iclauseTensor_1 hr (s := s) (L := labelsF v l) hv hs hl (fun x hx => labelsF_mem hx) hLl (q1 := ⟨0, 0, 0, 0, true⟩) (q2 := ⟨0, 0, 0, 0, true⟩) (q3 := ⟨0, 0, 0, 0, true⟩) (2 ^ (labelsF v l).length - 1) 0 (List.replicate v 0) _ (by omega) (by simp) (fun x hx => .inl (List.mem_replicate.1 hx).2) (fun _ _ => rfl)
    (F5.sub (.cons₂ _ (.cons₂ _ (.cons₂ _ (.cons₂ _ (.cons₂ _ (.cons _ (.cons _ (.cons₂ _ .slnil)))))))))
  rw [hz0] at e6
  refine ⟨a, b, c, H6, ?_, ⟨F6.le, F6.rows⟩⟩
  subst hw
  rw [R_eq, e_iclauseTensor, e1]
  simp only [Option.bind_some, Nat.beq, cond_true, nth_sl]
  rw [o1.n, e2]
  simp only [Option.bind_some, one_sl]
  rw [e3]
  simp only [Option.bind_some, one_sl]
  rw [e4]
  simp only [Option.bind_some, oneP, PV.agg?, List.length_cons, List.length_nil, decide_true, cond_true, slAt, List.getElem?_cons_zero, List.getElem?_cons_succ]
  rw [mk_ints (by omega)]
  simp only [Option.bind_some]
  rw [mk_ints (by omega)]
  simp only [Option.bind_some]
  rw [e6]
  rfl
end Go.Abs
/- Words: a row of tensors of its own that grows. -/
namespace Go.Abs
set_option linter.unusedVariables false
set_option linter.unusedSimpArgs false

structure OOut (n0 : Nat) (H : AH) (s : Sl) (xs : List Tri) : Prop where
  o : s.o = 0
  n : s.n = xs.length
  c : s.c = xs.length
  blk : (xs = [] ∧ s.x = true) ∨ (xs ≠ [] ∧ n0 ≤ s.b ∧ H[s.b]? = some ⟨triC xs, .rw, 3⟩)
theorem OOut.outer {n0 : Nat} {H : AH} {s : Sl} {xs : List Tri} (h : OOut n0 H s xs) : Outer H s xs :=
  ⟨h.o, h.n, by rw [h.n, h.c]; exact Nat.le_refl _, by
    rcases h.blk with ⟨e, _⟩ | ⟨_, _, e⟩
    · exact .inl e
    · exact .inr ⟨.rw, triC xs, e, .inr rfl, fun i v h => h⟩⟩
theorem OOut.nil (n0 : Nat) (H : AH) (b : Nat) : OOut n0 H ⟨b, 0, 0, 0, true⟩ [] := ⟨rfl, rfl, rfl, .inl ⟨rfl, rfl⟩⟩
theorem OOut.keep {n0 : Nat} {H H' : AH} {s : Sl} {xs : List Tri} (h : OOut n0 H s xs) (hb : xs ≠ [] → H'[s.b]? = H[s.b]?) : OOut n0 H' s xs :=
  ⟨h.o, h.n, h.c, h.blk.imp id fun ⟨h1, h2, h3⟩ => ⟨h1, h2, (hb h1).trans h3⟩⟩
theorem OOut.lt {n0 : Nat} {H : AH} {s : Sl} {xs : List Tri} (h : OOut n0 H s xs) (hx : xs ≠ []) : s.b < H.length := by
  rcases h.blk with ⟨e, _⟩ | ⟨_, _, e⟩
  · exact absurd e hx
  · exact (List.getElem?_eq_some_iff.1 e).1
theorem OOut.le {n0 : Nat} {H H' : AH} {s : Sl} {xs : List Tri} (h : OOut n0 H s xs) (hb : Le H H') : OOut n0 H' s xs := h.keep fun hx => hb.get _ (h.lt hx)
theorem triC_app : ∀ (xs ys : List Tri), triC (xs ++ ys) = triC xs ++ triC ys
  | [], ys => rfl
  | x :: xs, ys => by simp [triC, triC_app xs ys]
theorem OOut.ne {n0 n1 : Nat} {H : AH} {s u : Sl} {xs : List Tri} {l : List Int} (h : OOut n0 H s xs) (hx : xs ≠ []) (ho : Own n1 H u l) (hl : l ≠ []) : u.b ≠ s.b := fun e => by
  have h1 := ho.blk' hl
  rcases h.blk with ⟨e', _⟩ | ⟨_, _, h2⟩
  · exact absurd e' hx
  · rw [e, h2] at h1; simp at h1

/-- A tensor is put at the end of a row of tensors. -/
theorem outer_push {H0 H : AH} {rs : List Row} {s : Sl} {xs : List Tri} (hF : Fr H0 H rs) (hO : OOut H0.length H s xs) (hl : xs.length ≤ 1048576) (a b c : Sl) :
    ∃ s' H', appB H 3 72 s [.sl a, .sl b, .sl c] 1 = some (s', H') ∧ Fr H0 H' rs ∧ OOut H0.length H' s' (xs ++ [(a, b, c)]) ∧ H.length ≤ H'.length ∧ (∀ d, d < H.length → (d ≠ s.b ∨ xs = []) → H'[d]? = H[d]?) := by
  have hlen := hF.le.len
  have hm : (s.n + 1) * 72 ≤ most := by rw [hO.n]; unfold most; omega
  have htri : triC (xs ++ [(a, b, c)]) = triC xs ++ [.sl a, .sl b, .sl c] := by rw [triC_app]; rfl
  have hrng : rng H s.b s.o (s.n * 3) = some (triC xs) := by
    unfold rng
    rcases hO.blk with ⟨e, _⟩ | ⟨e, _, h2⟩
    · subst e; rw [if_pos (by rw [hO.n]; rfl)]; rfl
    · have : xs.length ≠ 0 := fun h => e (List.length_eq_zero_iff.1 h)
      rw [if_neg (by rw [hO.n]; omega)]
      have hr : rdB H s.b = some (triC xs) := by unfold rdB; rw [h2]; rfl
      rw [hr]
      simp only [Option.bind_some]
      rw [if_pos (by rw [hO.o, hO.n, triC_len]; omega), hO.o, hO.n]
      simp only [List.drop_zero]
      rw [List.take_of_length_le (by rw [triC_len]; exact Nat.le_refl _)]
  unfold appB
  rw [if_neg (by rw [hO.n, hO.c]; omega), if_pos ⟨by omega, by omega, hm⟩, hrng]
  simp only [Option.bind_some]
  by_cases hx : s.x = true
  · simp only [hx]
    have hle := Le.app H [⟨triC xs ++ [.sl a, .sl b, .sl c], .rw, 3⟩]
    refine ⟨_, _, rfl, hF.ext hle, ⟨rfl, by simp [hO.n], by simp [hO.n], .inr ⟨by simp, hlen, by rw [htri]; simp⟩⟩, by simp, fun d hd _ => hle.get d hd⟩
  · have hx' : s.x = false := by cases e : s.x <;> simp_all
    simp only [hx']
    have hb : xs ≠ [] ∧ H0.length ≤ s.b ∧ H[s.b]? = some ⟨triC xs, .rw, 3⟩ := by
      rcases hO.blk with ⟨_, e⟩ | h
      · exact absurd e hx
      · exact h
    have hrw : rwB H s.b 3 = some (triC xs) := by unfold rwB; rw [hb.2.2]; rfl
    simp only [hrw, Option.bind_some]
    have hk : (killB H s.b).length = H.length := by simp [killB]
    have hget : ∀ d, d < H.length → d ≠ s.b → (killB H s.b ++ [(⟨triC xs ++ [.sl a, .sl b, .sl c], .rw, 3⟩ : Blk)])[d]? = H[d]? := fun d hd hne => by
      rw [List.getElem?_append_left (by omega)]
      unfold killB
      rw [List.getElem?_modify]
      have : ¬ s.b = d := fun e => hne e.symm
      simp [this]
    refine ⟨_, _, rfl, ⟨⟨by simp [hk]; omega, fun d hd => (hget d (by omega) (by omega)).trans (hF.le.get d hd)⟩, hF.rows.frame fun p hp hne => hget _ (hF.rows.lt p hp hne) (hO.ne hb.1 (hF.rows.own p hp) hne)⟩, ⟨rfl, by simp [hO.n], by simp [hO.n], .inr ⟨by simp, hlen, ?_⟩⟩, by simp [hk], fun d hd h => ?_⟩
    · rw [htri]
      have : H.length = (killB H s.b).length := hk.symm
      show (killB H s.b ++ _)[H.length]? = _
      rw [this]; simp
    · rcases h with h | h
      · exact hget d hd h
      · exact absurd h hb.1
theorem rng_new {H : AH} {b : Nat} {cs : List Sc} {z : Nat} (h : H[b]? = some ⟨cs, .rw, z⟩) {m : Nat} (hm : m = cs.length) (h0 : m ≠ 0) : rng H b 0 m = some cs := by
  unfold rng
  rw [if_neg h0]
  have hr : rdB H b = some cs := by unfold rdB; rw [h]; rfl
  rw [hr]
  simp only [Option.bind_some, List.drop_zero]
  rw [if_pos (by omega), List.take_of_length_le (by omega)]
theorem triv_bs {H : AH} {b1 b2 z : Nat} {k1 k2 : Blk} (h1 : H[b1]? = some k1) (h2 : H[b2]? = some k2) (hne : k1 ≠ k2) : b1 ≠ b2 := fun e => by
  subst e; rw [h1] at h2; cases h2; exact hne rfl
/-- What a place is that was kept free for a value. -/
theorem newAt_ok {H : AH} {i z : Nat} {cs : List Sc} (h : H[i]? = some resB) (hz : z ≠ 0) : newAt H i z cs = some (i, H.set i ⟨cs, .rw, z⟩) := by
  unfold newAt
  have : isRes H i = true := by unfold isRes; rw [h]; rfl
  rw [if_pos ⟨this, hz⟩]
theorem reserve1 (H : AH) : reserve H 1 = H ++ [resB] := rfl

/-- The call that makes a tensor, kept apart in a place of its own, and the row that takes it. -/
theorem push_tensor {H0 H H1 : AH} {rs : List Row} {s a b c : Sl} {xs : List Tri} {t : Tn} (hF : Fr H0 H rs) (hO : OOut H0.length H s xs) (hl : xs.length ≤ 1048576) (ht : NewT (H ++ [resB]) H1 a b c t) :
    ∃ s' H', (∀ {α : Type} (k : Sl × AH → Option α), ((newAt H1 (H.length + 0) 3 [.sl a, .sl b, .sl c]).bind fun h => (rng h.2 h.1 0 (1 * 3)).bind fun l => (appB h.2 3 72 s l 1).bind k) = k (s', H')) ∧
      Fr H0 H' (rows3 a b c t ++ rs) ∧ OOut H0.length H' s' (xs ++ [(a, b, c)]) ∧ H.length ≤ H'.length ∧ (∀ d, d < H.length → (d ≠ s.b ∨ xs = []) → H'[d]? = H[d]?) := by
  have hle := (Le.app H [resB]).trans ht.le
  have hres : H1[H.length]? = some resB := by rw [ht.le.get _ (by simp)]; simp
  have F1 : Fr H0 H1 (rows3 a b c t ++ rs) := by
    have := (hF.ext (Le.app H [resB])).newT ht
    exact this
  have hl1 : H.length < H1.length := by have := ht.le.len; simp at this; omega
  have hset : ∀ d, d ≠ H.length → (H1.set H.length ⟨[.sl a, .sl b, .sl c], .rw, 3⟩)[d]? = H1[d]? := fun d hd => List.getElem?_set_ne (Ne.symm hd)
  have hlt : H0.length ≤ H.length := hF.le.len
  have F2 : Fr H0 (H1.set H.length ⟨[.sl a, .sl b, .sl c], .rw, 3⟩) (rows3 a b c t ++ rs) := ⟨F1.le.set hlt, F1.rows.frame fun p hp hne => hset _ fun e => by
    have := (F1.rows.own p hp).blk' hne
    rw [e, hres] at this; simp [resB] at this⟩
  have hO1 := hO.le hle
  have hO2 : OOut H0.length (H1.set H.length ⟨[.sl a, .sl b, .sl c], .rw, 3⟩) s xs := hO1.keep fun hx => hset _ (by have := hO.lt hx; omega)
  obtain ⟨s', H', e, F3, O3, l3, f3⟩ := outer_push F2 hO2 hl a b c
  refine ⟨s', H', fun k => ?_, F3, O3, by simp at l3; omega, fun d hd h => ?_⟩
  · rw [Nat.add_zero, newAt_ok hres (by omega)]
    simp only [Option.bind_some]
    rw [rng_new (cs := [.sl a, .sl b, .sl c]) (z := 3) (m := 1 * 3) (by simp [hl1]) rfl (by omega)]
    simp only [Option.bind_some]
    rw [e]; rfl
  · rw [f3 d (by simp; omega) h, hset d (by omega), hle.get d hd]
/-- The same where the place is laid out after the call. -/
theorem push_tensor' {H0 H : AH} {rs : List Row} {s a b c : Sl} {xs : List Tri} (hF : Fr H0 H rs) (hO : OOut H0.length H s xs) (hl : xs.length ≤ 1048576) :
    ∃ s' H', (∀ {α : Type} (k : Sl × AH → Option α), ((newB H 3 [.sl a, .sl b, .sl c]).bind fun h => (rng h.2 h.1 0 (1 * 3)).bind fun l => (appB h.2 3 72 s l 1).bind k) = k (s', H')) ∧
      Fr H0 H' rs ∧ OOut H0.length H' s' (xs ++ [(a, b, c)]) ∧ H.length ≤ H'.length ∧ (∀ d, d < H.length → (d ≠ s.b ∨ xs = []) → H'[d]? = H[d]?) := by
  have hle := Le.app H [⟨[.sl a, .sl b, .sl c], .rw, 3⟩]
  obtain ⟨s', H', e, F3, O3, l3, f3⟩ := outer_push (hF.ext hle) (hO.le hle) hl a b c
  refine ⟨s', H', fun k => ?_, F3, O3, by simp at l3; omega, fun d hd h => ?_⟩
  · have hnb : newB H 3 [.sl a, .sl b, .sl c] = some (H.length, H ++ [⟨[.sl a, .sl b, .sl c], .rw, 3⟩]) := rfl
    rw [hnb]
    simp only [Option.bind_some]
    rw [rng_new (cs := [.sl a, .sl b, .sl c]) (z := 3) (m := 1 * 3) (by simp) rfl (by omega)]
    simp only [Option.bind_some]
    rw [e]; rfl
  · rw [f3 d (by simp; omega) h, hle.get d hd]
theorem rowsT_snoc : ∀ {xs : List Tri} {ts : List Tn} (x : Tri) (t : Tn), xs.length = ts.length → rowsT (xs ++ [x]) (ts ++ [t]) = rowsT xs ts ++ rows3 x.1 x.2.1 x.2.2 t
  | [], [], x, t, _ => by simp [rowsT]
  | y :: xs, u :: ts, x, t, h => by simp [rowsT, rowsT_snoc x t (show xs.length = ts.length by simpa using h)]
  | [], _ :: _, _, _, h => by simp at h
  | _ :: _, [], _, _, h => by simp at h
theorem Fr.snocT {H0 H : AH} {a b c : Sl} {t : Tn} {xs : List Tri} {ts : List Tn} {rs : List Row} (h : Fr H0 H (rows3 a b c t ++ (rowsT xs ts ++ rs))) (hl : xs.length = ts.length) : Fr H0 H (rowsT (xs ++ [(a, b, c)]) (ts ++ [t]) ++ rs) := by
  rw [rowsT_snoc _ _ hl]
  refine h.perm ?_
  rw [← List.append_assoc]
  exact List.perm_append_comm.append_right rs
/-- Such a row reads as its tensors. -/
theorem t3_of {H : AH} {s : Sl} {xs : List Tri} {ts : List Tn} (hO : Outer H s xs) (hl : xs.length = ts.length) (hr : ∀ p ∈ rowsT xs ts, IS H p.1 p.2) : T3 H s ts := by
  refine ⟨by rw [hO.n, hl], hO.c, ?_⟩
  rcases hO.blk with e | ⟨st, cells, hb, hst, hc⟩
  · subst e; exact .inl (List.length_eq_zero_iff.1 hl.symm)
  · refine .inr ⟨cells, ?_, fun i t hi => ?_⟩
    · unfold rdB
      rw [hb]
      rcases hst with rfl | rfl <;> rfl
    · have hi1 := (List.getElem?_eq_some_iff.1 hi).1
      have hx : xs[i]? = some xs[i] := List.getElem?_eq_getElem (by omega)
      obtain ⟨t1, t2, t3⟩ := triC_at xs i _ hx
      have key : ∀ (xs : List Tri) (ts : List Tn) (i : Nat) x t, xs[i]? = some x → ts[i]? = some t → ∀ p ∈ rows3 x.1 x.2.1 x.2.2 t, p ∈ rowsT xs ts := by
        intro xs
        induction xs with
        | nil => intro ts i x t h; simp at h
        | cons y xs ih =>
          intro ts i x t h1 h2 p hp
          cases ts with
          | nil => simp at h2
          | cons u ts =>
            cases i with
            | zero => simp at h1 h2; subst h1; subst h2; simp only [rowsT, List.mem_append]; exact .inl hp
            | succ i => simp only [rowsT, List.mem_append]; exact .inr (ih ts i x t (by simpa using h1) (by simpa using h2) p hp)
      have hk := key xs ts i _ t hx hi
      rw [hO.o, Nat.zero_add]
      exact ⟨_, _, _, hc _ _ t1, hc _ _ t2, hc _ _ t3, ⟨hr (_, t.L) (hk _ (by simp)), hr (_, t.D) (hk _ (by simp)), hr (_, t.X) (hk _ (by simp))⟩⟩
end Go.Abs
/- Contracts: a formula's network (impl). -/
namespace Go.Abs
set_option linter.unusedVariables false
set_option linter.unusedSimpArgs false

def bcs (l : List Bool) : List Sc := l.map Sc.bool
/-- Does a variable stand in a clause? -/
def usedB (ll : List (List Int)) (i : Nat) : Bool := ll.any fun l => l.any fun x => x.natAbs == i + 1
def pairT (r : Rg) (i : Nat) : Tn := ⟨[(i : Int)], [2], oneR r ++ oneR r⟩
def pairsF (r : Rg) (v : Nat) (ll : List (List Int)) : List Tn := ((List.range v).filter fun i => !usedB ll i).map (pairT r)
def formT (r : Rg) (v : Nat) (ll : List (List Int)) : List Tn := ll.map (clauseT r v) ++ pairsF r v ll

theorem take_snoc_any {α : Type} {l : List α} {i : Nat} (h : i < l.length) : l.take (i + 1) = l.take i ++ [l[i]] := by rw [List.take_succ_eq_append_getElem h]
theorem bool_put {H : AH} {b n : Nat} {x : Bool} {cs : List Bool} (hb : H[b]? = some ⟨bcs cs, .rw, 1⟩) {i : Nat} (hi : i < n) (hc : i < cs.length) (v : Bool) {α : Type} (k : AH → Option α) :
    ((ixA ⟨b, 0, n, n, x⟩ (i : Int) 1).bind fun o => (putR H b o [.bool v]).bind k) = k (H.set b ⟨bcs (cs.set i v), .rw, 1⟩) := by
  rw [ixA_nat (by exact hi)]
  simp only [Option.bind_some, Nat.zero_add, Nat.mul_one]
  rw [putR_one hb (by simpa [bcs] using hc)]
  simp only [Option.bind_some, bcs, List.map_set]
theorem bool_ld {H : AH} {b n : Nat} {x : Bool} {cs : List Bool} (hb : H[b]? = some ⟨bcs cs, .rw, 1⟩) {i : Nat} (hi : i < n) (hc : i < cs.length) {α : Type} (k : Bool → Option α) :
    ((ixA ⟨b, 0, n, n, x⟩ (i : Int) 1).bind fun o => (rdB H b).bind fun q => (boolAt q o).bind k) = k cs[i] := by
  rw [ixA_nat (by exact hi)]
  have hr : rdB H b = some (bcs cs) := by unfold rdB; rw [hb]; rfl
  have hg : boolAt (bcs cs) (0 + i * 1) = some cs[i] := by
    unfold boolAt bcs
    simp [hc]
  simp only [Option.bind_some, hr, hg]

/-- The marks of a clause's variables. -/
def markC (cs : List Bool) (l : List Int) : List Bool := l.foldl (fun c x => c.set (x.natAbs - 1) true) cs
theorem markC_len : ∀ (l : List Int) (cs : List Bool), (markC cs l).length = cs.length
  | [], cs => rfl
  | x :: l, cs => by show (markC (cs.set _ _) l).length = _; rw [markC_len l]; simp
theorem markC_get : ∀ (l : List Int) (cs : List Bool) (i : Nat), (∀ x ∈ l, x ≠ 0 ∧ x.natAbs ≤ cs.length) → i < cs.length → (markC cs l)[i]? = some ((cs[i]?.getD false) || l.any fun x => x.natAbs == i + 1)
  | [], cs, i, _, hi => by simp [markC, hi]
  | x :: l, cs, i, h, hi => by
    have hx := h x List.mem_cons_self
    show (markC (cs.set _ _) l)[i]? = _
    rw [markC_get l _ i (fun y hy => by simpa using h y (List.mem_cons_of_mem _ hy)) (by simpa using hi), List.getElem?_set]
    simp only [List.any_cons]
    by_cases e : x.natAbs - 1 = i
    · have e2 : (x.natAbs == i + 1) = true := by simp; omega
      rw [if_pos e, if_pos (by omega), e2]; simp
    · have e2 : (x.natAbs == i + 1) = false := by simp; omega
      rw [if_neg e, e2]; simp
theorem markC_used {v : Nat} {pre : List (List Int)} {l : List Int} (h : ∀ x ∈ l, x ≠ 0 ∧ x.natAbs ≤ v) : markC ((List.range v).map (usedB pre)) l = (List.range v).map (usedB (pre ++ [l])) := by
  refine List.ext_getElem? fun i => ?_
  by_cases hi : i < v
  · rw [markC_get l _ i (by simpa using h) (by simpa using hi)]
    simp [hi, usedB]
  · rw [List.getElem?_eq_none (by rw [markC_len]; simp; omega), List.getElem?_eq_none (by simp; omega)]

/-- impl.FormulaNetwork: the marks -/
theorem c_iFormulaNetwork_1 {H : AH} {bu v : Nat} {s : Sl} {l : List Int} {cs : List Bool} (hb : H[bu]? = some ⟨bcs cs, .rw, 1⟩) (hc : cs.length = v) (hv : v ≤ 10) (hs : IS H s l) (hsb : l ≠ [] → s.b ≠ bu) (hl : LitsOk v l) :
    R (.loop F.iFormulaNetwork 1) [ssc ⟨bu, 0, v, v, true⟩, ssc s, isc (l.length : Int), isc 0] H = some ⟨4, [], H.set bu ⟨bcs (markC cs l), .rw, 1⟩⟩ := by
  have key : ∀ k i, i + k = l.length → R (.loop F.iFormulaNetwork 1) [ssc ⟨bu, 0, v, v, true⟩, ssc s, isc (l.length : Int), isc (i : Int)] (H.set bu ⟨bcs (markC cs (l.take i)), .rw, 1⟩) = some ⟨4, [], H.set bu ⟨bcs (markC cs l), .rw, 1⟩⟩ := by
    intro k
    induction k with
    | zero =>
      intro i hi
      obtain rfl : i = l.length := by omega
      rw [List.take_of_length_le (Nat.le_refl _), R_eq, e_iFormulaNetwork_1, lt_self]; rfl
    | succ k ih =>
      intro i hi
      have hlt : i < l.length := by omega
      have hne : l ≠ [] := fun e => by rw [e] at hlt; simp at hlt
      have hx := hl.2 l[i] (List.getElem_mem hlt)
      rw [R_eq, e_iFormulaNetwork_1, lt_true hlt, w1 hlt (by have := hl.1; omega), cond_true, (hs.set hsb).ldk hlt, c_ivariableOf (by omega)]
      simp only [Option.bind_some, one_int]
      have e1 : IntKind.wrap .i64 ((l[i].natAbs : Int) - 1) = ((l[i].natAbs - 1 : Nat) : Int) := by rw [wrap_id] <;> omega
      rw [e1, bool_put (set_get hb) (by omega) (by rw [markC_len]; omega), set_set]
      have e2 : (markC cs (l.take i)).set (l[i].natAbs - 1) true = markC cs (l.take (i + 1)) := by
        rw [take_snoc hlt]; simp only [markC, List.foldl_append, List.foldl_cons, List.foldl_nil]
      rw [e2]
      exact ih (i + 1) (by omega)
  have h0 := key l.length 0 (by omega)
  have e : H.set bu ⟨bcs (markC cs (l.take 0)), .rw, 1⟩ = H := set_same (by rw [hb]; rfl)
  rw [e] at h0
  exact h0

theorem clause_lits {v : Nat} {l : List Int} (h : clauseB (v : Int) l = true) : LitsOk v l := by
  simp only [clauseB, Bool.and_eq_true, decide_eq_true_eq] at h
  refine ⟨by omega, fun x hx => ?_⟩
  have := List.all_eq_true.1 h.2 x hx
  simp only [litB, inB, Bool.and_eq_true, Bool.not_eq_true', beq_eq_false_iff_ne, decide_eq_true_eq] at this
  omega
theorem cnf_facts {w : Int} {ll : List (List Int)} (h : cnfB w ll = true) : ∃ v : Nat, w = (v : Int) ∧ v ≤ 10 ∧ ll.length ≤ 12 ∧ ∀ l ∈ ll, LitsOk v l := by
  simp only [cnfB, Bool.and_eq_true, decide_eq_true_eq, inB] at h
  refine ⟨w.toNat, by omega, by omega, h.1.2, fun l hl => ?_⟩
  have := List.all_eq_true.1 h.2 l hl
  have e : w = ((w.toNat : Nat) : Int) := by omega
  rw [e] at this
  exact clause_lits this

/-- The cells of a row of bools are no row of numbers, nor of tensors. -/
theorem bool_ne {n0 : Nat} {H : AH} {bu : Nat} {cs : List Bool} (hb : H[bu]? = some ⟨bcs cs, .rw, 1⟩) {s : Sl} {l : List Int} (ho : Own n0 H s l) (hl : l ≠ []) : s.b ≠ bu := fun e => by
  have h := ho.blk' hl
  rw [e, hb] at h
  simp at h
  cases l with
  | nil => exact hl rfl
  | cons x l => cases cs <;> simp [bcs] at h
theorem bool_ne3 {n0 : Nat} {H : AH} {bu : Nat} {cs : List Bool} (hb : H[bu]? = some ⟨bcs cs, .rw, 1⟩) {s : Sl} {xs : List Tri} (ho : OOut n0 H s xs) (hx : xs ≠ []) : bu ≠ s.b := fun e => by
  rcases ho.blk with ⟨h, _⟩ | ⟨_, _, h⟩
  · exact hx h
  · rw [← e, hb] at h; simp at h
theorem Fr.setB {H0 H : AH} {rs : List Row} (h : Fr H0 H rs) {bu : Nat} {cs cs' : List Bool} (hb : H[bu]? = some ⟨bcs cs, .rw, 1⟩) (hu : H0.length ≤ bu) : Fr H0 (H.set bu ⟨bcs cs', .rw, 1⟩) rs :=
  ⟨h.le.set hu, h.rows.frame fun p hp hne => List.getElem?_set_ne (Ne.symm (bool_ne hb (h.rows.own p hp) hne))⟩

structure NetS (H0 H : AH) (s : Sl) (xs : List Tri) (ts : List Tn) : Prop where
  fr : Fr H0 H (rowsT xs ts)
  len : xs.length = ts.length
  out : OOut H0.length H s xs
theorem NetS.t3 {H0 H : AH} {s : Sl} {xs : List Tri} {ts : List Tn} (h : NetS H0 H s xs ts) : T3 H s ts := t3_of h.out.outer h.len fun p hp => (h.fr.rows.own p hp).is

/-- impl.FormulaNetwork: the clauses -/
theorem c_iFormulaNetwork_0 {r : Rg} (hr : ringB r = true) {H0 : AH} {bu v : Nat} {sc s0 q : Sl} {ll : List (List Int)} (hv : v ≤ 10) (hu : H0.length ≤ bu) (hsc : I2 H0 sc ll) (hll : ll.length ≤ 12) (hl : ∀ l ∈ ll, LitsOk v l) :
    ∀ (k i : Nat) (s : Sl) (xs : List Tri) (H : AH), i + k = ll.length → NetS H0 H s xs ((ll.take i).map (clauseT r v)) → H[bu]? = some ⟨bcs ((List.range v).map (usedB (ll.take i))), .rw, 1⟩ →
      ∃ s' xs' H', R (.loop F.iFormulaNetwork 0) [ssc ⟨bu, 0, v, v, true⟩, ssc sc, isc (ll.length : Int), isc (i : Int), r.pv, cpv (v : Int) s0, npv r s q] H = some ⟨2, [npv r s' q], H'⟩ ∧ NetS H0 H' s' xs' (ll.map (clauseT r v)) ∧ H'[bu]? = some ⟨bcs ((List.range v).map (usedB ll)), .rw, 1⟩
  | 0, i, s, xs, H, hi, hN, hb => by
    obtain rfl : i = ll.length := by omega
    rw [List.take_of_length_le (Nat.le_refl _)] at hN hb
    exact ⟨s, xs, H, by rw [R_eq, e_iFormulaNetwork_0, lt_self]; rfl, hN, hb⟩
  | k + 1, i, s, xs, H, hi, hN, hb => by
    have hlt : i < ll.length := by omega
    obtain ⟨a1, ha1, hk1⟩ := (hsc.le hN.fr.le).ld hlt
    have hli := hl ll[i] (List.getElem_mem hlt)
    have hle1 := Le.app H [resB]
    obtain ⟨a, b, c, H1, e1, t1⟩ := c_iclauseTensor hr (s0 := s0) hv rfl (ha1.le hle1) hli
    have hxl : xs.length ≤ 12 := by rw [hN.len]; simp; omega
    obtain ⟨s2, H2, e2, F2, O2, l2, f2⟩ := push_tensor hN.fr hN.out (by omega) t1
    have hblt : bu < H.length := (List.getElem?_eq_some_iff.1 hb).1
    have hb2 : H2[bu]? = some ⟨bcs ((List.range v).map (usedB (ll.take i))), .rw, 1⟩ := by
      rw [f2 bu hblt (by
        by_cases hx : xs = []
        · exact .inr hx
        · exact .inl (bool_ne3 hb hN.out hx))]
      exact hb
    obtain ⟨a2, ha2, hk2⟩ := (hsc.le F2.le).ld hlt
    have ha1' : IS H2 a1 ll[i] := by
      obtain ⟨a0, ha0, hk0⟩ := hsc.ld hlt
      have h1 : a1 = a0 := by
        have e1 := hk1 (α := Sl) some
        have e0 := ((hsc.le hN.fr.le).ld hlt)
        have := hk0 (α := Sl) some
        rcases hsc.2.2 with e | ⟨cs, hcs, hg⟩
        · rw [e] at hlt; simp at hlt
        · rw [hcs] at this
          rw [hN.fr.le.rdB hcs] at e1
          rw [this] at e1
          exact (Option.some.inj e1).symm
      rw [h1]; exact ha0.le F2.le
    have hmk := c_iFormulaNetwork_1 (H := H2) (bu := bu) (v := v) (s := a1) (l := ll[i]) hb2 (by simp) hv ha1' (fun hne => by
      obtain ⟨a0, ha0, hk0⟩ := hsc.ld hlt
      have h1 : a1 = a0 := by
        have e1 := hk1 (α := Sl) some
        have := hk0 (α := Sl) some
        rcases hsc.2.2 with e | ⟨cs, hcs, hg⟩
        · rw [e] at hlt; simp at hlt
        · rw [hcs] at this
          rw [hN.fr.le.rdB hcs] at e1
          rw [this] at e1
          exact (Option.some.inj e1).symm
      have := ha0.lt hne
      rw [h1]; omega) hli
    rw [markC_used hli.2, ← take_snoc_any hlt] at hmk
    have hN2 : NetS H0 (H2.set bu ⟨bcs ((List.range v).map (usedB (ll.take (i + 1)))), .rw, 1⟩) s2 (xs ++ [(a, b, c)]) ((ll.take (i + 1)).map (clauseT r v)) := by
      have F3 := Fr.snocT (rs := []) (xs := xs) (by simpa using F2) hN.len
      rw [List.append_nil] at F3
      rw [take_snoc_any hlt, List.map_append]
      refine ⟨F3.setB hb2 hu, by simp [hN.len], O2.keep fun hx => List.getElem?_set_ne (bool_ne3 hb2 O2 hx)⟩
    obtain ⟨s', xs', H', e3, g1, g2⟩ := c_iFormulaNetwork_0 hr hv hu hsc hll hl k (i + 1) s2 (xs ++ [(a, b, c)]) _ (by omega) hN2 (set_get hb2)
    refine ⟨s', xs', H', ?_, g1, g2⟩
    rw [R_eq, e_iFormulaNetwork_0, lt_true hlt, w1 hlt (by omega), cond_true, hk1, reserve1, e1]
    simp only [Option.bind_some, oneP, PV.agg?, List.length_cons, List.length_nil, decide_true, cond_true, slAt, List.getElem?_cons_zero, List.getElem?_cons_succ]
    rw [e2, ha1.n, hmk]
    simp only [Option.bind_some, Nat.beq, cond_true]
    exact e3
end Go.Abs
/- Contracts: a formula's network (impl), whole. -/
namespace Go.Abs
set_option linter.unusedVariables false
set_option linter.unusedSimpArgs false

/-- The pairs of the variables that no clause has, of the first ones. -/
def pairsN (r : Rg) (n : Nat) (ll : List (List Int)) : List Tn := ((List.range n).filter fun i => !usedB ll i).map (pairT r)
theorem pairsN_succ (r : Rg) (n : Nat) (ll : List (List Int)) : pairsN r (n + 1) ll = pairsN r n ll ++ (if usedB ll n then [] else [pairT r n]) := by
  unfold pairsN
  rw [List.range_succ, List.filter_append, List.map_append]
  cases h : usedB ll n <;> simp [h]
theorem n0z : ((0 : Nat) : Int) = 0 := rfl
theorem pairsN_len (r : Rg) (n : Nat) (ll : List (List Int)) : (pairsN r n ll).length ≤ n := by
  unfold pairsN
  have := List.length_filter_le (fun i => !usedB ll i) (List.range n)
  simpa using this

/-- A tensor that a call makes in a place of its own is put at the end. -/
theorem NetS.push {H0 H H1 : AH} {s a b c : Sl} {xs : List Tri} {ts : List Tn} {t : Tn} (h : NetS H0 H s xs ts) (hl : ts.length ≤ 1048576) (ht : NewT (H ++ [resB]) H1 a b c t) :
    ∃ s' xs' H', (∀ {α : Type} (k : Sl × AH → Option α), ((newAt H1 (H.length + 0) 3 [.sl a, .sl b, .sl c]).bind fun h => (rng h.2 h.1 0 (1 * 3)).bind fun l => (appB h.2 3 72 s l 1).bind k) = k (s', H')) ∧
      NetS H0 H' s' xs' (ts ++ [t]) ∧ H.length ≤ H'.length ∧ (∀ d, d < H.length → (d ≠ s.b ∨ xs = []) → H'[d]? = H[d]?) := by
  obtain ⟨s', H', e, F, O, l, f⟩ := push_tensor h.fr h.out (by rw [h.len]; exact hl) ht
  have F3 := Fr.snocT (rs := []) (xs := xs) (by simpa using F) h.len
  rw [List.append_nil] at F3
  exact ⟨s', xs ++ [(a, b, c)], H', e, ⟨F3, by simp [h.len], O⟩, l, f⟩

/-- impl.FormulaNetwork: the pairs -/
theorem c_iFormulaNetwork_2 {r : Rg} (hr : ringB r = true) {H0 : AH} {bu v : Nat} {q : Sl} {ll : List (List Int)} {base : List Tn} (hv : v ≤ 10) (hbase : base.length ≤ 1024) :
    ∀ (k i : Nat) (s : Sl) (xs : List Tri) (H : AH), i + k = v → NetS H0 H s xs (base ++ pairsN r i ll) → H[bu]? = some ⟨bcs ((List.range v).map (usedB ll)), .rw, 1⟩ →
      ∃ s' xs' H', R (.loop F.iFormulaNetwork 2) [ssc ⟨bu, 0, v, v, true⟩, isc (v : Int), isc (i : Int), r.pv, npv r s q] H = some ⟨6, [npv r s' q], H'⟩ ∧ NetS H0 H' s' xs' (base ++ pairsN r v ll)
  | 0, i, s, xs, H, hi, hN, hb => by
    obtain rfl : i = v := by omega
    exact ⟨s, xs, H, by rw [R_eq, e_iFormulaNetwork_2, lt_self]; rfl, hN⟩
  | k + 1, i, s, xs, H, hi, hN, hb => by
    have hlt : i < v := by omega
    have hld : ∀ {α : Type} (f : Bool → Option α), ((ixA ⟨bu, 0, v, v, true⟩ (i : Int) 1).bind fun o => (rdB H bu).bind fun c => (boolAt c o).bind f) = f (usedB ll i) := fun f => by
      rw [bool_ld hb hlt (by simp; exact hlt)]
      simp
    by_cases hu : usedB ll i = true
    · have hN2 : NetS H0 H s xs (base ++ pairsN r (i + 1) ll) := by rw [pairsN_succ, hu]; simpa using hN
      obtain ⟨s', xs', H', e3, g1⟩ := c_iFormulaNetwork_2 hr hv hbase k (i + 1) s xs H (by omega) hN2 hb
      refine ⟨s', xs', H', ?_, g1⟩
      rw [R_eq, e_iFormulaNetwork_2, lt_true hlt, w1 hlt (by omega), cond_true, hld, hu]
      simp only [Bool.not_true, cond_false]
      exact e3
    · have hu' : usedB ll i = false := Bool.eq_false_iff.2 hu
      obtain ⟨s1, H1, e1, n1⟩ := c_irawOne hr (H ++ [resB])
      obtain ⟨s2, H2, e2, n2⟩ := c_irawOne hr H1
      have hol := oneR_len r
      have hw := width_range hr
      obtain ⟨a, b, c, H3, e3, t3⟩ := c_ipairTensor (n1.own.is.le n2.le) n2.own.is (by omega) (i : Int)
      have t3' : NewT (H ++ [resB]) H3 a b c (pairT r i) := ⟨(n1.le.trans n2.le).trans t3.le, t3.rows.low (n1.le.trans n2.le).len⟩
      have hpl := pairsN_len r i ll
      obtain ⟨s4, xs4, H4, e4, N4, l4, f4⟩ := hN.push (by simp; omega) t3'
      have hN2 : NetS H0 H4 s4 xs4 (base ++ pairsN r (i + 1) ll) := by rw [pairsN_succ, hu']; simpa using N4
      have hblt : bu < H.length := (List.getElem?_eq_some_iff.1 hb).1
      have hb4 : H4[bu]? = some ⟨bcs ((List.range v).map (usedB ll)), .rw, 1⟩ := by
        rw [f4 bu hblt (by
          by_cases hx : xs = []
          · exact .inr hx
          · exact .inl (bool_ne3 hb hN.out hx))]
        exact hb
      obtain ⟨s', xs', H', e5, g1⟩ := c_iFormulaNetwork_2 hr hv hbase k (i + 1) s4 xs4 H4 (by omega) hN2 hb4
      refine ⟨s', xs', H', ?_, g1⟩
      rw [R_eq, e_iFormulaNetwork_2, lt_true hlt, w1 hlt (by omega), cond_true, hld, hu']
      simp only [Bool.not_false, cond_true]
      rw [reserve1, e1]
      simp only [Option.bind_some, one_sl]
      rw [e2]
      simp only [Option.bind_some, one_sl]
      rw [e3]
      simp only [Option.bind_some, oneP, PV.agg?, List.length_cons, List.length_nil, decide_true, cond_true, slAt, List.getElem?_cons_zero, List.getElem?_cons_succ]
      rw [e4]
      exact e5

def netF (r : Rg) (v : Nat) (ll : List (List Int)) : Nw := ⟨r, formT r v ll, []⟩
/-- Does the formula have a network? -/
def fnB (r : Rg) (w : Int) (ll : List (List Int)) : Bool := ringB r && cnfB w ll && netB (netF r w.toNat ll)
@[reducible] def npv0 : PV := .agg [.int .i64 0, .int .i64 0, .int .i64 0, .sl ⟨0, 0, 0, 0, true⟩, .sl ⟨0, 0, 0, 0, true⟩]

theorem mk_bools {H : AH} {n : Nat} (hn : n ≤ 134217728) : mkB H 1 1 [.bool false] (n : Int) (n : Int) = some (⟨H.length, 0, n, n, true⟩, H ++ [⟨bcs (List.replicate n false), .rw, 1⟩]) := by
  unfold mkB
  have := most_ok hn
  rw [if_pos ⟨by omega, by omega, by omega, by omega, by omega⟩]
  simp [bcs, List.map_replicate, List.flatten_replicate_singleton]

/-- impl.FormulaNetwork -/
theorem c_iFormulaNetwork {r : Rg} {H : AH} {w : Int} {s : Sl} {ll : List (List Int)} (hs : I2 H s ll) :
    (fnB r w ll = true ∧ ∃ s' xs H', R (.fn F.iFormulaNetwork) [r.pv, cpv w s] H = some ⟨1, [npv r s' ⟨0, 0, 0, 0, true⟩, bsc true], H'⟩ ∧ NetS H H' s' xs (formT r w.toNat ll)) ∨
    (fnB r w ll = false ∧ ∃ H', R (.fn F.iFormulaNetwork) [r.pv, cpv w s] H = some ⟨1, [npv0, bsc false], H'⟩ ∧ Le H H') := by
  unfold fnB
  cases hr : ringB r with
  | false => exact .inr ⟨rfl, H, by rw [R_eq, e_iFormulaNetwork, c_iRingOk, hr]; rfl, Le.refl H⟩
  | true =>
  cases hc : cnfB w ll with
  | false =>
    refine .inr ⟨rfl, H, ?_, Le.refl H⟩
    rw [R_eq, e_iFormulaNetwork, c_iRingOk, hr]
    simp only [Option.bind_some, one_bool, Bool.not_true, cond_false]
    rw [c_iCnfOk hs, hc]
    rfl
  | true =>
  obtain ⟨v, rfl, hv, hll, hl⟩ := cnf_facts hc
  have hbool0 : bcs (List.replicate v false) = bcs ((List.range v).map (usedB (ll.take 0))) := by
    congr 1
    refine List.ext_getElem (by simp) fun i h1 h2 => ?_
    simp [usedB]
  have hle0 := Le.app H [⟨bcs (List.replicate v false), .rw, 1⟩]
  have hN0 : NetS H (H ++ [⟨bcs (List.replicate v false), .rw, 1⟩]) ⟨0, 0, 0, 0, true⟩ [] ((ll.take 0).map (clauseT r v)) := ⟨by simp [rowsT]; exact Fr.of hle0, by simp, OOut.nil _ _ _⟩
  obtain ⟨s1, xs1, H1, e1, N1, b1⟩ := c_iFormulaNetwork_0 (bu := H.length) (sc := s) (s0 := s) (q := ⟨0, 0, 0, 0, true⟩) hr hv (Nat.le_refl _) hs hll hl ll.length 0 ⟨0, 0, 0, 0, true⟩ [] _ (by omega) hN0 (by rw [← hbool0]; simp)
  have hp0 : pairsN r 0 ll = [] := rfl
  obtain ⟨s2, xs2, H2, e2, N2⟩ := c_iFormulaNetwork_2 (bu := H.length) (q := ⟨0, 0, 0, 0, true⟩) (base := ll.map (clauseT r v)) (ll := ll) hr hv (by simp; omega) v 0 s1 xs1 H1 (by omega) (by rw [hp0, List.append_nil]; exact N1) b1
  have hform : ll.map (clauseT r v) ++ pairsN r v ll = formT r v ll := rfl
  rw [n0z] at e1 e2
  rw [hform] at N2
  have hNS : NS H2 s2 ⟨0, 0, 0, 0, true⟩ (netF r v ll) := ⟨N2.t3, IS.nil _ _ _ _ _⟩
  obtain ⟨H3, e3, l3⟩ := c_iNetworkOk hNS (by simp [netF])
  have hmain : R (.fn F.iFormulaNetwork) [r.pv, cpv (v : Int) s] H = cond (netB (netF r v ll)) (some ⟨1, [npv r s2 ⟨0, 0, 0, 0, true⟩, bsc true], H3⟩) (some ⟨1, [npv0, bsc false], H3⟩) := by
    rw [R_eq, e_iFormulaNetwork, c_iRingOk, hr]
    simp only [Option.bind_some, one_bool, Bool.not_true, cond_false]
    rw [c_iCnfOk hs, hc]
    simp only [Option.bind_some, one_bool, Bool.not_true, cond_false]
    rw [mk_bools (by omega)]
    simp only [Option.bind_some]
    rw [hs.1, e1]
    simp only [Option.bind_some, Nat.beq, cond_true, nthP, List.getElem?_cons_zero, PV.agg?, List.length_cons, List.length_nil, decide_true, intAt, slAt, List.getElem?_cons_succ, if_true]
    rw [e2]
    simp only [Option.bind_some, Nat.beq, cond_true, nthP, List.getElem?_cons_zero, PV.agg?, List.length_cons, List.length_nil, decide_true, intAt, slAt, List.getElem?_cons_succ, if_true]
    have e3 : R (.fn F.iNetworkOk) [npv r s2 ⟨0, 0, 0, 0, true⟩] H2 = some ⟨1, [bsc (netB (netF r v ll))], H3⟩ := e3
    rw [e3]
    simp only [Option.bind_some, one_bool]
    cases netB (netF r v ll) <;> rfl
  rw [Int.toNat_natCast]
  cases hn : netB (netF r v ll) with
  | true => exact .inl ⟨rfl, s2, xs2, H3, by rw [hmain, hn]; rfl, ⟨N2.fr.ext l3, N2.len, N2.out.le l3⟩⟩
  | false => exact .inr ⟨rfl, H3, by rw [hmain, hn]; rfl, N2.fr.le.trans l3⟩
end Go.Abs
/- Contracts: a formula's network (spec). -/
namespace Go.Abs
set_option linter.unusedVariables false
set_option linter.unusedSimpArgs false

theorem colF_app {α : Type} (g : Nat → α → Option Int) : ∀ (a b : List α) (i : Nat), colF g (a ++ b) i = colF g a i ++ colF g b (i + a.length)
  | [], b, i => by simp [colF]
  | x :: a, b, i => by
    simp only [List.cons_append, colF, List.length_cons]
    rw [colF_app g a b (i + 1)]
    simp [Nat.add_assoc, Nat.add_comm 1]
theorem labelsF_succ (n : Nat) (l : List Int) : labelsF (n + 1) l = labelsF n l ++ (if hasL l n then [(n : Int)] else []) := by
  unfold labelsF
  rw [List.range_succ, colF_app]
  cases h : hasL l n <;> simp [colF, h]

/-- spec.FormulaNetwork: the labels -/
theorem c_sFormulaNetwork_1 {H0 : AH} {v : Nat} {s s0 : Sl} {l : List Int} (hv : v ≤ 10) (hs : IS H0 s l) (hl : l.length ≤ 1048576) :
    ∀ (k i : Nat) (u d : Sl) (H : AH), i + k = v → Fr H0 H [(u, labelsF i l), (d, List.replicate (labelsF i l).length 2)] →
      ∃ u' d' H', R (.loop F.sFormulaNetwork 1) [ssc s, ssc u, ssc d, isc ((i + 1 : Nat) : Int), cpv (v : Int) s0] H = some ⟨4, [ssc u', ssc d'], H'⟩ ∧ Fr H0 H' [(u', labelsF v l), (d', List.replicate (labelsF v l).length 2)]
  | 0, i, u, d, H, hi, hF => by
    obtain rfl : i = v := by omega
    refine ⟨u, d, H, ?_, hF⟩
    have : decide (((i + 1 : Nat) : Int) ≤ (i : Int)) = false := decide_eq_false (by omega)
    rw [R_eq, e_sFormulaNetwork_1, this]; rfl
  | k + 1, i, u, d, H, hi, hF => by
    have hd : decide (((i + 1 : Nat) : Int) ≤ (v : Int)) = true := decide_eq_true (by omega)
    have e0 : IntKind.wrap .i64 (0 - ((i + 1 : Nat) : Int)) = -((i + 1 : Nat) : Int) := by rw [wrap_id] <;> omega
    have e1 : IntKind.wrap .i64 (((i + 1 : Nat) : Int) + 1) = ((i + 1 + 1 : Nat) : Int) := by rw [wrap_id] <;> omega
    have e2 : IntKind.wrap .i64 (((i + 1 : Nat) : Int) - 1) = (i : Int) := by rw [wrap_id] <;> omega
    have hsH := hs.le hF.le
    have key : ∀ (f : Out → Option Out), (((R (.fn F.sl05Find) [ssc s, isc ((i + 1 : Nat) : Int)] H).bind fun r14 => (oneP r14.vs).bind fun p15 => p15.sc?.bind fun c16 => (intAt .i64 [c16] 0).bind fun n17 =>
        cond (decide (n17 ≥ 0)) (some (⟨0, [.sc (.bool true)], r14.H⟩ : Out)) ((R (.fn F.sl05Find) [ssc s, isc (IntKind.wrap .i64 (0 - ((i + 1 : Nat) : Int)))] r14.H).bind fun r18 => (oneP r18.vs).bind fun p19 => p19.sc?.bind fun c20 => (intAt .i64 [c20] 0).bind fun n21 => some ⟨0, [.sc (.bool (decide (n21 ≥ 0)))], r18.H⟩)) : Option Out).bind f = f ⟨0, [bsc (hasL l i)], H⟩ := by
      intro f
      rw [c_sl05Find hsH hl]
      simp only [Option.bind_some, one_int]
      rw [e0, c_sl05Find hsH hl]
      simp only [Option.bind_some, one_int]
      rw [find_any, find_any]
      unfold hasL
      cases (l.any fun x => ((i + 1 : Nat) : Int) == x) <;> rfl
    by_cases hh : hasL l i = true
    · have hll := labelsF_len i l
      obtain ⟨u1, H1, p1, F1⟩ := hF.push [] (by omega) (i : Int)
      obtain ⟨d1, H2, p2, F2⟩ := F1.push [(u1, labelsF i l ++ [(i : Int)])] (by simp; omega) 2
      have hF2 : Fr H0 H2 [(u1, labelsF (i + 1) l), (d1, List.replicate (labelsF (i + 1) l).length 2)] := by
        rw [labelsF_succ, hh]
        simp only [if_true, List.length_append, List.length_cons, List.length_nil, Nat.zero_add]
        rw [List.replicate_succ']
        exact F2
      obtain ⟨u', d', H', e3, g⟩ := c_sFormulaNetwork_1 (s0 := s0) hv hs hl k (i + 1) u1 d1 H2 (by omega) hF2
      refine ⟨u', d', H', ?_, g⟩
      rw [R_eq, e_sFormulaNetwork_1, hd, cond_true, key]
      simp only [Nat.beq, cond_true, nth_bool, hh, e1, e2]
      rw [p1, p2]
      exact e3
    · have hh' : hasL l i = false := Bool.eq_false_iff.2 hh
      have hF2 : Fr H0 H [(u, labelsF (i + 1) l), (d, List.replicate (labelsF (i + 1) l).length 2)] := by
        rw [labelsF_succ, hh']; simpa using hF
      obtain ⟨u', d', H', e3, g⟩ := c_sFormulaNetwork_1 (s0 := s0) hv hs hl k (i + 1) u d H (by omega) hF2
      refine ⟨u', d', H', ?_, g⟩
      rw [R_eq, e_sFormulaNetwork_1, hd, cond_true, key]
      simp only [Nat.beq, cond_true, nth_bool, hh', e1, cond_false]
      exact e3

/-- spec.FormulaNetwork: the values of the labels -/
theorem c_sFormulaNetwork_3 {n0 : Nat} {H : AH} {sI sV sL : Sl} {I V L : List Int} (hI : IS H sI I) (hL : IS H sL L) (hV : Own n0 H sV V) (hLI : L.length = I.length) (hb : ∀ x ∈ L, 0 ≤ x ∧ x < V.length) (h1 : I ≠ [] → V ≠ [] → sI.b ≠ sV.b) (h2 : L ≠ [] → V ≠ [] → sL.b ≠ sV.b) (hl : L.length ≤ 1048576) :
    ∃ H', R (.loop F.sFormulaNetwork 3) [ssc sL, ssc sV, ssc sI, isc (I.length : Int), isc 0] H = some ⟨8, [], H'⟩ ∧ Mut n0 H H' sV V (setV V (L.zip I)) := by
  by_cases hne : V = []
  · have : L = [] := by
      cases L with
      | nil => rfl
      | cons x L => have := hb x List.mem_cons_self; rw [hne] at this; simp at this; omega
    subst this
    have : I = [] := List.length_eq_zero_iff.1 (by rw [← hLI]; rfl)
    subst this
    refine ⟨H, ?_, Mut.refl hV⟩
    have : R (.loop F.sFormulaNetwork 3) [ssc sL, ssc sV, ssc sI, isc (0 : Nat), isc ((0 : Nat) : Int)] H = some ⟨8, [], H⟩ := by rw [R_eq, e_sFormulaNetwork_3, lt_self]; rfl
    exact this
  · refine ⟨_, ?_, Mut.set (l' := setV V (L.zip I)) hV hne (setV_len _ _)⟩
    have := setV_key hV hne (β := Option Out) (F := fun i Hc => R (.loop F.sFormulaNetwork 3) [ssc sL, ssc sV, ssc sI, isc (I.length : Int), isc (i : Int)] Hc) (L := L) (I := I) hLI (fun i g1 g2 cs hcs => by
      have hx := hb L[i] (List.getElem_mem g1)
      have hIne : I ≠ [] := fun e => by rw [e] at g2; simp at g2
      have hLne : L ≠ [] := fun e => by rw [e] at g1; simp at g1
      rw [R_eq, e_sFormulaNetwork_3, lt_true g2, w1 g2 (by omega), cond_true, (hI.set fun _ => h1 hIne hne).ldk g2, (hL.set fun _ => h2 hLne hne).ldk g1, hV.eta]
      rw [st_lab (set_get (hV.blk' hne)) hx.1 hx.2 (by omega), set_set])
    have this : R (.loop F.sFormulaNetwork 3) [ssc sL, ssc sV, ssc sI, isc (I.length : Int), isc 0] H = _ := this
    rw [this, hLI, R_eq, e_sFormulaNetwork_3, lt_self]
    rfl

/-- spec.FormulaNetwork: the elements of a clause's tensor -/
theorem c_sFormulaNetwork_2 {r : Rg} (hr : ringB r = true) {H0 : AH} {v : Nat} {s s0 sL sD a b c : Sl} {l L : List Int} (hv : v ≤ 10) (hs : IS H0 s l) (hl : LitsOk v l) (hL : ∀ x ∈ L, 0 ≤ x ∧ x < v) (hLl : L.length ≤ v) :
    ∀ (k n : Nat) (H : AH), n + k = 2 ^ L.length →
      Fr H0 H [(a, L), (b, List.replicate L.length 2), (c, (elsN (elemF r v l L) (zeroR r) (2 ^ L.length) n).flatten), (sL, L), (sD, List.replicate L.length 2)] →
      ∃ H', R (.loop F.sFormulaNetwork 2) [ssc s, ssc sL, ssc sD, isc (n : Int), r.pv, cpv (v : Int) s0, tpv a b c] H = some ⟨6, [], H'⟩ ∧ Fr H0 H' [(a, L), (b, List.replicate L.length 2), (c, ((List.range (2 ^ L.length)).map (elemF r v l L)).flatten), (sL, L), (sD, List.replicate L.length 2)]
  | k, n, H, hn, hF => by
    have hw := width_range hr
    have hwn : widthR r = ((widthR r).toNat : Int) := by omega
    have hN10 : 2 ^ L.length ≤ 2 ^ 10 := Nat.pow_le_pow_right (by omega) (by omega)
    have htw := twos_ok (k := L.length) (by omega)
    have hprd := prd_twos L.length
    have hpc : prodC 4096 1 (List.replicate L.length 2) = ((2 ^ L.length : Nat) : Int) := by rw [prodC_eq (by omega) htw.ge (by rw [hprd]; omega), hprd]; omega
    have hprod := c_sl05Product (hF.is (s := sD) (l := List.replicate L.length 2) (by simp)) (by simp; omega) (fun d hd => by rw [(List.mem_replicate.1 hd).2]; omega)
    rw [hpc] at hprod
    cases k with
    | zero =>
      have hn' : n = 2 ^ L.length := by omega
      subst hn'
      rw [elsN_all] at hF
      refine ⟨H, ?_, hF⟩
      rw [R_eq, e_sFormulaNetwork_2, hprod]
      simp only [Option.bind_some, one_int, lt_self, cond_false]
    | succ k =>
    have hlt : n < 2 ^ L.length := by omega
    generalize hD : List.replicate L.length (2 : Int) = D at *
    have hDl : D.length = L.length := by rw [← hD]; simp
    have hIl : (idxF D (n : Int)).length = L.length := by rw [idxF_len, hDl]
    have hbit : ∀ m : Int, ∀ x ∈ idxF D m, x = 0 ∨ x = 1 := fun m => by rw [← hD]; exact bits_twos
    have F1 := hF.mk0 v
    have hidx := c_sl05Index (F1.is (s := sD) (l := D) (by simp)) (by omega) htw.ge (n := n) (by omega) (by omega)
    have F2 := F1.newN (new_app _ (idxF D n))
    have hVo := F2.own (s := ⟨H.length, 0, v, v, true⟩) (l := List.replicate v 0) (by simp)
    have hIo := F2.own (s := rowAt (H ++ [(⟨ics (List.replicate v 0), .rw, 1⟩ : Blk)]).length (idxF D n)) (l := idxF D n) (by simp)
    obtain ⟨H3, e3, m3⟩ := c_sFormulaNetwork_3 hIo.is (F2.is (s := sL) (l := L) (by simp)) hVo (by rw [hIl]) (fun x hx => by simpa using hL x hx)
      (fun h1 h2 => row_ne F2.rows (xs := []) (ys := []) (p := (_, _)) (q := (_, _)) rfl h1 h2)
      (fun h1 h2 => Ne.symm (row_ne F2.rows (xs := [_]) (ys := [_, _, _]) (zs := [_]) (p := (_, List.replicate v 0)) (q := (sL, L)) rfl h2 h1)) (by omega)
    have F3 := F2.mut [_] m3 (fun e => List.length_eq_zero_iff.1 (by rw [setV_len, e]; rfl))
    have hbits := vals_bits (V := List.replicate v 0) (L := L) (I := idxF D n) (fun x hx => .inl (List.mem_replicate.1 hx).2) (hbit n)
    have hct := c_sl38True (hs.le F3.le) (F3.is (s := ⟨H.length, 0, v, v, true⟩) (l := setV (List.replicate v 0) (L.zip (idxF D n))) (by simp)) ⟨hbits, fun x hx => by rw [setV_len]; simpa using hl.2 x hx, by rw [setV_len]; simp; omega, hl.1⟩
    have hvals : setV (List.replicate v 0) (L.zip (idxF D n)) = valsF v L (idxF D n) := rfl
    rw [hvals] at hct F3
    have hwl : (zeroR r).length = (widthR r).toNat := zeroR_len r
    have huni := elsN_uni (f := elemF r v l L) (z := zeroR r) (w := (widthR r).toNat) (N := 2 ^ L.length) (n := n) (fun j => elemF_len v l L j) hwl
    have hlen := elsN_len (elemF r v l L) (zeroR r) (2 ^ L.length) n
    have hN6 : 2 ^ L.length * (widthR r).toNat ≤ 1024 * 6 := Nat.mul_le_mul hN10 (by omega)
    have hw1' : IntKind.wrap .i64 ((n : Int) + 1) = ((n + 1 : Nat) : Int) := by rw [wrap_id] <;> omega
    have hcond : ∀ (X Y : Option Out), cond (decide ((n : Int) < ((2 ^ L.length : Nat) : Int))) X Y = X := fun X Y => by rw [lt_true hlt]; rfl
    -- one round, and the rest
    have round : ∃ H4, R (.loop F.sFormulaNetwork 2) [ssc s, ssc sL, ssc sD, isc (n : Int), r.pv, cpv (v : Int) s0, tpv a b c] H = R (.loop F.sFormulaNetwork 2) [ssc s, ssc sL, ssc sD, isc ((n + 1 : Nat) : Int), r.pv, cpv (v : Int) s0, tpv a b c] H4 ∧
        Fr H0 H4 [(a, L), (b, D), (c, (elsN (elemF r v l L) (zeroR r) (2 ^ L.length) (n + 1)).flatten), (sL, L), (sD, D)] := by
      have hstart : R (.loop F.sFormulaNetwork 2) [ssc s, ssc sL, ssc sD, isc (n : Int), r.pv, cpv (v : Int) s0, tpv a b c] H =
          cond (l.any (litT (valsF v L (idxF D n)))) ((R (.fn F.sl02One) [r.pv] H3).bind fun r67 => (oneP r67.vs).bind fun p68 => p68.sc?.bind fun c69 => (slAt [c69] 0).bind fun s70 =>
            (R (.fn F.sl05Put) [r.pv, tpv a b c, isc (n : Int), ssc s70] r67.H).bind fun r71 => R (.loop F.sFormulaNetwork 2) [ssc s, ssc sL, ssc sD, isc ((n + 1 : Nat) : Int), r.pv, cpv (v : Int) s0, tpv a b c] r71.H)
          (R (.loop F.sFormulaNetwork 2) [ssc s, ssc sL, ssc sD, isc ((n + 1 : Nat) : Int), r.pv, cpv (v : Int) s0, tpv a b c] H3) := by
        rw [R_eq, e_sFormulaNetwork_2, hprod]
        simp only [Option.bind_some, one_int]
        rw [hcond, mk_ints (by omega)]
        simp only [Option.bind_some]
        rw [hidx]
        simp only [Option.bind_some, one_sl]
        rw [e3]
        simp only [Option.bind_some, Nat.beq, cond_true]
        rw [hct]
        simp only [Option.bind_some, one_bool, hw1']
      rw [hstart]
      by_cases hc : l.any (litT (valsF v L (idxF D n))) = true
      · have hel : elemF r v l L n = oneR r := by unfold elemF; rw [hD, if_pos hc]
        obtain ⟨s4, H4, e4, n4⟩ := c_sl02One hr H3
        have F4 := F3.newN n4
        have hcO := F4.own (s := c) (l := (elsN (elemF r v l L) (zeroR r) (2 ^ L.length) n).flatten) (by simp)
        have hfl : (elsN (elemF r v l L) (zeroR r) (2 ^ L.length) n).flatten ≠ [] := fun e => by
          have := congrArg List.length e
          rw [uni_len huni, hlen] at this
          have h2 : 0 < 2 ^ L.length * (widthR r).toNat := Nat.mul_pos (by omega) (by omega)
          rw [this] at h2; simp at h2
        have hone : oneR r ≠ [] := fun e => by
          have := congrArg List.length e
          rw [oneR_len] at this; simp at this; omega
        obtain ⟨H5, e5, m5⟩ := m_sl05Put (a := a) (b := b) hwn (by omega) huni (by rw [hlen]; exact hlt) (oneR_len r) hcO n4.own.is (row_ne F4.rows (xs := []) (ys := [_, _, _, _]) (zs := [_, _]) (p := (s4, oneR r)) (q := (c, _)) rfl hone hfl) (by rw [hlen]; omega)
        have F5 := F4.mut [_, _, _, _, _] m5 (fun e => absurd e hfl)
        rw [← hel, elsN_set _ _ hlt] at F5
        refine ⟨H5, ?_, F5.sub (.cons _ (.cons _ (.cons _ (List.Sublist.refl _))))⟩
        rw [hc, cond_true, e4]
        simp only [Option.bind_some, one_sl]
        rw [e5]
        rfl
      · have hc' := Bool.eq_false_iff.2 hc
        have hel : elemF r v l L n = zeroR r := by unfold elemF; rw [hD, if_neg hc]
        refine ⟨H3, by rw [hc']; rfl, ?_⟩
        rw [elsN_skip hel]
        exact F3.sub (.cons _ (.cons _ (List.Sublist.refl _)))
    obtain ⟨H4, e4, F4⟩ := round
    subst hD
    obtain ⟨H', e5, F5⟩ := c_sFormulaNetwork_2 hr (s0 := s0) hv hs hl hL hLl k (n + 1) H4 (by omega) F4
    exact ⟨H', e4.trans e5, F5⟩
end Go.Abs
/- Contracts: a formula's network (spec), whole. -/
namespace Go.Abs
set_option linter.unusedVariables false
set_option linter.unusedSimpArgs false

theorem NetS.ext {H0 H H' : AH} {s : Sl} {xs : List Tri} {ts : List Tn} (h : NetS H0 H s xs ts) (hl : Le H H') : NetS H0 H' s xs ts := ⟨h.fr.ext hl, h.len, h.out.le hl⟩
theorem colF_nil {α : Type} {g : Nat → α → Option Int} : ∀ {l : List α} {i : Nat}, colF g l i = [] ↔ ∀ (j : Nat) a, l[j]? = some a → g (i + j) a = none
  | [], i => by simp [colF]
  | x :: l, i => by
    simp only [colF, List.append_eq_nil_iff]
    rw [colF_nil (l := l)]
    constructor
    · rintro ⟨h1, h2⟩ j a hj
      cases j with
      | zero => simp at hj; subst hj; cases hg : g i x <;> simp_all
      | succ j =>
        have := h2 j a (by simpa using hj)
        rw [← this]; congr 1; omega
    · intro h
      refine ⟨?_, fun j a hj => ?_⟩
      · have := h 0 x (by simp)
        rw [Nat.add_zero] at this
        rw [this]; rfl
      · have := h (j + 1) a (by simpa using hj)
        rw [← this]; congr 1; omega
theorem usesF_nil {x : Int} {ts : List Tn} : usesF x ts = [] ↔ ∀ t ∈ ts, x ∉ t.L := by
  unfold usesF
  rw [colF_nil]
  constructor
  · intro h t ht hx
    obtain ⟨j, hj⟩ := List.getElem?_of_mem ht
    have := h j t hj
    rw [if_pos ((findF_mem _ _ _).2 hx)] at this
    cases this
  · intro h j t hj
    rw [if_neg fun h0 => h t (List.mem_of_getElem? hj) ((findF_mem _ _ _).1 h0)]
theorem labelsF_iff {l : List Int} {i : Nat} : ∀ v : Nat, (i : Int) ∈ labelsF v l ↔ i < v ∧ hasL l i = true
  | 0 => by simp [labelsF, colF]
  | v + 1 => by
    rw [labelsF_succ, List.mem_append, labelsF_iff v]
    by_cases h : hasL l v = true
    · rw [if_pos h]
      simp only [List.mem_singleton]
      constructor
      · rintro (⟨h1, h2⟩ | h1)
        · exact ⟨by omega, h2⟩
        · have : i = v := by omega
          subst this; exact ⟨by omega, h⟩
      · rintro ⟨h1, h2⟩
        by_cases e : i = v
        · exact .inr (by omega)
        · exact .inl ⟨by omega, h2⟩
    · rw [if_neg h]
      simp only [List.not_mem_nil, or_false]
      constructor
      · rintro ⟨h1, h2⟩; exact ⟨by omega, h2⟩
      · rintro ⟨h1, h2⟩
        refine ⟨?_, h2⟩
        rcases Nat.lt_or_ge i v with e | e
        · exact e
        · have : i = v := by omega
          subst this; exact absurd h2 h
theorem hasL_abs (l : List Int) (i : Nat) : hasL l i = l.any fun x => x.natAbs == i + 1 := by
  unfold hasL
  rw [Bool.eq_iff_iff]
  simp only [Bool.or_eq_true, List.any_eq_true, beq_iff_eq]
  constructor
  · rintro (⟨x, hx, h⟩ | ⟨x, hx, h⟩)
    · exact ⟨x, hx, by omega⟩
    · exact ⟨x, hx, by omega⟩
  · rintro ⟨x, hx, h⟩
    by_cases h0 : 0 ≤ x
    · exact .inl ⟨x, hx, by omega⟩
    · exact .inr ⟨x, hx, by omega⟩
theorem uses_form {r : Rg} {v i : Nat} {ll : List (List Int)} (hi : i < v) : (usesF (i : Int) (ll.map (clauseT r v) ++ pairsN r i ll) = []) ↔ usedB ll i = false := by
  rw [usesF_nil]
  constructor
  · intro h
    rw [Bool.eq_false_iff]
    intro hu
    simp only [usedB, List.any_eq_true] at hu
    obtain ⟨l, hl, hx⟩ := hu
    refine h (clauseT r v l) (List.mem_append.2 (.inl (List.mem_map.2 ⟨l, hl, rfl⟩))) ?_
    show (i : Int) ∈ labelsF v l
    rw [labelsF_iff, hasL_abs]
    exact ⟨hi, List.any_eq_true.2 hx⟩
  · intro hu t ht hx
    rcases List.mem_append.1 ht with ht | ht
    · obtain ⟨l, hl, rfl⟩ := List.mem_map.1 ht
      have hx : (i : Int) ∈ labelsF v l := hx
      rw [labelsF_iff, hasL_abs] at hx
      have : usedB ll i = true := List.any_eq_true.2 ⟨l, hl, hx.2⟩
      rw [hu] at this; cases this
    · simp only [pairsN, List.mem_map, List.mem_filter, List.mem_range] at ht
      obtain ⟨j, ⟨hj, _⟩, rfl⟩ := ht
      simp [pairT] at hx
      omega

/-- spec.FormulaNetwork: the pairs -/
theorem c_sFormulaNetwork_4 {r : Rg} (hr : ringB r = true) {H0 : AH} {v : Nat} {q s0 : Sl} {ll : List (List Int)} (hv : v ≤ 10) (hll : ll.length ≤ 12) :
    ∀ (k i : Nat) (s : Sl) (xs : List Tri) (H : AH), i + k = v → NetS H0 H s xs (ll.map (clauseT r v) ++ pairsN r i ll) →
      ∃ s' xs' H', R (.loop F.sFormulaNetwork 4) [isc (i : Int), r.pv, cpv (v : Int) s0, npv r s q] H = some ⟨10, [npv r s' q], H'⟩ ∧ NetS H0 H' s' xs' (ll.map (clauseT r v) ++ pairsN r v ll)
  | 0, i, s, xs, H, hi, hN => by
    obtain rfl : i = v := by omega
    exact ⟨s, xs, H, by rw [R_eq, e_sFormulaNetwork_4, lt_self]; rfl, hN⟩
  | k + 1, i, s, xs, H, hi, hN => by
    have hlt : i < v := by omega
    have hpl := pairsN_len r i ll
    obtain ⟨su, Hu, eu, ou, lu⟩ := c_sl12Uses hN.t3 (by simp; omega) (fun t ht => by
      rcases List.mem_append.1 ht with ht | ht
      · obtain ⟨l, hl, rfl⟩ := List.mem_map.1 ht
        have := labelsF_len v l
        show (labelsF v l).length ≤ _; omega
      · simp only [pairsN, List.mem_map] at ht
        obtain ⟨j, _, rfl⟩ := ht
        simp [pairT]) (i : Int)
    have hNu := hN.ext lu
    by_cases hu : usedB ll i = true
    · have hne : usesF (i : Int) (ll.map (clauseT r v) ++ pairsN r i ll) ≠ [] := fun e => by rw [(uses_form hlt).1 e] at hu; cases hu
      have hz : ((su.n : Int) == 0) = false := by
        rw [ou.n]
        have : (usesF (i : Int) (ll.map (clauseT r v) ++ pairsN r i ll)).length ≠ 0 := fun e => hne (List.length_eq_zero_iff.1 e)
        simp; omega
      have hN2 : NetS H0 Hu s xs (ll.map (clauseT r v) ++ pairsN r (i + 1) ll) := by rw [pairsN_succ, hu]; simpa using hNu
      obtain ⟨s', xs', H', e3, g1⟩ := c_sFormulaNetwork_4 hr (s0 := s0) hv hll k (i + 1) s xs Hu (by omega) hN2
      refine ⟨s', xs', H', ?_, g1⟩
      rw [R_eq, e_sFormulaNetwork_4, lt_true hlt, w1 hlt (by omega), cond_true, eu]
      simp only [Option.bind_some, one_sl, hz, cond_false]
      exact e3
    · have hu' : usedB ll i = false := Bool.eq_false_iff.2 hu
      have hz : ((su.n : Int) == 0) = true := by rw [ou.n, (uses_form hlt).2 hu']; rfl
      obtain ⟨s1, H1, e1, n1⟩ := c_sl02One hr (Hu ++ [resB])
      obtain ⟨s2, H2, e2, n2⟩ := c_sl02One hr H1
      have hol := oneR_len r
      have hw := width_range hr
      obtain ⟨a, b, c, H3, e3, t3⟩ := c_sl37Pair (n1.own.is.le n2.le) n2.own.is (by omega) (i : Int)
      have t3' : NewT (Hu ++ [resB]) H3 a b c (pairT r i) := ⟨(n1.le.trans n2.le).trans t3.le, t3.rows.low (n1.le.trans n2.le).len⟩
      obtain ⟨s4, xs4, H4, e4, N4, l4, f4⟩ := hNu.push (by simp; omega) t3'
      have hN2 : NetS H0 H4 s4 xs4 (ll.map (clauseT r v) ++ pairsN r (i + 1) ll) := by rw [pairsN_succ, hu']; simpa using N4
      obtain ⟨s', xs', H', e5, g1⟩ := c_sFormulaNetwork_4 hr (s0 := s0) hv hll k (i + 1) s4 xs4 H4 (by omega) hN2
      refine ⟨s', xs', H', ?_, g1⟩
      rw [R_eq, e_sFormulaNetwork_4, lt_true hlt, w1 hlt (by omega), cond_true, eu]
      simp only [Option.bind_some, one_sl, hz, cond_true]
      rw [reserve1, e1]
      simp only [Option.bind_some, one_sl]
      rw [e2]
      simp only [Option.bind_some, one_sl]
      rw [e3]
      simp only [Option.bind_some, oneP, PV.agg?, List.length_cons, List.length_nil, decide_true, cond_true, slAt, List.getElem?_cons_zero, List.getElem?_cons_succ]
      rw [e4]
      exact e5

/-- spec.FormulaNetwork: the clauses -/
theorem c_sFormulaNetwork_0 {r : Rg} (hr : ringB r = true) {H0 : AH} {v : Nat} {sc s0 q : Sl} {ll : List (List Int)} (hv : v ≤ 10) (hsc : I2 H0 sc ll) (hll : ll.length ≤ 12) (hl : ∀ l ∈ ll, LitsOk v l) :
    ∀ (k i : Nat) (s : Sl) (xs : List Tri) (H : AH), i + k = ll.length → NetS H0 H s xs ((ll.take i).map (clauseT r v)) →
      ∃ s' xs' H', R (.loop F.sFormulaNetwork 0) [ssc sc, isc (ll.length : Int), isc (i : Int), r.pv, cpv (v : Int) s0, npv r s q] H = some ⟨2, [npv r s' q], H'⟩ ∧ NetS H0 H' s' xs' (ll.map (clauseT r v))
  | 0, i, s, xs, H, hi, hN => by
    obtain rfl : i = ll.length := by omega
    rw [List.take_of_length_le (Nat.le_refl _)] at hN
    exact ⟨s, xs, H, by rw [R_eq, e_sFormulaNetwork_0, lt_self]; rfl, hN⟩
  | k + 1, i, s, xs, H, hi, hN => by
    have hlt : i < ll.length := by omega
    obtain ⟨a1, ha1, hk1⟩ := (hsc.le hN.fr.le).ld hlt
    have hli := hl ll[i] (List.getElem_mem hlt)
    have hlen := labelsF_len v ll[i]
    -- the labels
    have hleA := (Le.app H [⟨[], .rw, 1⟩]).trans (Le.app _ [⟨[], .rw, 1⟩])
    have F0 : Fr H (H ++ [⟨[], .rw, 1⟩] ++ [⟨[], .rw, 1⟩]) [(⟨H.length, 0, 0, 0, true⟩, []), (⟨(H ++ [(⟨[], .rw, 1⟩ : Blk)]).length, 0, 0, 0, true⟩, [])] := ((Fr.of hleA).empty _).empty _
    obtain ⟨sL, sD, H1, e1, F1⟩ := c_sFormulaNetwork_1 (s0 := s0) hv ha1 hli.1 v 0 _ _ _ (by omega) F0
    -- noughts
    obtain ⟨a, b, c, H2, e2, t2⟩ := c_sl05Zero hr (F1.is (s := sL) (l := labelsF v ll[i]) (by simp)) (F1.is (s := sD) (l := List.replicate (labelsF v ll[i]).length 2) (by simp)) (by omega) (twos_ok (by omega))
    have F2 := F1.newT t2
    have hpn : (prd (List.replicate (labelsF v ll[i]).length 2)).toNat = 2 ^ (labelsF v ll[i]).length := by rw [prd_twos, Int.toNat_natCast]
    rw [hpn, ← elsN_zero (elemF r v ll[i] (labelsF v ll[i]))] at F2
    obtain ⟨H3, e3, F3⟩ := c_sFormulaNetwork_2 hr (s := a1) (s0 := s0) (sL := sL) (sD := sD) (L := labelsF v ll[i]) hv ha1 hli (fun x hx => labelsF_mem hx) hlen (2 ^ (labelsF v ll[i]).length) 0 H2 (by omega) F2
    have hN3 := hN.ext F3.le
    have F4 : Fr H0 H3 (rows3 a b c (clauseT r v ll[i]) ++ rowsT xs ((ll.take i).map (clauseT r v))) :=
      ⟨hN3.fr.le, rows_after hN.fr.rows hN.fr.le.len F3.le (F3.rows.sub (qs := rows3 a b c (clauseT r v ll[i])) (.cons₂ _ (.cons₂ _ (.cons₂ _ (.cons _ (.cons _ .slnil))))))⟩
    have hxl : xs.length ≤ 12 := by rw [hN.len]; simp; omega
    obtain ⟨s4, H4, e4, F5, O5, l5, f5⟩ := push_tensor' (a := a) (b := b) (c := c) F4 hN3.out (by omega)
    have F6 := Fr.snocT (rs := []) (xs := xs) (by simpa using F5) hN.len
    rw [List.append_nil] at F6
    have hN2 : NetS H0 H4 s4 (xs ++ [(a, b, c)]) ((ll.take (i + 1)).map (clauseT r v)) := by
      rw [take_snoc_any hlt, List.map_append]
      exact ⟨F6, by simp [hN.len], O5⟩
    obtain ⟨s', xs', H', e5, g1⟩ := c_sFormulaNetwork_0 hr hv hsc hll hl k (i + 1) s4 (xs ++ [(a, b, c)]) H4 (by omega) hN2
    refine ⟨s', xs', H', ?_, g1⟩
    rw [R_eq, e_sFormulaNetwork_0, lt_true hlt, w1 hlt (by omega), cond_true, hk1, newB_one]
    simp only [Option.bind_some, newB_one]
    have e1 : R (.loop F.sFormulaNetwork 1) [ssc a1, ssc ⟨H.length, 0, 0, 0, true⟩, ssc ⟨(H ++ [(⟨[], .rw, 1⟩ : Blk)]).length, 0, 0, 0, true⟩, isc 1, cpv (v : Int) s0] (H ++ [⟨[], .rw, 1⟩] ++ [⟨[], .rw, 1⟩]) = _ := e1
    rw [e1]
    simp only [Option.bind_some, Nat.beq, cond_true, nthP, List.getElem?_cons_zero, List.getElem?_cons_succ, PV.sc?, slAt]
    rw [e2]
    simp only [Option.bind_some, oneP, PV.agg?, List.length_cons, List.length_nil, decide_true, cond_true, slAt, List.getElem?_cons_zero, List.getElem?_cons_succ]
    rw [n0z] at e3
    rw [e3]
    simp only [Option.bind_some, Nat.beq, cond_true]
    rw [e4]
    exact e5

/-- spec.FormulaNetwork -/
theorem c_sFormulaNetwork {r : Rg} {H : AH} {w : Int} {s : Sl} {ll : List (List Int)} (hs : I2 H s ll) :
    (fnB r w ll = true ∧ ∃ s' xs H', R (.fn F.sFormulaNetwork) [r.pv, cpv w s] H = some ⟨1, [npv r s' ⟨0, 0, 0, 0, true⟩, bsc true], H'⟩ ∧ NetS H H' s' xs (formT r w.toNat ll)) ∨
    (fnB r w ll = false ∧ ∃ H', R (.fn F.sFormulaNetwork) [r.pv, cpv w s] H = some ⟨1, [npv0, bsc false], H'⟩ ∧ Le H H') := by
  unfold fnB
  cases hr : ringB r with
  | false => exact .inr ⟨rfl, H, by rw [R_eq, e_sFormulaNetwork, c_sRingOk, hr]; rfl, Le.refl H⟩
  | true =>
  cases hc : cnfB w ll with
  | false =>
    refine .inr ⟨rfl, H, ?_, Le.refl H⟩
    rw [R_eq, e_sFormulaNetwork, c_sRingOk, hr]
    simp only [Option.bind_some, one_bool, Bool.not_true, cond_false]
    rw [c_sCnfOk hs, hc]
    rfl
  | true =>
  obtain ⟨v, rfl, hv, hll, hl⟩ := cnf_facts hc
  have hN0 : NetS H H ⟨0, 0, 0, 0, true⟩ [] ((ll.take 0).map (clauseT r v)) := ⟨by simp [rowsT]; exact Fr.start H, by simp, OOut.nil _ _ _⟩
  obtain ⟨s1, xs1, H1, e1, N1⟩ := c_sFormulaNetwork_0 (sc := s) (s0 := s) (q := ⟨0, 0, 0, 0, true⟩) hr hv hs hll hl ll.length 0 ⟨0, 0, 0, 0, true⟩ [] _ (by omega) hN0
  have hp0 : pairsN r 0 ll = [] := rfl
  obtain ⟨s2, xs2, H2, e2, N2⟩ := c_sFormulaNetwork_4 (s0 := s) (q := ⟨0, 0, 0, 0, true⟩) (ll := ll) hr hv hll v 0 s1 xs1 H1 (by omega) (by rw [hp0, List.append_nil]; exact N1)
  have hform : ll.map (clauseT r v) ++ pairsN r v ll = formT r v ll := rfl
  rw [n0z] at e1 e2
  rw [hform] at N2
  have hNS : NS H2 s2 ⟨0, 0, 0, 0, true⟩ (netF r v ll) := ⟨N2.t3, IS.nil _ _ _ _ _⟩
  obtain ⟨H3, e3, l3⟩ := c_sNetworkOk hNS (by simp [netF])
  have hmain : R (.fn F.sFormulaNetwork) [r.pv, cpv (v : Int) s] H = cond (netB (netF r v ll)) (some ⟨1, [npv r s2 ⟨0, 0, 0, 0, true⟩, bsc true], H3⟩) (some ⟨1, [npv0, bsc false], H3⟩) := by
    rw [R_eq, e_sFormulaNetwork, c_sRingOk, hr]
    simp only [Option.bind_some, one_bool, Bool.not_true, cond_false]
    rw [c_sCnfOk hs, hc]
    simp only [Option.bind_some, one_bool, Bool.not_true, cond_false]
    rw [hs.1, e1]
    simp only [Option.bind_some, Nat.beq, cond_true, nthP, List.getElem?_cons_zero, PV.agg?, List.length_cons, List.length_nil, decide_true, intAt, slAt, List.getElem?_cons_succ, if_true]
    rw [e2]
    simp only [Option.bind_some, Nat.beq, cond_true, nthP, List.getElem?_cons_zero, PV.agg?, List.length_cons, List.length_nil, decide_true, intAt, slAt, List.getElem?_cons_succ, if_true]
    have e3 : R (.fn F.sNetworkOk) [npv r s2 ⟨0, 0, 0, 0, true⟩] H2 = some ⟨1, [bsc (netB (netF r v ll))], H3⟩ := e3
    rw [e3]
    simp only [Option.bind_some, one_bool]
    cases netB (netF r v ll) <;> rfl
  rw [Int.toNat_natCast]
  cases hn : netB (netF r v ll) with
  | true => exact .inl ⟨rfl, s2, xs2, H3, by rw [hmain, hn]; rfl, N2.ext l3⟩
  | false => exact .inr ⟨rfl, H3, by rw [hmain, hn]; rfl, N2.fr.le.trans l3⟩
end Go.Abs
/- Words: arguments that are opened; networks of their own under changes elsewhere. -/
namespace Go.Abs
set_option linter.unusedVariables false
set_option linter.unusedSimpArgs false
set_option linter.all false
set_option maxRecDepth 10000

theorem list_choice {α : Type} {E : Nat → α → Prop} : ∀ (c : Nat), (∀ i, i < c → ∃ x, E i x) → ∃ xs : List α, xs.length = c ∧ ∀ (i : Nat) x, xs[i]? = some x → E i x
  | 0, _ => ⟨[], rfl, fun i x h => by simp at h⟩
  | c + 1, h => by
    obtain ⟨xs, h1, h2⟩ := list_choice c fun i hi => h i (by omega)
    obtain ⟨x, hx⟩ := h c (by omega)
    refine ⟨xs ++ [x], by simp [h1], fun i y hy => ?_⟩
    rcases Nat.lt_or_ge i c with e | e
    · rw [List.getElem?_append_left (by omega)] at hy
      exact h2 i y hy
    · have hl := (List.getElem?_eq_some_iff.1 hy).1
      simp [h1] at hl
      have : i = c := by omega
      subst this
      rw [List.getElem?_append_right (by omega)] at hy
      simp [h1] at hy
      subst hy; exact hx

section
variable {H : AH}
def I64 (i : Int) : Prop := -9223372036854775808 ≤ i ∧ i ≤ 9223372036854775807
theorem open_int {n : Nat} {t : TypeId} (hu : P.underlying t = some (.int .i64)) {l : List Sc} (h : typed P (n + 1) H t l) : ∃ i, l = [.int .i64 i] ∧ I64 i := by
  simp only [typed, hu] at h
  obtain ⟨i, h1, h2⟩ := h
  refine ⟨i, h1, ?_⟩
  simp [Lit.wf, IntKind.min, IntKind.max, IntKind.signed, IntKind.bits] at h2
  unfold I64; omega
theorem open_bool {n : Nat} {t : TypeId} (hu : P.underlying t = some .bool) {l : List Sc} (h : typed P (n + 1) H t l) : ∃ b, l = [.bool b] := by
  simp only [typed, hu] at h
  exact h
/-- A slice that reads: its elements, one by one. -/
theorem open_sl {α : Type} {E : Nat → List Sc → α → Prop} {n : Nat} {t e : TypeId} {z : Nat} (hu : P.underlying t = some (.slice e)) (hz : tsz P e = z) {l : List Sc} (h : typed P (n + 1) H t l)
    (hE : ∀ (cells : List Sc) i, typed P n H e ((cells.drop (i * z)).take z) → ∃ x, E i cells x) :
    ∃ s xs, l = [.sl s] ∧ s.n = xs.length ∧ s.n ≤ s.c ∧ xs.length ≤ maxLen ∧ s.o = 0 ∧ (xs = [] ∨ ∃ cells, rdB H s.b = some cells ∧ ∀ (i : Nat) x, xs[i]? = some x → E i cells x) := by
  simp only [typed, hu] at h
  rcases h with rfl | ⟨b, m, c, cells, rfl, h1, h2, h3, h4, h5, h6⟩
  · exact ⟨_, [], rfl, rfl, Nat.le_refl _, Nat.zero_le _, rfl, .inl rfl⟩
  · obtain ⟨xs, g1, g2⟩ := list_choice (E := fun i x => E i cells x) m fun i hi => hE cells i (by have := h6 i (by omega); rw [hz] at this; exact this)
    refine ⟨_, xs, rfl, g1.symm, h1, by omega, rfl, .inr ⟨cells, ?_, g2⟩⟩
    unfold rdB
    rw [h4]; rfl
theorem take_one {cells : List Sc} {i z : Nat} {x : Sc} (hz : z = 1) (h : (cells.drop (i * z)).take z = [x]) : cells[i]? = some x := by
  subst hz
  rw [Nat.mul_one] at h
  have := congrArg (fun l => l[0]?) h
  simpa using this
theorem open_ints {n : Nat} {t e : TypeId} (hu : P.underlying t = some (.slice e)) (he : P.underlying e = some (.int .i64)) (hz : tsz P e = 1) {l : List Sc} (h : typed P (n + 2) H t l) :
    ∃ s xs, l = [.sl s] ∧ IS H s xs ∧ xs.length ≤ maxLen ∧ ∀ x ∈ xs, I64 x := by
  obtain ⟨s, xs, h1, h2, h3, h4, h5, h6⟩ := open_sl (E := fun i cells (x : Int) => cells[i]? = some (.int .i64 x) ∧ I64 x) hu hz h (fun cells i ht => by
    obtain ⟨x, hx, hi⟩ := open_int he ht
    exact ⟨x, take_one rfl hx, hi⟩)
  refine ⟨s, xs, h1, ⟨h2, h3, h6.imp id fun ⟨cells, g1, g2⟩ => ⟨cells, g1, fun i x hx => by rw [h5, Nat.zero_add]; exact (g2 i x hx).1⟩⟩, h4, fun x hx => ?_⟩
  obtain ⟨j, hj⟩ := List.getElem?_of_mem hx
  rcases h6 with e | ⟨cells, _, g2⟩
  · rw [e] at hx; simp at hx
  · exact (g2 j x hj).2
theorem open_rows {n : Nat} {t u e : TypeId} (ht : P.underlying t = some (.slice u)) (hu : P.underlying u = some (.slice e)) (he : P.underlying e = some (.int .i64)) (hz1 : tsz P u = 1) (hz : tsz P e = 1) {l : List Sc} (h : typed P (n + 3) H t l) :
    ∃ s ll, l = [.sl s] ∧ I2 H s ll ∧ ll.length ≤ maxLen ∧ ∀ x ∈ ll, x.length ≤ maxLen := by
  obtain ⟨s, xs, h1, h2, h3, h4, h5, h6⟩ := open_sl (E := fun i cells (x : List Int) => ∃ a, cells[i]? = some (.sl a) ∧ IS H a x ∧ x.length ≤ maxLen) ht hz1 h (fun cells i ht => by
    obtain ⟨a, x, hx, hi, hm, _⟩ := open_ints hu he hz ht
    exact ⟨x, a, take_one rfl hx, hi, hm⟩)
  refine ⟨s, xs, h1, ⟨h2, h3, h6.imp id fun ⟨cells, g1, g2⟩ => ⟨cells, g1, fun i x hx => by
    rw [h5, Nat.zero_add]
    obtain ⟨a, e1, e2, _⟩ := g2 i x hx
    exact ⟨a, e1, e2⟩⟩⟩, h4, fun x hx => ?_⟩
  obtain ⟨j, hj⟩ := List.getElem?_of_mem hx
  rcases h6 with e | ⟨cells, _, g2⟩
  · rw [e] at hx; simp at hx
  · obtain ⟨a, _, _, e3⟩ := g2 j x hj; exact e3
end

/-- A network of its own, at or above a place. -/
structure NetO (n0 : Nat) (H : AH) (s u : Sl) (xs : List Tri) (n : Nw) : Prop where
  len : xs.length = n.ts.length
  out : OOut n0 H s xs
  rows : Rows n0 H (rowsN xs u n)
theorem NetO.own {n0 : Nat} {H : AH} {s u : Sl} {xs : List Tri} {n : Nw} (h : NetO n0 H s u xs n) : OwnN n0 H s u xs n := ⟨h.len, h.out.outer, h.rows⟩
theorem NetO.ns {n0 : Nat} {H : AH} {s u : Sl} {xs : List Tri} {n : Nw} (h : NetO n0 H s u xs n) : NS H s u n :=
  ⟨t3_of h.out.outer h.len fun p hp => (h.rows.own p (by unfold rowsN; simp [hp])).is, (h.rows.own (u, n.op) (by unfold rowsN; simp)).is⟩
theorem NetO.keep {n0 : Nat} {H H' : AH} {s u : Sl} {xs : List Tri} {n : Nw} (h : NetO n0 H s u xs n) (hf : ∀ b, n0 ≤ b → b < H.length → H'[b]? = H[b]?) : NetO n0 H' s u xs n := by
  refine ⟨h.len, h.out.keep fun hx => ?_, h.rows.frame fun p hp hne => ?_⟩
  · refine hf _ ?_ (h.out.lt hx)
    rcases h.out.blk with ⟨e, _⟩ | ⟨_, e, _⟩
    · exact absurd e hx
    · exact e
  · refine hf _ ?_ (h.rows.lt p hp hne)
    rcases (h.rows.own p hp).lo with e | e
    · exact absurd e hne
    · exact e
theorem NetS.neto {H0 H : AH} {s : Sl} {xs : List Tri} {r : Rg} {ts : List Tn} (h : NetS H0 H s xs ts) (b : Nat) : NetO H0.length H s ⟨b, 0, 0, 0, true⟩ xs ⟨r, ts, []⟩ :=
  ⟨h.len, h.out, by
    unfold rowsN
    refine ⟨fun p hp => ?_, List.pairwise_append.2 ⟨h.fr.rows.apart, by simp, fun p hp q hq => by simp at hq; subst hq; exact .inr (.inl rfl)⟩⟩
    rcases List.mem_append.1 hp with hp | hp
    · exact h.fr.rows.own p hp
    · simp at hp; subst hp; exact Own.nil _ _ _⟩
def nw0 : Nw := ⟨⟨0, 0, 0⟩, [], []⟩
theorem neto0 (n0 : Nat) (H : AH) (b b' : Nat) : NetO n0 H ⟨b, 0, 0, 0, true⟩ ⟨b', 0, 0, 0, true⟩ [] nw0 := ⟨rfl, OOut.nil _ _ _, by simp [rowsN, rowsT, nw0]; exact (Rows.nil _ _).cons (Own.nil _ _ _) (by simp)⟩
theorem small_net {n : Nw} (h : netB n = true ∨ n = nw0) : SmallN n ∧ (∀ t ∈ n.ts, TnSmall t) ∧ n.ts.length ≤ 1048576 ∧ n.op.length ≤ 1048576 := by
  rcases h with h | rfl
  · simp only [netB, Bool.and_eq_true, decide_eq_true_eq] at h
    obtain ⟨⟨⟨h1, h2⟩, h3⟩, h4⟩ := h
    have hop := (sizeB_open h4).1
    have hw := width_range h1
    have ht : ∀ t ∈ n.ts, t.L.length ≤ 12 ∧ t.D.length ≤ 12 ∧ t.X.length ≤ 24576 := fun t ht => by
      have hb := cons_mem h3 t ht
      obtain ⟨g1, g2, _⟩ := tensor_dims hb
      simp only [tensorB, Bool.and_eq_true, decide_eq_true_eq] at hb
      refine ⟨g2, by omega, ?_⟩
      have hs := sizeB_range t.L t.D
      have hx := hb.1.2
      have hle : sizeB t.L t.D * widthR n.r ≤ 4096 * 6 := by
        rcases hs with hs | hs
        · exact absurd hs hb.1.1.2
        · exact Int.mul_le_mul hs.2 hw.2 (by omega) (by omega)
      omega
    refine ⟨⟨by omega, fun t h => ?_, by omega, ?_⟩, fun t h => ?_, by omega, by omega⟩
    · obtain ⟨a, b, c⟩ := ht t h
      exact ⟨by omega, by omega, by omega⟩
    · have : ∀ ts : List Tn, (∀ t ∈ ts, t.L.length ≤ 12 ∧ t.D.length ≤ 12 ∧ t.X.length ≤ 24576) → cntTs ts ≤ ts.length * 24600 := by
        intro ts
        induction ts with
        | nil => intro _; simp [cntTs]
        | cons t ts ih =>
          intro h
          obtain ⟨a, b, c⟩ := h t List.mem_cons_self
          have := ih fun u hu => h u (List.mem_cons_of_mem _ hu)
          simp only [cntTs, cntT, List.length_cons]
          omega
      have := this n.ts ht
      omega
    · obtain ⟨a, b, c⟩ := ht t h
      exact ⟨by omega, by omega, by omega⟩
  · exact ⟨⟨by simp [nw0], by simp [nw0], by simp [nw0], by simp [nw0, cntTs]⟩, by simp [nw0], by simp [nw0], by simp [nw0]⟩
end Go.Abs
/- What the results of calls are taken apart to. Printed by clgen.py. -/
namespace Go.Abs
set_option linter.all false
theorem o_iii (a0_0 : Int) (a0_1 : Int) (a0_2 : Int) {α : Type} (k : Int → Int → Int → Option α) : ((oneP [.agg [.int .i64 a0_0, .int .i64 a0_1, .int .i64 a0_2]]).bind fun p => p.agg?.bind fun l => cond (decide (l.length = 3)) ((intAt .i64 l 0).bind fun x0_0 => (intAt .i64 l 1).bind fun x0_1 => (intAt .i64 l 2).bind fun x0_2 => k x0_0 x0_1 x0_2) none) = k a0_0 a0_1 a0_2 := rfl
theorem o_is (a0_0 : Int) (a0_1 : Sl) {α : Type} (k : Int → Sl → Option α) : ((oneP [.agg [.int .i64 a0_0, .sl a0_1]]).bind fun p => p.agg?.bind fun l => cond (decide (l.length = 2)) ((intAt .i64 l 0).bind fun x0_0 => (slAt l 1).bind fun x0_1 => k x0_0 x0_1) none) = k a0_0 a0_1 := rfl
theorem o_sss (a0_0 : Sl) (a0_1 : Sl) (a0_2 : Sl) {α : Type} (k : Sl → Sl → Sl → Option α) : ((oneP [.agg [.sl a0_0, .sl a0_1, .sl a0_2]]).bind fun p => p.agg?.bind fun l => cond (decide (l.length = 3)) ((slAt l 0).bind fun x0_0 => (slAt l 1).bind fun x0_1 => (slAt l 2).bind fun x0_2 => k x0_0 x0_1 x0_2) none) = k a0_0 a0_1 a0_2 := rfl
theorem o_iiiss (a0_0 : Int) (a0_1 : Int) (a0_2 : Int) (a0_3 : Sl) (a0_4 : Sl) {α : Type} (k : Int → Int → Int → Sl → Sl → Option α) : ((oneP [.agg [.int .i64 a0_0, .int .i64 a0_1, .int .i64 a0_2, .sl a0_3, .sl a0_4]]).bind fun p => p.agg?.bind fun l => cond (decide (l.length = 5)) ((intAt .i64 l 0).bind fun x0_0 => (intAt .i64 l 1).bind fun x0_1 => (intAt .i64 l 2).bind fun x0_2 => (slAt l 3).bind fun x0_3 => (slAt l 4).bind fun x0_4 => k x0_0 x0_1 x0_2 x0_3 x0_4) none) = k a0_0 a0_1 a0_2 a0_3 a0_4 := rfl
theorem o_iis (a0_0 : Int) (a0_1 : Int) (a0_2 : Sl) {α : Type} (k : Int → Int → Sl → Option α) : ((oneP [.agg [.int .i64 a0_0, .int .i64 a0_1, .sl a0_2]]).bind fun p => p.agg?.bind fun l => cond (decide (l.length = 3)) ((intAt .i64 l 0).bind fun x0_0 => (intAt .i64 l 1).bind fun x0_1 => (slAt l 2).bind fun x0_2 => k x0_0 x0_1 x0_2) none) = k a0_0 a0_1 a0_2 := rfl
theorem o_ii (a0_0 : Int) (a0_1 : Int) {α : Type} (k : Int → Int → Option α) : ((oneP [.agg [.int .i64 a0_0, .int .i64 a0_1]]).bind fun p => p.agg?.bind fun l => cond (decide (l.length = 2)) ((intAt .i64 l 0).bind fun x0_0 => (intAt .i64 l 1).bind fun x0_1 => k x0_0 x0_1) none) = k a0_0 a0_1 := rfl
theorem o_ss (a0_0 : Sl) (a0_1 : Sl) {α : Type} (k : Sl → Sl → Option α) : ((oneP [.agg [.sl a0_0, .sl a0_1]]).bind fun p => p.agg?.bind fun l => cond (decide (l.length = 2)) ((slAt l 0).bind fun x0_0 => (slAt l 1).bind fun x0_1 => k x0_0 x0_1) none) = k a0_0 a0_1 := rfl
theorem o_ssi (a0_0 : Sl) (a0_1 : Sl) (a0_2 : Int) {α : Type} (k : Sl → Sl → Int → Option α) : ((oneP [.agg [.sl a0_0, .sl a0_1, .int .i64 a0_2]]).bind fun p => p.agg?.bind fun l => cond (decide (l.length = 3)) ((slAt l 0).bind fun x0_0 => (slAt l 1).bind fun x0_1 => (intAt .i64 l 2).bind fun x0_2 => k x0_0 x0_1 x0_2) none) = k a0_0 a0_1 a0_2 := rfl
theorem o_ssisss (a0_0 : Sl) (a0_1 : Sl) (a0_2 : Int) (a0_3 : Sl) (a0_4 : Sl) (a0_5 : Sl) {α : Type} (k : Sl → Sl → Int → Sl → Sl → Sl → Option α) : ((oneP [.agg [.sl a0_0, .sl a0_1, .int .i64 a0_2, .sl a0_3, .sl a0_4, .sl a0_5]]).bind fun p => p.agg?.bind fun l => cond (decide (l.length = 6)) ((slAt l 0).bind fun x0_0 => (slAt l 1).bind fun x0_1 => (intAt .i64 l 2).bind fun x0_2 => (slAt l 3).bind fun x0_3 => (slAt l 4).bind fun x0_4 => (slAt l 5).bind fun x0_5 => k x0_0 x0_1 x0_2 x0_3 x0_4 x0_5) none) = k a0_0 a0_1 a0_2 a0_3 a0_4 a0_5 := rfl
theorem o_ssii (a0_0 : Sl) (a0_1 : Sl) (a0_2 : Int) (a0_3 : Int) {α : Type} (k : Sl → Sl → Int → Int → Option α) : ((oneP [.agg [.sl a0_0, .sl a0_1, .int .i64 a0_2, .int .i64 a0_3]]).bind fun p => p.agg?.bind fun l => cond (decide (l.length = 4)) ((slAt l 0).bind fun x0_0 => (slAt l 1).bind fun x0_1 => (intAt .i64 l 2).bind fun x0_2 => (intAt .i64 l 3).bind fun x0_3 => k x0_0 x0_1 x0_2 x0_3) none) = k a0_0 a0_1 a0_2 a0_3 := rfl
theorem o_iiissssisss (a0_0 : Int) (a0_1 : Int) (a0_2 : Int) (a0_3 : Sl) (a0_4 : Sl) (a0_5 : Sl) (a0_6 : Sl) (a0_7 : Int) (a0_8 : Sl) (a0_9 : Sl) (a0_10 : Sl) {α : Type} (k : Int → Int → Int → Sl → Sl → Sl → Sl → Int → Sl → Sl → Sl → Option α) : ((oneP [.agg [.int .i64 a0_0, .int .i64 a0_1, .int .i64 a0_2, .sl a0_3, .sl a0_4, .sl a0_5, .sl a0_6, .int .i64 a0_7, .sl a0_8, .sl a0_9, .sl a0_10]]).bind fun p => p.agg?.bind fun l => cond (decide (l.length = 11)) ((intAt .i64 l 0).bind fun x0_0 => (intAt .i64 l 1).bind fun x0_1 => (intAt .i64 l 2).bind fun x0_2 => (slAt l 3).bind fun x0_3 => (slAt l 4).bind fun x0_4 => (slAt l 5).bind fun x0_5 => (slAt l 6).bind fun x0_6 => (intAt .i64 l 7).bind fun x0_7 => (slAt l 8).bind fun x0_8 => (slAt l 9).bind fun x0_9 => (slAt l 10).bind fun x0_10 => k x0_0 x0_1 x0_2 x0_3 x0_4 x0_5 x0_6 x0_7 x0_8 x0_9 x0_10) none) = k a0_0 a0_1 a0_2 a0_3 a0_4 a0_5 a0_6 a0_7 a0_8 a0_9 a0_10 := rfl
theorem o_isss (a0_0 : Int) (a0_1 : Sl) (a0_2 : Sl) (a0_3 : Sl) {α : Type} (k : Int → Sl → Sl → Sl → Option α) : ((oneP [.agg [.int .i64 a0_0, .sl a0_1, .sl a0_2, .sl a0_3]]).bind fun p => p.agg?.bind fun l => cond (decide (l.length = 4)) ((intAt .i64 l 0).bind fun x0_0 => (slAt l 1).bind fun x0_1 => (slAt l 2).bind fun x0_2 => (slAt l 3).bind fun x0_3 => k x0_0 x0_1 x0_2 x0_3) none) = k a0_0 a0_1 a0_2 a0_3 := rfl
theorem t_iiiss_b (a0_0 : Int) (a0_1 : Int) (a0_2 : Int) (a0_3 : Sl) (a0_4 : Sl) (a1 : Bool) {α : Type} (k : Int → Int → Int → Sl → Sl → Bool → Option α) : ((lenP [.agg [.int .i64 a0_0, .int .i64 a0_1, .int .i64 a0_2, .sl a0_3, .sl a0_4], .sc (.bool a1)] 2).bind fun _ => (nthP [.agg [.int .i64 a0_0, .int .i64 a0_1, .int .i64 a0_2, .sl a0_3, .sl a0_4], .sc (.bool a1)] 0).bind fun p0 => p0.agg?.bind fun l0 => cond (decide (l0.length = 5)) ((intAt .i64 l0 0).bind fun x0_0 => (intAt .i64 l0 1).bind fun x0_1 => (intAt .i64 l0 2).bind fun x0_2 => (slAt l0 3).bind fun x0_3 => (slAt l0 4).bind fun x0_4 => (nthP [.agg [.int .i64 a0_0, .int .i64 a0_1, .int .i64 a0_2, .sl a0_3, .sl a0_4], .sc (.bool a1)] 1).bind fun p1 => p1.sc?.bind fun c1 => (boolAt [c1] 0).bind fun x1 => k x0_0 x0_1 x0_2 x0_3 x0_4 x1) none) = k a0_0 a0_1 a0_2 a0_3 a0_4 a1 := rfl
theorem t_sss_b (a0_0 : Sl) (a0_1 : Sl) (a0_2 : Sl) (a1 : Bool) {α : Type} (k : Sl → Sl → Sl → Bool → Option α) : ((lenP [.agg [.sl a0_0, .sl a0_1, .sl a0_2], .sc (.bool a1)] 2).bind fun _ => (nthP [.agg [.sl a0_0, .sl a0_1, .sl a0_2], .sc (.bool a1)] 0).bind fun p0 => p0.agg?.bind fun l0 => cond (decide (l0.length = 3)) ((slAt l0 0).bind fun x0_0 => (slAt l0 1).bind fun x0_1 => (slAt l0 2).bind fun x0_2 => (nthP [.agg [.sl a0_0, .sl a0_1, .sl a0_2], .sc (.bool a1)] 1).bind fun p1 => p1.sc?.bind fun c1 => (boolAt [c1] 0).bind fun x1 => k x0_0 x0_1 x0_2 x1) none) = k a0_0 a0_1 a0_2 a1 := rfl
theorem t_i_b (a0 : Int) (a1 : Bool) {α : Type} (k : Int → Bool → Option α) : ((lenP [.sc (.int .i64 a0), .sc (.bool a1)] 2).bind fun _ => (nthP [.sc (.int .i64 a0), .sc (.bool a1)] 0).bind fun p0 => p0.sc?.bind fun c0 => (intAt .i64 [c0] 0).bind fun x0 => (nthP [.sc (.int .i64 a0), .sc (.bool a1)] 1).bind fun p1 => p1.sc?.bind fun c1 => (boolAt [c1] 0).bind fun x1 => k x0 x1) = k a0 a1 := rfl
theorem t_ssii_b (a0_0 : Sl) (a0_1 : Sl) (a0_2 : Int) (a0_3 : Int) (a1 : Bool) {α : Type} (k : Sl → Sl → Int → Int → Bool → Option α) : ((lenP [.agg [.sl a0_0, .sl a0_1, .int .i64 a0_2, .int .i64 a0_3], .sc (.bool a1)] 2).bind fun _ => (nthP [.agg [.sl a0_0, .sl a0_1, .int .i64 a0_2, .int .i64 a0_3], .sc (.bool a1)] 0).bind fun p0 => p0.agg?.bind fun l0 => cond (decide (l0.length = 4)) ((slAt l0 0).bind fun x0_0 => (slAt l0 1).bind fun x0_1 => (intAt .i64 l0 2).bind fun x0_2 => (intAt .i64 l0 3).bind fun x0_3 => (nthP [.agg [.sl a0_0, .sl a0_1, .int .i64 a0_2, .int .i64 a0_3], .sc (.bool a1)] 1).bind fun p1 => p1.sc?.bind fun c1 => (boolAt [c1] 0).bind fun x1 => k x0_0 x0_1 x0_2 x0_3 x1) none) = k a0_0 a0_1 a0_2 a0_3 a1 := rfl
theorem t_ss_b (a0_0 : Sl) (a0_1 : Sl) (a1 : Bool) {α : Type} (k : Sl → Sl → Bool → Option α) : ((lenP [.agg [.sl a0_0, .sl a0_1], .sc (.bool a1)] 2).bind fun _ => (nthP [.agg [.sl a0_0, .sl a0_1], .sc (.bool a1)] 0).bind fun p0 => p0.agg?.bind fun l0 => cond (decide (l0.length = 2)) ((slAt l0 0).bind fun x0_0 => (slAt l0 1).bind fun x0_1 => (nthP [.agg [.sl a0_0, .sl a0_1], .sc (.bool a1)] 1).bind fun p1 => p1.sc?.bind fun c1 => (boolAt [c1] 0).bind fun x1 => k x0_0 x0_1 x1) none) = k a0_0 a0_1 a1 := rfl
theorem t_ssisss_b (a0_0 : Sl) (a0_1 : Sl) (a0_2 : Int) (a0_3 : Sl) (a0_4 : Sl) (a0_5 : Sl) (a1 : Bool) {α : Type} (k : Sl → Sl → Int → Sl → Sl → Sl → Bool → Option α) : ((lenP [.agg [.sl a0_0, .sl a0_1, .int .i64 a0_2, .sl a0_3, .sl a0_4, .sl a0_5], .sc (.bool a1)] 2).bind fun _ => (nthP [.agg [.sl a0_0, .sl a0_1, .int .i64 a0_2, .sl a0_3, .sl a0_4, .sl a0_5], .sc (.bool a1)] 0).bind fun p0 => p0.agg?.bind fun l0 => cond (decide (l0.length = 6)) ((slAt l0 0).bind fun x0_0 => (slAt l0 1).bind fun x0_1 => (intAt .i64 l0 2).bind fun x0_2 => (slAt l0 3).bind fun x0_3 => (slAt l0 4).bind fun x0_4 => (slAt l0 5).bind fun x0_5 => (nthP [.agg [.sl a0_0, .sl a0_1, .int .i64 a0_2, .sl a0_3, .sl a0_4, .sl a0_5], .sc (.bool a1)] 1).bind fun p1 => p1.sc?.bind fun c1 => (boolAt [c1] 0).bind fun x1 => k x0_0 x0_1 x0_2 x0_3 x0_4 x0_5 x1) none) = k a0_0 a0_1 a0_2 a0_3 a0_4 a0_5 a1 := rfl
theorem t_s_b (a0 : Sl) (a1 : Bool) {α : Type} (k : Sl → Bool → Option α) : ((lenP [.sc (.sl a0), .sc (.bool a1)] 2).bind fun _ => (nthP [.sc (.sl a0), .sc (.bool a1)] 0).bind fun p0 => p0.sc?.bind fun c0 => (slAt [c0] 0).bind fun x0 => (nthP [.sc (.sl a0), .sc (.bool a1)] 1).bind fun p1 => p1.sc?.bind fun c1 => (boolAt [c1] 0).bind fun x1 => k x0 x1) = k a0 a1 := rfl
theorem t_iii_b (a0_0 : Int) (a0_1 : Int) (a0_2 : Int) (a1 : Bool) {α : Type} (k : Int → Int → Int → Bool → Option α) : ((lenP [.agg [.int .i64 a0_0, .int .i64 a0_1, .int .i64 a0_2], .sc (.bool a1)] 2).bind fun _ => (nthP [.agg [.int .i64 a0_0, .int .i64 a0_1, .int .i64 a0_2], .sc (.bool a1)] 0).bind fun p0 => p0.agg?.bind fun l0 => cond (decide (l0.length = 3)) ((intAt .i64 l0 0).bind fun x0_0 => (intAt .i64 l0 1).bind fun x0_1 => (intAt .i64 l0 2).bind fun x0_2 => (nthP [.agg [.int .i64 a0_0, .int .i64 a0_1, .int .i64 a0_2], .sc (.bool a1)] 1).bind fun p1 => p1.sc?.bind fun c1 => (boolAt [c1] 0).bind fun x1 => k x0_0 x0_1 x0_2 x1) none) = k a0_0 a0_1 a0_2 a1 := rfl
theorem t_s_s (a0 : Sl) (a1 : Sl) {α : Type} (k : Sl → Sl → Option α) : ((lenP [.sc (.sl a0), .sc (.sl a1)] 2).bind fun _ => (nthP [.sc (.sl a0), .sc (.sl a1)] 0).bind fun p0 => p0.sc?.bind fun c0 => (slAt [c0] 0).bind fun x0 => (nthP [.sc (.sl a0), .sc (.sl a1)] 1).bind fun p1 => p1.sc?.bind fun c1 => (slAt [c1] 0).bind fun x1 => k x0 x1) = k a0 a1 := rfl
theorem t_sss_i (a0_0 : Sl) (a0_1 : Sl) (a0_2 : Sl) (a1 : Int) {α : Type} (k : Sl → Sl → Sl → Int → Option α) : ((lenP [.agg [.sl a0_0, .sl a0_1, .sl a0_2], .sc (.int .i64 a1)] 2).bind fun _ => (nthP [.agg [.sl a0_0, .sl a0_1, .sl a0_2], .sc (.int .i64 a1)] 0).bind fun p0 => p0.agg?.bind fun l0 => cond (decide (l0.length = 3)) ((slAt l0 0).bind fun x0_0 => (slAt l0 1).bind fun x0_1 => (slAt l0 2).bind fun x0_2 => (nthP [.agg [.sl a0_0, .sl a0_1, .sl a0_2], .sc (.int .i64 a1)] 1).bind fun p1 => p1.sc?.bind fun c1 => (intAt .i64 [c1] 0).bind fun x1 => k x0_0 x0_1 x0_2 x1) none) = k a0_0 a0_1 a0_2 a1 := rfl
theorem ne_b (b : Bool) : (b != b) = false := by cases b <;> rfl
theorem ne_i (i : Int) : (i != i) = false := by simp
end Go.Abs
/- The law FnExactFormulaNetwork: its contract in plain Lean. -/
namespace Go.Abs
set_option linter.all false
set_option maxRecDepth 10000

def fieldsOf (P : Program) (t : TypeId) : Option (List (TypeId × Nat × Nat)) := match P.underlying t with
  | some (.struct fs) => some (fs.toList.map fun f => (f.type, f.offset, tsz P f.type))
  | _ => none
theorem open_struct {H : AH} {n : Nat} {t : TypeId} {L : List (TypeId × Nat × Nat)} (hf : fieldsOf P t = some L) {l : List Sc} (h : typed P (n + 1) H t l) : l.length = tsz P t ∧ ∀ x ∈ L, typed P n H x.1 ((l.drop x.2.1).take x.2.2) := by
  unfold fieldsOf at hf
  split at hf
  · rename_i fs hu
    cases hf
    simp only [typed, hu] at h
    refine ⟨h.1, fun x hx => ?_⟩
    obtain ⟨f, hm, rfl⟩ := List.mem_map.1 hx
    exact h.2 f hm
  · cases hf
theorem pvT_struct {t : TypeId} {L : List (TypeId × Nat × Nat)} (hf : fieldsOf P t = some L) (l : List Sc) : pvT P t l = .agg l := by
  unfold fieldsOf at hf
  unfold pvT
  split at hf
  · rename_i fs hu
    rw [hu]
  · cases hf
theorem u_int : P.underlying Y.tint = some (.int .i64) := by kernel_rfl
theorem u_Sint : P.underlying Y.tSint = some (.slice Y.tint) := by kernel_rfl
theorem u_SSint : P.underlying Y.tSSint = some (.slice Y.tSint) := by kernel_rfl
theorem z_int : tsz P Y.tint = 1 := by kernel_rfl
theorem z_Sint : tsz P Y.tSint = 1 := by kernel_rfl
theorem f_Ring : fieldsOf P Y.tlaws_Ring = some [(Y.tint, 0, 1), (Y.tint, 1, 1), (Y.tint, 2, 1)] := by kernel_rfl
theorem z_Ring : tsz P Y.tlaws_Ring = 3 := by kernel_rfl
theorem f_Cnf : fieldsOf P Y.tlaws_Cnf = some [(Y.tint, 0, 1), (Y.tSSint, 1, 1)] := by kernel_rfl
theorem z_Cnf : tsz P Y.tlaws_Cnf = 2 := by kernel_rfl
theorem len3 {α : Type} {l : List α} (h : l.length = 3) : ∃ a b c, l = [a, b, c] := by
  match l, h with
  | [a, b, c], _ => exact ⟨a, b, c, rfl⟩
theorem len2 {α : Type} {l : List α} (h : l.length = 2) : ∃ a b, l = [a, b] := by
  match l, h with
  | [a, b], _ => exact ⟨a, b, rfl⟩
theorem open_ring {H : AH} {n : Nat} {l : List Sc} (h : typed P (n + 2) H Y.tlaws_Ring l) : ∃ r : Rg, l = [.int .i64 r.k, .int .i64 r.p, .int .i64 r.n] := by
  obtain ⟨h1, h2⟩ := open_struct f_Ring h
  obtain ⟨a, b, c, rfl⟩ := len3 (h1.trans z_Ring)
  obtain ⟨k, hk, _⟩ := open_int u_int (h2 (Y.tint, 0, 1) (by simp))
  obtain ⟨p, hp, _⟩ := open_int u_int (h2 (Y.tint, 1, 1) (by simp))
  obtain ⟨m, hm, _⟩ := open_int u_int (h2 (Y.tint, 2, 1) (by simp))
  simp at hk hp hm
  exact ⟨⟨k, p, m⟩, by rw [hk, hp, hm]⟩
theorem open_cnf {H : AH} {n : Nat} {l : List Sc} (h : typed P (n + 4) H Y.tlaws_Cnf l) : ∃ w s ll, l = [.int .i64 w, .sl s] ∧ I2 H s ll ∧ ll.length ≤ maxLen ∧ ∀ x ∈ ll, x.length ≤ maxLen := by
  obtain ⟨h1, h2⟩ := open_struct f_Cnf h
  obtain ⟨a, b, rfl⟩ := len2 (h1.trans z_Cnf)
  obtain ⟨w, hw, _⟩ := open_int u_int (h2 (Y.tint, 0, 1) (by simp))
  obtain ⟨s, ll, hs, g1, g2, g3⟩ := open_rows u_SSint u_Sint u_int z_Sint z_int (h2 (Y.tSSint, 1, 1) (by simp))
  simp at hw hs
  exact ⟨w, s, ll, by rw [hw, hs], g1, g2, g3⟩

def resF (r : Rg) (w : Int) (ll : List (List Int)) : Nw := if fnB r w ll then netF r w.toNat ll else nw0
theorem resF_small (r : Rg) (w : Int) (ll : List (List Int)) : netB (resF r w ll) = true ∨ resF r w ll = nw0 := by
  unfold resF
  split
  · rename_i h
    simp only [fnB, Bool.and_eq_true] at h
    exact .inl h.2
  · exact .inr rfl
theorem k_iFormulaNetwork {r : Rg} {H : AH} {w : Int} {s : Sl} {ll : List (List Int)} (hs : I2 H s ll) :
    ∃ s' u' xs H', R (.fn F.iFormulaNetwork) [r.pv, cpv w s] H = some ⟨1, [npv (resF r w ll).r s' u', bsc (fnB r w ll)], H'⟩ ∧ Le H H' ∧ NetO H.length H' s' u' xs (resF r w ll) := by
  unfold resF
  rcases c_iFormulaNetwork (r := r) (w := w) hs with ⟨h, s', xs, H', e, N⟩ | ⟨h, H', e, l⟩
  · rw [h]; exact ⟨s', _, xs, H', e, N.fr.le, N.neto 0⟩
  · rw [h]; exact ⟨_, _, [], H', e, l, neto0 _ _ _ _⟩
theorem k_sFormulaNetwork {r : Rg} {H : AH} {w : Int} {s : Sl} {ll : List (List Int)} (hs : I2 H s ll) :
    ∃ s' u' H', R (.fn F.sFormulaNetwork) [r.pv, cpv w s] H = some ⟨1, [npv (resF r w ll).r s' u', bsc (fnB r w ll)], H'⟩ ∧ Le H H' ∧ NS H' s' u' (resF r w ll) := by
  unfold resF
  rcases c_sFormulaNetwork (r := r) (w := w) hs with ⟨h, s', xs, H', e, N⟩ | ⟨h, H', e, l⟩
  · rw [h]; exact ⟨s', _, H', e, N.fr.le, (N.neto (r := r) 0).ns⟩
  · rw [h]; exact ⟨_, _, H', e, l, (neto0 H'.length H' 0 0).ns⟩

theorem calc_FormulaNetwork {r : Rg} {w v k6 m : Int} {s s1 s3 s5 s8 sw uw sg ug sh uh : Sl} {n : Rg} {b : Bool} {H0 H1 H2 H3 H4 H5 H6 H7 H8 H9 : AH} (hd : decide (v < 0) = false)
    (hv : R (.fn F.wszCnf) [cpv w s, isc 1048576] H0 = some ⟨1, [isc v], H0⟩)
    (e1 : R (.fn F.wtoCnf) [cpv w s] H0 = some ⟨1, [cpv w s1], H1⟩)
    (e2 : R (.fn F.sFormulaNetwork) [r.pv, cpv w s1] H1 = some ⟨1, [npv n sw uw, bsc b], H2⟩)
    (e3 : R (.fn F.wtoCnf) [cpv w s] H2 = some ⟨1, [cpv w s3], H3⟩)
    (e4 : R (.fn F.iFormulaNetwork) [r.pv, cpv w s3] H3 = some ⟨1, [npv n sg ug, bsc b], H4⟩)
    (q1 : R (.fn F.weqNetwork) [npv n sg ug, npv n sw uw] H4 = some ⟨1, [bsc true], H4⟩)
    (e5 : R (.fn F.wtoCnf) [cpv w s] H4 = some ⟨1, [cpv w s5], H5⟩)
    (q2 : R (.fn F.weqCnf) [cpv w s3, cpv w s5] H5 = some ⟨1, [bsc true], H5⟩)
    (e6 : R (.fn F.wmarkCnf) [cpv w s3, isc 1] H5 = some ⟨1, [isc k6], H6⟩) (hk6 : decide (k6 < 0) = false)
    (q3 : R (.fn F.weqNetwork) [npv n sg ug, npv n sw uw] H6 = some ⟨1, [bsc true], H6⟩)
    (e7 : R (.fn F.wmarkNetwork) [npv n sg ug, isc 1] H6 = some ⟨1, [isc m], H7⟩) (hpos : decide (m < 0) = false)
    (q4 : R (.fn F.wheldNetwork) [npv n sg ug, isc 1] H7 = some ⟨1, [isc m], H7⟩)
    (e8 : R (.fn F.wtoCnf) [cpv w s] H7 = some ⟨1, [cpv w s8], H8⟩)
    (e9 : R (.fn F.iFormulaNetwork) [r.pv, cpv w s8] H8 = some ⟨1, [npv n sh uh, bsc b], H9⟩)
    (q5 : R (.fn F.weqNetwork) [npv n sh uh, npv n sw uw] H9 = some ⟨1, [bsc true], H9⟩)
    (q6 : R (.fn F.wheldNetwork) [npv n sg ug, isc 1] H9 = some ⟨1, [isc m], H9⟩) :
    R (.fn F.wFnExactFormulaNetwork) [r.pv, cpv w s] H0 = some ⟨1, [bsc true], H9⟩ := by
  rw [R_eq, e_wFnExactFormulaNetwork, hv]
  simp only [Option.bind_some, one_int, hd, cond_false]
  rw [c_wtoRing]
  simp only [Option.bind_some, one_int, one_bool, o_iii, o_is, t_iiiss_b, cond_true, cond_false, Bool.not_true, ne_b, ne_i, hpos, hk6]
  rw [e1]
  simp only [Option.bind_some, one_int, one_bool, o_iii, o_is, t_iiiss_b, cond_true, cond_false, Bool.not_true, ne_b, ne_i, hpos, hk6]
  rw [e2]
  simp only [Option.bind_some, one_int, one_bool, o_iii, o_is, t_iiiss_b, cond_true, cond_false, Bool.not_true, ne_b, ne_i, hpos, hk6]
  rw [e3]
  simp only [Option.bind_some, one_int, one_bool, o_iii, o_is, t_iiiss_b, cond_true, cond_false, Bool.not_true, ne_b, ne_i, hpos, hk6]
  rw [c_wtoRing]
  simp only [Option.bind_some, one_int, one_bool, o_iii, o_is, t_iiiss_b, cond_true, cond_false, Bool.not_true, ne_b, ne_i, hpos, hk6]
  rw [e4]
  simp only [Option.bind_some, one_int, one_bool, o_iii, o_is, t_iiiss_b, cond_true, cond_false, Bool.not_true, ne_b, ne_i, hpos, hk6]
  rw [q1]
  simp only [Option.bind_some, one_int, one_bool, o_iii, o_is, t_iiiss_b, cond_true, cond_false, Bool.not_true, ne_b, ne_i, hpos, hk6]
  rw [e5]
  simp only [Option.bind_some, one_int, one_bool, o_iii, o_is, t_iiiss_b, cond_true, cond_false, Bool.not_true, ne_b, ne_i, hpos, hk6]
  rw [q2]
  simp only [Option.bind_some, one_int, one_bool, o_iii, o_is, t_iiiss_b, cond_true, cond_false, Bool.not_true, ne_b, ne_i, hpos, hk6]
  rw [e6]
  simp only [Option.bind_some, one_int, one_bool, o_iii, o_is, t_iiiss_b, cond_true, cond_false, Bool.not_true, ne_b, ne_i, hpos, hk6]
  rw [q3]
  simp only [Option.bind_some, one_int, one_bool, o_iii, o_is, t_iiiss_b, cond_true, cond_false, Bool.not_true, ne_b, ne_i, hpos, hk6]
  rw [e7]
  simp only [Option.bind_some, one_int, one_bool, o_iii, o_is, t_iiiss_b, cond_true, cond_false, Bool.not_true, ne_b, ne_i, hpos, hk6]
  rw [q4]
  simp only [Option.bind_some, one_int, one_bool, o_iii, o_is, t_iiiss_b, cond_true, cond_false, Bool.not_true, ne_b, ne_i, hpos, hk6]
  rw [c_wtoRing]
  simp only [Option.bind_some, one_int, one_bool, o_iii, o_is, t_iiiss_b, cond_true, cond_false, Bool.not_true, ne_b, ne_i, hpos, hk6]
  rw [e8]
  simp only [Option.bind_some, one_int, one_bool, o_iii, o_is, t_iiiss_b, cond_true, cond_false, Bool.not_true, ne_b, ne_i, hpos, hk6]
  rw [e9]
  simp only [Option.bind_some, one_int, one_bool, o_iii, o_is, t_iiiss_b, cond_true, cond_false, Bool.not_true, ne_b, ne_i, hpos, hk6]
  rw [q5]
  simp only [Option.bind_some, one_int, one_bool, o_iii, o_is, t_iiiss_b, cond_true, cond_false, Bool.not_true, ne_b, ne_i, hpos, hk6]
  rw [q6]
  simp only [Option.bind_some, one_int, one_bool, o_iii, o_is, t_iiiss_b, cond_true, cond_false, Bool.not_true, ne_b, ne_i, hpos, hk6]
theorem law_FormulaNetwork : LawPure P R F.wFnExactFormulaNetwork [Y.tlaws_Ring, Y.tlaws_Cnf] := by
  intro H0 ls hro hA
  obtain ⟨l1, l2, rfl, t1, t2⟩ : ∃ l1 l2, ls = [l1, l2] ∧ typed P 8 H0 Y.tlaws_Ring l1 ∧ typed P 8 H0 Y.tlaws_Cnf l2 := by
    cases hA with
    | cons a h =>
      cases h with
      | cons b h => cases h; exact ⟨_, _, rfl, a, b⟩
  obtain ⟨r, rfl⟩ := open_ring t1
  obtain ⟨w, s, ll, rfl, hs, hm1, hm2⟩ := open_cnf t2
  show ∃ H', R _ [pvT P Y.tlaws_Ring _, pvT P Y.tlaws_Cnf _] H0 = _
  rw [pvT_struct f_Ring, pvT_struct f_Cnf]
  have hmx : maxLen ≤ 9223372036854775807 := by decide
  obtain ⟨v, hv, hvs⟩ := c_wszCnf (w := w) hs (by rw [hs.1]; omega) (fun l hl => by have := hm2 l hl; omega)
  by_cases hneg : v < 0
  · refine ⟨H0, ?_⟩
    have hd : decide (v < 0) = true := decide_eq_true hneg
    rw [R_eq, e_wFnExactFormulaNetwork, hv]
    simp only [Option.bind_some, one_int, hd, cond_true]
  · have hd : decide (v < 0) = false := decide_eq_false hneg
    obtain ⟨hl1, hl2⟩ := hvs.resolve_left hneg
    -- the copy for the reference, and its answer
    obtain ⟨H1, c1, e1, le1, ln1, la1⟩ := c_wtoCnf (v := w) hs hl1 hl2
    obtain ⟨sw, uw, H2, e2, le2, nsw⟩ := k_sFormulaNetwork (r := r) (w := w) la1.i2
    -- the program's copy and answer
    obtain ⟨H3, c3, e3, le3, ln3, la3⟩ := c_wtoCnf (v := w) (hs.le (le1.trans le2)) hl1 hl2
    obtain ⟨sg, ug, xg, H4, e4, le4, ng⟩ := k_iFormulaNetwork (r := r) (w := w) la3.i2
    obtain ⟨sm1, sm2, sm3, sm4⟩ := small_net (resF_small r w ll)
    have nsw4 := nsw.le (le3.trans le4)
    have q1 := c19_eq ng.ns nsw4 sm3 sm2 sm4
    -- the program's copy reads as before
    obtain ⟨H5, c5, e5, le5, ln5, la5⟩ := c_wtoCnf (v := w) (hs.le (((le1.trans le2).trans le3).trans le4)) hl1 hl2
    have q2 := c20_eq (v := w) (la3.i2.le (le4.trans le5)) la5.i2 hl1 hl2
    -- it is marked
    have la3' : Laid H5 H2.length ll c3 := ⟨by rw [(le4.trans le5).get _ (by omega)]; exact la3.out, fun j l hj => ⟨(la3.row j l hj).1, by
      have := (List.getElem?_eq_some_iff.1 (la3.row j l hj).2).1
      rw [(le4.trans le5).get _ this]; exact (la3.row j l hj).2⟩⟩
    obtain ⟨k6, H6, e6, p6, ln6, f6⟩ := c_wmarkCnf (w := w) la3' hl1 hl2
    have le56 : Le H2 H6 := ⟨by rw [ln6]; exact ((le3.trans le4).trans le5).len, fun b hb => by rw [f6 b (.inl (by omega))]; exact ((le3.trans le4).trans le5).get b hb⟩
    have nsw6 := nsw.le le56
    have ng5 : NetO H3.length H5 sg ug xg (resF r w ll) := ng.keep fun b h1 h2 => le5.get b h2
    have ng6 : NetO H3.length H6 sg ug xg (resF r w ll) := ng5.keep fun b h1 h2 => f6 b (.inr (by omega))
    have q3 := c19_eq ng6.ns nsw6 sm3 sm2 sm4
    -- the program's answer is marked, and holds the marks
    obtain ⟨H7, e7, ln7, o7, f7⟩ := c_wmarkNetwork ng6.own sm1
    have hIS7 : ∀ p ∈ rowsN xg ug (relN 1 (resF r w ll)), IS H7 p.1 p.2 := fun p hp => (o7.rows.own p hp).is
    have q4 := c_wheldNetwork (n0 := H3.length) ng6.len o7.outer hIS7 sm1
    have hle27 : Le H2 H7 := ⟨by rw [ln7]; exact le56.len, fun b hb => by
      rw [f7 b fun p hp => ?_]
      · exact le56.get b hb
      · rcases (ng6.rows.own p hp).lo with h | h
        · exact .inr h
        · exact .inl (by have := le3.len; omega)⟩
    -- once more
    have hle07 : Le H0 H7 := (le1.trans le2).trans hle27
    obtain ⟨H8, c8, e8, le8, ln8, la8⟩ := c_wtoCnf (v := w) (hs.le hle07) hl1 hl2
    obtain ⟨sh, uh, xh, H9, e9, le9, nh⟩ := k_iFormulaNetwork (r := r) (w := w) la8.i2
    have nsw9 := nsw.le (hle27.trans (le8.trans le9))
    have q5 := c19_eq nh.ns nsw9 sm3 sm2 sm4
    have oo7 : OOut H3.length H7 sg xg := ng6.out.keep fun hx => f7 _ fun p hp => by
      by_cases hp2 : p.2 = []
      · exact .inr hp2
      · exact .inl (Ne.symm (ng6.out.ne hx (ng6.rows.own p hp) hp2))
    have q6 := c_wheldNetwork (n0 := H3.length) (H := H9) ng6.len (oo7.le (le8.trans le9)).outer (fun p hp => (hIS7 p hp).le (le8.trans le9)) sm1
    refine ⟨H9, ?_⟩
    have hpos : decide (1 + cntN (resF r w ll) < 0) = false := decide_eq_false (by
      have h1 := cntTs_pos (resF r w ll).ts
      unfold cntN; omega)
    have hk6 : decide (k6 < 0) = false := decide_eq_false (by omega)
    have hbe : ∀ b : Bool, (b != b) = false := fun b => by cases b <;> rfl
    have hie : ∀ i : Int, (i != i) = false := fun i => by simp
    exact calc_FormulaNetwork hd hv e1 e2 e3 e4 q1 e5 q2 e6 hk6 q3 e7 hpos q4 e8 e9 q5 q6
end Go.Abs
