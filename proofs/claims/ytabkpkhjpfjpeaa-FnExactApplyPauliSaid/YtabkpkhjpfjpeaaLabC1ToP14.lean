/- Part of the proof of FnExactApplyPauli: that for every input the law answers true and leaves what it reads as it was. Conditions: none beyond the given statement. -/
import Derived.Test.YtabkpkhjpfjpeaaLabAevToCtr
import Derived.Test.YtabkpkhjpfjpeaaLabEq
set_option linter.all false
/- Contracts: words, and small functions. -/
namespace Go.Abs
set_option linter.unusedVariables false
set_option linter.unusedSimpArgs false

noncomputable abbrev R : Oracle := run P T
theorem R_eq (p : Proc) (xs : List PV) (H : AH) : R p xs H = (procM P T R p xs H).run := run_eq T p xs H

@[reducible] def isc (x : Int) : PV := .sc (.int .i64 x)
@[reducible] def bsc (b : Bool) : PV := .sc (.bool b)
@[reducible] def ssc (s : Sl) : PV := .sc (.sl s)
theorem one_int (x : Int) {α : Type} (k : Int → Option α) : ((oneP [.sc (.int .i64 x)]).bind fun p => p.sc?.bind fun c => (intAt .i64 [c] 0).bind k) = k x := rfl
theorem one_bool (x : Bool) {α : Type} (k : Bool → Option α) : ((oneP [.sc (.bool x)]).bind fun p => p.sc?.bind fun c => (boolAt [c] 0).bind k) = k x := rfl
theorem one_sl (x : Sl) {α : Type} (k : Sl → Option α) : ((oneP [.sc (.sl x)]).bind fun p => p.sc?.bind fun c => (slAt [c] 0).bind k) = k x := rfl
theorem nth_int (x : Int) {α : Type} (k : Int → Option α) : ((nthP [.sc (.int .i64 x)] 0).bind fun p => p.sc?.bind fun c => (intAt .i64 [c] 0).bind k) = k x := rfl
theorem nth_bool (x : Bool) {α : Type} (k : Bool → Option α) : ((nthP [.sc (.bool x)] 0).bind fun p => p.sc?.bind fun c => (boolAt [c] 0).bind k) = k x := rfl
/-- A walk over a row. -/
theorem loopG {α β : Type} {F : Nat → β} {l : List α} (g : List α → Nat → β) (hend : F l.length = g [] l.length) (hstep : ∀ i (h : i < l.length) r, F (i + 1) = g r (i + 1) → F i = g (l[i] :: r) i) : F 0 = g l 0 := by
  have key : ∀ k i, i + k = l.length → F i = g (l.drop i) i := by
    intro k
    induction k with
    | zero =>
      intro i hi
      obtain rfl : i = l.length := by omega
      rw [List.drop_eq_nil_of_le (Nat.le_refl _)]; exact hend
    | succ k ih =>
      intro i hi
      have hlt : i < l.length := by omega
      rw [List.drop_eq_getElem_cons hlt]
      exact hstep i hlt _ (ih (i + 1) (by omega))
  have := key l.length 0 (by omega)
  rwa [List.drop_zero] at this
/-- A walk over a row with a state, of which something holds at each place. -/
theorem loopS {σ α β : Type} {F : σ → Nat → β} {l : List α} (Inv : σ → Nat → Prop) (g : σ → List α → Nat → β) (hend : ∀ s, Inv s l.length → F s l.length = g s [] l.length)
    (hstep : ∀ s i (h : i < l.length) r, Inv s i → (∀ s', Inv s' (i + 1) → F s' (i + 1) = g s' r (i + 1)) → F s i = g s (l[i] :: r) i) : ∀ s, Inv s 0 → F s 0 = g s l 0 := by
  have key : ∀ k i, i + k = l.length → ∀ s, Inv s i → F s i = g s (l.drop i) i := by
    intro k
    induction k with
    | zero =>
      intro i hi s hs
      obtain rfl : i = l.length := by omega
      rw [List.drop_eq_nil_of_le (Nat.le_refl _)]; exact hend s hs
    | succ k ih =>
      intro i hi s hs
      have hlt : i < l.length := by omega
      rw [List.drop_eq_getElem_cons hlt]
      exact hstep s i hlt _ hs fun s' h' => ih (i + 1) (by omega) s' h'
  intro s hs
  have := key l.length 0 (by omega) s hs
  rwa [List.drop_zero] at this
/-- The common walk: over a row, out at the first that is of a kind. -/
theorem loop_any {α β : Type} {F : Nat → β} {l : List α} (p : α → Bool) (b fin : β) (hend : F l.length = fin) (hstep : ∀ i (h : i < l.length), F i = if p l[i] then b else F (i + 1)) : F 0 = if l.any p then b else fin :=
  loopG (F := F) (l := l) (fun l _ => if l.any p then b else fin) hend fun i h r hr => by
    rw [hstep i h, hr]
    simp only [List.any_cons]
    rcases Bool.eq_false_or_eq_true (p l[i]) with h | h <;> simp [h]

theorem bf {a b : Int} (h : ¬ a = b) : (a == b) = false := by simp [h]
theorem w1 {i n : Nat} (h : i < n) (hn : n ≤ 4194304) : IntKind.wrap .i64 ((i : Int) + 1) = ((i + 1 : Nat) : Int) := by rw [wrap_id] <;> omega
theorem lt_true {i n : Nat} (h : i < n) : decide ((i : Int) < (n : Int)) = true := by simp; omega
theorem lt_self (n : Nat) : decide ((n : Int) < (n : Int)) = false := by simp

def inB (n lo hi : Int) : Bool := decide (n ≥ lo) && decide (n ≤ hi)
/-- spec.l01In -/
theorem c_sl01In (a b c : Int) (H : AH) : R (.fn F.sl01In) [isc a, isc b, isc c] H = some ⟨1, [bsc (inB a b c)], H⟩ := by
  rw [R_eq, e_sl01In]
  unfold inB
  cases decide (a ≥ b) <;> rfl

/-- spec.l05Find: the place of a number, from a place on. -/
def findF : List Int → Int → Nat → Int
  | [], _, _ => -1
  | x :: l, n, i => if x == n then (i : Int) else findF l n (i + 1)
theorem findF_lo : ∀ (l : List Int) (n : Int) (i : Nat), findF l n i = -1 ∨ (i : Int) ≤ findF l n i
  | [], n, i => .inl rfl
  | x :: l, n, i => by
    unfold findF
    split
    · exact .inr (Int.le_refl _)
    · rcases findF_lo l n (i + 1) with h | h
      · exact .inl h
      · exact .inr (by omega)
theorem findF_mem : ∀ (l : List Int) (n : Int) (i : Nat), (0 ≤ findF l n i) ↔ n ∈ l
  | [], n, i => by simp [findF]
  | x :: l, n, i => by
    unfold findF
    split
    · rename_i h; simp at h; subst h; simp
    · rename_i h; simp at h; rw [findF_mem l n (i + 1)]; simp [Ne.symm h]
theorem c_sl05Find {H : AH} {s : Sl} {l : List Int} (h : IS H s l) (hm : l.length ≤ 1048576) (n : Int) : R (.fn F.sl05Find) [ssc s, isc n] H = some ⟨1, [isc (findF l n 0)], H⟩ := by
  rw [R_eq, e_sl05Find, h.1]
  have := loopG (F := fun i : Nat => R (.loop F.sl05Find 0) [isc n, ssc s, isc (l.length : Int), isc (i : Int)] H) (l := l) (fun l i => if findF l n i = -1 then some ⟨2, [], H⟩ else some ⟨1, [isc (findF l n i)], H⟩)
    (by rw [R_eq, e_sl05Find_0, lt_self]; rfl) (fun i hi r hr => by
      rw [R_eq, e_sl05Find_0, h.ldk hi, lt_true hi, w1 hi (by omega)]
      unfold findF
      rcases Bool.eq_false_or_eq_true (l[i] == n) with hb | hb
      · simp only [hb, cond_true, if_true]
        rw [if_neg (by omega)]
      · simp only [hb, cond_true, cond_false, Bool.false_eq_true, if_false]
        exact hr)
  rw [show ((0 : Int)) = ((0 : Nat) : Int) from rfl, this]
  split
  · rename_i e; rw [e]; rfl
  · rfl

/-- impl.hasInt -/
theorem c_ihasInt {H : AH} {s : Sl} {l : List Int} (h : IS H s l) (hm : l.length ≤ 1048576) (n : Int) : R (.fn F.ihasInt) [ssc s, isc n] H = some ⟨1, [bsc (l.any fun x => n == x)], H⟩ := by
  rw [R_eq, e_ihasInt, h.1]
  have := loop_any (F := fun i : Nat => R (.loop F.ihasInt 0) [isc n, ssc s, isc (l.length : Int), isc (i : Int)] H) (l := l) (fun x => n == x) (some ⟨1, [bsc true], H⟩) (some ⟨2, [], H⟩)
    (by rw [R_eq, e_ihasInt_0, lt_self]; rfl) (fun i hi => by
      rw [R_eq, e_ihasInt_0, h.ldk hi, lt_true hi, w1 hi (by omega)]
      cases hb : n == l[i] <;> rfl)
  rw [show ((0 : Int)) = ((0 : Nat) : Int) from rfl, this]
  cases l.any fun x => n == x <;> rfl

/- Rings. -/
structure Rg where
  k : Int
  p : Int
  n : Int
@[reducible] def Rg.pv (r : Rg) : PV := .agg [.int .i64 r.k, .int .i64 r.p, .int .i64 r.n]

def widthR (r : Rg) : Int := if r.k = 7 then r.n else if r.k = 8 then 4 else 1
theorem c_sl02Width (r : Rg) (H : AH) : R (.fn F.sl02Width) [r.pv] H = some ⟨1, [isc (widthR r)], H⟩ := by
  rw [R_eq, e_sl02Width]
  unfold widthR
  by_cases h : r.k = 7
  · simp [h]
  by_cases h' : r.k = 8
  · simp [h']
  · simp [h, h', bf h, bf h']
theorem c_irawWidth (r : Rg) (H : AH) : R (.fn F.irawWidth) [r.pv] H = some ⟨1, [isc (widthR r)], H⟩ := by
  rw [R_eq, e_irawWidth]
  unfold widthR
  by_cases h : r.k = 7
  · simp [h]
  by_cases h' : r.k = 8
  · simp [h']
  · simp [h, h', bf h, bf h']

/-- The top number of a ring's coefficients. -/
def topR (r : Rg) : Int := if r.k = 1 then 1 else if r.k = 3 ∨ r.k = 4 ∨ r.k = 5 then r.p else if r.k = 6 then IntKind.wrap .i64 (shlL .i64 1 r.n - 1) else IntKind.wrap .i64 (r.p - 1)
theorem c_sl02Top (r : Rg) (hr : r.k = 6 → 0 ≤ r.n) (H : AH) : R (.fn F.sl02Top) [r.pv] H = some ⟨1, [isc (topR r)], H⟩ := by
  rw [R_eq, e_sl02Top]
  unfold topR
  by_cases h1 : r.k = 1
  · simp [h1]
  by_cases h3 : r.k = 3
  · simp [h3, nthP, PV.sc?, boolAt]
  by_cases h4 : r.k = 4
  · simp [h4, nthP, PV.sc?, boolAt]
  by_cases h5 : r.k = 5
  · simp [h5, nthP, PV.sc?, boolAt]
  by_cases h6 : r.k = 6
  · have : ¬ r.n < 0 := by have := hr h6; omega
    simp [h6, nthP, PV.sc?, boolAt, this]
  · simp [h1, h3, h4, h5, h6, bf h1, bf h3, bf h4, bf h5, bf h6, nthP, PV.sc?, boolAt]
theorem c_irawTop (r : Rg) (hr : r.k = 6 → 0 ≤ r.n) (H : AH) : R (.fn F.irawTop) [r.pv] H = some ⟨1, [isc (topR r)], H⟩ := by
  rw [R_eq, e_irawTop]
  unfold topR
  by_cases h1 : r.k = 1
  · simp [h1]
  by_cases h3 : r.k = 3
  · simp [h3, nthP, PV.sc?, boolAt]
  by_cases h4 : r.k = 4
  · simp [h4, nthP, PV.sc?, boolAt]
  by_cases h5 : r.k = 5
  · simp [h5, nthP, PV.sc?, boolAt]
  by_cases h6 : r.k = 6
  · have : ¬ r.n < 0 := by have := hr h6; omega
    simp [h6, nthP, PV.sc?, boolAt, this]
  · simp [h1, h3, h4, h5, h6, bf h1, bf h3, bf h4, bf h5, bf h6, nthP, PV.sc?, boolAt]

/-- Has a number a divisor from here on? -/
def hasDiv : Nat → Int → Int → Bool
  | 0, _, _ => false
  | k + 1, n, d => if d * d ≤ n then (n.tmod d == 0) || hasDiv k n (d + 1) else false
def primeB (n : Int) : Bool := decide (2 ≤ n) && decide (n ≤ 1000003) && !hasDiv 999 n 2

theorem div_step {n d : Int} {k : Nat} (hn : n ≤ 1000003) (hd : 2 ≤ d) (hk : d + (k : Int) = 1001) : d * d ≤ n → k ≠ 0 := fun h hk0 => by
  subst hk0
  have : d = 1001 := by omega
  subst this
  omega
theorem sq_wrap {d : Int} (h0 : 2 ≤ d) (h : d ≤ 1001) : IntKind.wrap .i64 (d * d) = d * d := by
  have h1 : d * d ≤ 1001 * 1001 := Int.mul_le_mul h h (by omega) (by omega)
  have h2 : 0 ≤ d * d := Int.mul_nonneg (by omega) (by omega)
  rw [wrap_id] <;> omega
theorem c_iIsPrime_0 {n : Int} (hn : n ≤ 1000003) (H : AH) : ∀ (k : Nat) (d : Int), 2 ≤ d → d + (k : Int) = 1001 → R (.loop F.iIsPrime 0) [isc n, isc d] H = if hasDiv k n d then some ⟨1, [bsc false], H⟩ else some ⟨2, [], H⟩ := by
  intro k
  induction k with
  | zero =>
    intro d hd hk
    have hs := sq_wrap hd (by omega)
    rw [R_eq, e_iIsPrime_0, hs]
    have : ¬ d * d ≤ n := fun h => div_step hn hd hk h rfl
    simp [this, hasDiv]
  | succ k ih =>
    intro d hd hk
    have hs := sq_wrap hd (by omega)
    rw [R_eq, e_iIsPrime_0, hs]
    unfold hasDiv
    by_cases h : d * d ≤ n
    · have h0 : (d == 0) = false := by simp; omega
      have hw : IntKind.wrap .i64 (d + 1) = d + 1 := by rw [wrap_id] <;> omega
      simp only [h, decide_true, cond_true, if_true, h0, cond_false, hw]
      cases hm : n.tmod d == 0 with
      | true => simp
      | false => simp only [cond_false, Bool.false_or]; exact ih (d + 1) (by omega) (by omega)
    · simp [h]
theorem c_iIsPrime (n : Int) (H : AH) : R (.fn F.iIsPrime) [isc n] H = some ⟨1, [bsc (primeB n)], H⟩ := by
  rw [R_eq, e_iIsPrime]
  unfold primeB
  by_cases h2 : n < 2
  · have : ¬ 2 ≤ n := by omega
    simp [h2, this]
  by_cases hm : n > 1000003
  · have : ¬ n ≤ 1000003 := by omega
    simp [h2, hm, this]
  have h2' : 2 ≤ n := by omega
  have hm' : n ≤ 1000003 := by omega
  have := c_iIsPrime_0 hm' H 999 2 (by omega) (by omega)
  simp only [h2, decide_false, cond_false, hm, this, h2', hm', decide_true, Bool.true_and]
  cases hasDiv 999 n 2 <;> rfl
theorem c_sIsPrime_0 {n : Int} (hn : n ≤ 1000003) (H : AH) : ∀ (k : Nat) (d : Int), 2 ≤ d → d + (k : Int) = 1001 → R (.loop F.sIsPrime 0) [isc n, isc d] H = if hasDiv k n d then some ⟨1, [bsc false], H⟩ else some ⟨2, [], H⟩ := by
  intro k
  induction k with
  | zero =>
    intro d hd hk
    have hs := sq_wrap hd (by omega)
    rw [R_eq, e_sIsPrime_0, hs]
    have : ¬ d * d ≤ n := fun h => div_step hn hd hk h rfl
    simp [this, hasDiv]
  | succ k ih =>
    intro d hd hk
    have hs := sq_wrap hd (by omega)
    rw [R_eq, e_sIsPrime_0, hs]
    unfold hasDiv
    by_cases h : d * d ≤ n
    · have h0 : (d == 0) = false := by simp; omega
      have hw : IntKind.wrap .i64 (d + 1) = d + 1 := by rw [wrap_id] <;> omega
      simp only [h, hn, decide_true, cond_true, if_true, h0, cond_false, hw]
      cases hm : n.tmod d == 0 with
      | true => simp
      | false => simp only [cond_false, Bool.false_or]; exact ih (d + 1) (by omega) (by omega)
    · simp [h]
theorem c_sIsPrime (n : Int) (H : AH) : R (.fn F.sIsPrime) [isc n] H = some ⟨1, [bsc (primeB n)], H⟩ := by
  rw [R_eq, e_sIsPrime]
  unfold primeB
  by_cases hm : n ≤ 1000003
  · have := c_sIsPrime_0 hm H 999 2 (by omega) (by omega)
    rw [this]
    by_cases h2 : 2 ≤ n
    · cases hasDiv 999 n 2 with
      | true => simp [nthP, PV.sc?, boolAt]
      | false =>
        simp only [Bool.false_eq_true, if_false, Option.bind_some, Nat.beq]
        rw [show R (.fn F.sl01In) [.sc (.int .i64 n), .sc (.int .i64 2), .sc (.int .i64 1000003)] H = _ from c_sl01In n 2 1000003 H]
        simp [oneP, PV.sc?, boolAt, inB, h2, hm]
    · have : hasDiv 999 n 2 = false := by
        unfold hasDiv; rw [if_neg (by omega)]
      rw [this]
      simp only [Bool.false_eq_true, if_false, Option.bind_some, Nat.beq]
      rw [show R (.fn F.sl01In) [.sc (.int .i64 n), .sc (.int .i64 2), .sc (.int .i64 1000003)] H = _ from c_sl01In n 2 1000003 H]
      simp [oneP, PV.sc?, boolAt, inB, h2, hm]
  · have e0 : R (.loop F.sIsPrime 0) [.sc (.int .i64 n), .sc (.int .i64 2)] H = some ⟨2, [], H⟩ := by
      rw [R_eq, e_sIsPrime_0]
      simp only [hm, decide_false, cond_false]
      cases decide (IntKind.wrap .i64 (2 * 2) ≤ n) <;> rfl
    rw [e0]
    simp only [Option.bind_some, Nat.beq]
    rw [show R (.fn F.sl01In) [.sc (.int .i64 n), .sc (.int .i64 2), .sc (.int .i64 1000003)] H = _ from c_sl01In n 2 1000003 H]
    simp [oneP, PV.sc?, boolAt, inB, hm]
end Go.Abs
/- Contracts: rings, sizes, tensors. -/
namespace Go.Abs
set_option linter.unusedVariables false
set_option linter.unusedSimpArgs false

def ringB (r : Rg) : Bool :=
  if r.k = 1 then r.p == 0 && r.n == 0
  else if r.k = 2 then primeB r.p && r.n == 0
  else if r.k = 3 ∨ r.k = 4 ∨ r.k = 5 then inB r.p 1 1000000 && r.n == 0
  else if r.k = 6 then r.p == 0 && inB r.n 1 20
  else if r.k = 7 then primeB r.p && inB r.n 1 6
  else if r.k = 8 then primeB r.p && decide (r.p > 2) && r.n == 0
  else false
theorem cond_and (a b : Bool) (H : AH) : (cond a (some (⟨1, [.sc (.bool b)], H⟩ : Out)) (some ⟨1, [.sc (.bool false)], H⟩)) = some ⟨1, [bsc (a && b)], H⟩ := by cases a <;> rfl
theorem c_sRingOk (r : Rg) (H : AH) : R (.fn F.sRingOk) [r.pv] H = some ⟨1, [bsc (ringB r)], H⟩ := by
  rw [R_eq, e_sRingOk]
  unfold ringB
  by_cases h1 : r.k = 1
  · simp only [h1, beq_self_eq_true, cond_true, if_true]
    exact cond_and _ _ _
  by_cases h2 : r.k = 2
  · simp only [h2, bf (show ¬ (2 : Int) = 1 by omega), beq_self_eq_true, cond_true, cond_false, if_true, show ¬ (2 : Int) = 1 by omega, if_false, c_sIsPrime, Option.bind_some, one_bool]
    exact cond_and _ _ _
  by_cases h3 : r.k = 3 ∨ r.k = 4 ∨ r.k = 5
  · have e : (((cond (r.k == 3) (some (⟨0, [.sc (.bool (r.k == 3))], H⟩ : Out)) (cond (r.k == 4) (some ⟨0, [.sc (.bool (r.k == 4))], H⟩) (some ⟨0, [.sc (.bool (r.k == 5))], H⟩))) : Option Out)) = some ⟨0, [.sc (.bool true)], H⟩ := by
      rcases h3 with h | h | h <;> simp [h]
    simp only [bf h1, bf h2, cond_false, e, Option.bind_some, Nat.beq, cond_true, nth_bool, c_sl01In, one_bool, if_neg h1, if_neg h2, if_pos h3]
    exact cond_and _ _ _
  have e : (((cond (r.k == 3) (some (⟨0, [.sc (.bool (r.k == 3))], H⟩ : Out)) (cond (r.k == 4) (some ⟨0, [.sc (.bool (r.k == 4))], H⟩) (some ⟨0, [.sc (.bool (r.k == 5))], H⟩))) : Option Out)) = some ⟨0, [.sc (.bool false)], H⟩ := by
    have h3' : ¬ r.k = 3 := fun h => h3 (.inl h)
    have h4' : ¬ r.k = 4 := fun h => h3 (.inr (.inl h))
    have h5' : ¬ r.k = 5 := fun h => h3 (.inr (.inr h))
    simp [bf h3', bf h4', bf h5']
  simp only [bf h1, bf h2, cond_false, e, Option.bind_some, Nat.beq, cond_true, nth_bool, if_neg h1, if_neg h2, if_neg h3]
  by_cases h6 : r.k = 6
  · simp only [h6, beq_self_eq_true, cond_true, if_true, c_sl01In, Option.bind_some, one_bool]
    exact cond_and _ _ _
  by_cases h7 : r.k = 7
  · simp only [h7, bf (show ¬ (7 : Int) = 6 by omega), beq_self_eq_true, cond_true, cond_false, if_true, show ¬ (7 : Int) = 6 by omega, if_false, c_sIsPrime, c_sl01In, Option.bind_some, one_bool]
    exact cond_and _ _ _
  by_cases h8 : r.k = 8
  · simp only [h8, bf (show ¬ (8 : Int) = 6 by omega), bf (show ¬ (8 : Int) = 7 by omega), beq_self_eq_true, cond_true, cond_false, if_true, show ¬ (8 : Int) = 6 by omega, show ¬ (8 : Int) = 7 by omega, if_false, c_sIsPrime, Option.bind_some, one_bool]
    cases primeB r.p <;> cases decide (r.p > 2) <;> rfl
  · simp only [bf h6, bf h7, bf h8, cond_false, if_neg h6, if_neg h7, if_neg h8]
theorem prime_two {p : Int} (h : primeB p = true) : 2 ≤ p ∧ p ≤ 1000003 := by
  unfold primeB at h
  simp only [Bool.and_eq_true, decide_eq_true_eq] at h
  exact ⟨h.1.1, h.1.2⟩
theorem c_iRingOk (r : Rg) (H : AH) : R (.fn F.iRingOk) [r.pv] H = some ⟨1, [bsc (ringB r)], H⟩ := by
  rw [R_eq, e_iRingOk]
  unfold ringB
  by_cases h1 : r.k = 1
  · simp only [h1, beq_self_eq_true, cond_true, if_true]
    exact cond_and _ _ _
  by_cases h2 : r.k = 2
  · simp only [h2, bf (show ¬ (2 : Int) = 1 by omega), beq_self_eq_true, cond_true, cond_false, if_true, show ¬ (2 : Int) = 1 by omega, if_false, c_iIsPrime, Option.bind_some, one_bool]
    exact cond_and _ _ _
  by_cases h3 : r.k = 3 ∨ r.k = 4 ∨ r.k = 5
  · have e : (((cond (r.k == 3) (some (⟨0, [.sc (.bool (r.k == 3))], H⟩ : Out)) (cond (r.k == 4) (some ⟨0, [.sc (.bool (r.k == 4))], H⟩) (some ⟨0, [.sc (.bool (r.k == 5))], H⟩))) : Option Out)) = some ⟨0, [.sc (.bool true)], H⟩ := by
      rcases h3 with h | h | h <;> simp [h]
    simp only [bf h1, bf h2, cond_false, e, Option.bind_some, Nat.beq, cond_true, nth_bool, if_neg h1, if_neg h2, if_pos h3, inB]
    cases decide (r.p ≥ 1) <;> cases decide (r.p ≤ 1000000) <;> rfl
  have e : (((cond (r.k == 3) (some (⟨0, [.sc (.bool (r.k == 3))], H⟩ : Out)) (cond (r.k == 4) (some ⟨0, [.sc (.bool (r.k == 4))], H⟩) (some ⟨0, [.sc (.bool (r.k == 5))], H⟩))) : Option Out)) = some ⟨0, [.sc (.bool false)], H⟩ := by
    have h3' : ¬ r.k = 3 := fun h => h3 (.inl h)
    have h4' : ¬ r.k = 4 := fun h => h3 (.inr (.inl h))
    have h5' : ¬ r.k = 5 := fun h => h3 (.inr (.inr h))
    simp [bf h3', bf h4', bf h5']
  simp only [bf h1, bf h2, cond_false, e, Option.bind_some, Nat.beq, cond_true, nth_bool, if_neg h1, if_neg h2, if_neg h3]
  by_cases h6 : r.k = 6
  · simp only [h6, beq_self_eq_true, cond_true, if_true, inB]
    cases r.p == 0 <;> cases decide (r.n ≥ 1) <;> rfl
  by_cases h7 : r.k = 7
  · simp only [h7, bf (show ¬ (7 : Int) = 6 by omega), beq_self_eq_true, cond_true, cond_false, if_true, show ¬ (7 : Int) = 6 by omega, if_false, c_iIsPrime, Option.bind_some, one_bool, inB]
    cases primeB r.p <;> cases decide (r.n ≥ 1) <;> rfl
  by_cases h8 : r.k = 8
  · simp only [h8, bf (show ¬ (8 : Int) = 6 by omega), bf (show ¬ (8 : Int) = 7 by omega), beq_self_eq_true, cond_true, cond_false, if_true, show ¬ (8 : Int) = 6 by omega, show ¬ (8 : Int) = 7 by omega, if_false, c_iIsPrime, Option.bind_some, one_bool]
    cases hp : primeB r.p with
    | false => rfl
    | true =>
      have := prime_two hp
      have e2 : (r.p != 2) = decide (r.p > 2) := by
        by_cases h : r.p = 2
        · simp [h]
        · have : r.p > 2 := by omega
          simp [h, this]
      rw [e2]
      cases decide (r.p > 2) <;> rfl
  · simp only [bf h6, bf h7, bf h8, cond_false, if_neg h6, if_neg h7, if_neg h8]
theorem ring6 {r : Rg} (h : ringB r = true) : r.k = 6 → 1 ≤ r.n ∧ r.n ≤ 20 := fun e => by
  unfold ringB at h
  simp [e, inB] at h
  omega

/-- spec.l05Product: a product, cut above a limit. -/
def prodC (lim : Int) : Int → List Int → Int
  | a, [] => a
  | a, d :: l => prodC lim (if lim + 1 < a * d then lim + 1 else a * d) l
theorem c_sl05Product {H : AH} {s : Sl} {l : List Int} (h : IS H s l) (hm : l.length ≤ 1048576) (hd : ∀ d ∈ l, 0 ≤ d ∧ d ≤ 1048576) : R (.fn F.sl05Product) [ssc s, isc 4096] H = some ⟨1, [isc (prodC 4096 1 l)], H⟩ := by
  rw [R_eq, e_sl05Product, h.1]
  have := loopS (F := fun (a : Int) (i : Nat) => R (.loop F.sl05Product 0) [isc 4096, isc a, ssc s, isc (l.length : Int), isc (i : Int)] H) (l := l) (fun a _ => 0 ≤ a ∧ a ≤ 4097) (fun a l _ => some ⟨2, [isc (prodC 4096 a l)], H⟩)
    (fun a _ => by rw [R_eq, e_sl05Product_0, lt_self]; rfl) (fun a i hi r ha ih => by
      rw [R_eq, e_sl05Product_0, h.ldk hi, lt_true hi, w1 hi (by omega)]
      have hdi := hd l[i] (List.getElem_mem hi)
      have h1 : 0 ≤ a * l[i] := Int.mul_nonneg ha.1 hdi.1
      have h2 : a * l[i] ≤ 4097 * 1048576 := Int.mul_le_mul ha.2 hdi.2 hdi.1 (by omega)
      have e1 : IntKind.wrap .i64 (a * l[i]) = a * l[i] := by rw [wrap_id] <;> omega
      have e2 : IntKind.wrap .i64 ((4096 : Int) + 1) = 4097 := by rw [wrap_id] <;> omega
      simp only [cond_true, e1, e2, prodC]
      exact ih _ (by split <;> omega)) 1 (by omega)
  rw [show ((0 : Int)) = ((0 : Nat) : Int) from rfl, this]
  rfl
end Go.Abs
/- Contracts: the size of a tensor, and whether it is one. -/
namespace Go.Abs
set_option linter.unusedVariables false
set_option linter.unusedSimpArgs false

def axesG : List Int → List Int → List Int → Bool
  | pre, n :: ls, d :: ds => inB n 0 99 && inB d 1 8 && !(pre.any fun x => n == x) && axesG (pre ++ [n]) ls ds
  | _, [], _ => true
  | _, _, _ => false
def axesB (ls ds : List Int) : Bool := decide (ls.length ≤ 12) && decide (ls.length = ds.length) && axesG [] ls ds

theorem find_any (l : List Int) (n : Int) : decide (findF l n 0 ≥ 0) = l.any fun x => n == x := by
  have := findF_mem l n 0
  by_cases h : n ∈ l
  · have h1 : findF l n 0 ≥ 0 := this.2 h
    simp only [h1, decide_true]
    exact (List.any_eq_true.2 ⟨n, h, by simp⟩).symm
  · have h1 : ¬ findF l n 0 ≥ 0 := fun e => h (this.1 e)
    simp only [h1, decide_false]
    symm
    rw [Bool.eq_false_iff]
    intro e
    obtain ⟨x, h2, h3⟩ := List.any_eq_true.1 e
    simp at h3; subst h3
    exact h h2

theorem take_snoc {l : List Int} {i : Nat} (h : i < l.length) : l.take (i + 1) = l.take i ++ [l[i]] := by
  rw [List.take_succ, List.getElem?_eq_getElem h]; rfl

/-- spec.l05Axes -/
theorem c_sl05Axes {H : AH} {a b : Sl} {ls ds : List Int} (ha : IS H a ls) (hb : IS H b ds) : R (.fn F.sl05Axes) [ssc a, ssc b] H = some ⟨1, [bsc (axesB ls ds)], H⟩ := by
  rw [R_eq, e_sl05Axes, ha.n, hb.n]
  unfold axesB
  by_cases h1 : (ls.length : Int) > 12
  · have : ¬ ls.length ≤ 12 := by omega
    simp [h1, this]
  by_cases h2 : ls.length = ds.length
  · have h1' : ls.length ≤ 12 := by omega
    have := loopG (F := fun i : Nat => R (.loop F.sl05Axes 0) [ssc a, ssc b, ssc a, isc (ls.length : Int), isc (i : Int)] H) (l := ls) (fun r i => if axesG (ls.take i) r (ds.drop i) then some ⟨2, [], H⟩ else some ⟨1, [bsc false], H⟩)
      (by rw [R_eq, e_sl05Axes_0, lt_self]; rw [List.drop_eq_nil_of_le (by omega)]; rfl) (fun i hi r hr => by
        rw [R_eq, e_sl05Axes_0, ha.ldk hi, lt_true hi, w1 hi (by omega)]
        have hi2 : i < ds.length := by omega
        rw [List.drop_eq_getElem_cons hi2]
        unfold axesG
        simp only [cond_true, c_sl01In, Option.bind_some, one_bool]
        cases hA : inB ls[i] 0 99 with
        | false => simp
        | true =>
          simp only [Bool.not_true, cond_false, Bool.true_and]
          rw [hb.ldk hi2]
          cases hB : inB ds[i] 1 8 with
          | false => simp
          | true =>
            simp only [Bool.not_true, cond_false, Bool.true_and]
            rw [slB_take (by have := ha.c; rw [ha.n] at this; omega)]
            simp only [Option.bind_some]
            rw [c_sl05Find (ha.take (Nat.le_of_lt hi)) (by simp; omega)]
            simp only [Option.bind_some, one_int, find_any]
            cases hC : (List.take i ls).any fun x => ls[i] == x with
            | true => simp
            | false =>
              simp only [cond_false, Bool.not_false, Bool.true_and]
              rw [← take_snoc hi]
              exact hr)
    simp only [List.take_zero, List.drop_zero] at this
    have h3 : ((ls.length : Int) != (ds.length : Int)) = false := by rw [h2]; simp
    simp only [h1, decide_false, cond_false, h3]
    rw [show ((0 : Int)) = ((0 : Nat) : Int) from rfl, this]
    have h4 : decide (ls.length ≤ 12) = true := by simpa using h1'
    have h5 : decide (ls.length = ds.length) = true := by simpa using h2
    rw [h4, h5]
    cases axesG [] ls ds <;> rfl
  · have h3 : ((ls.length : Int) != (ds.length : Int)) = true := by simp; omega
    simp [h1, h2, h3]

def sizeB (ls ds : List Int) : Int := if axesB ls ds then (if prodC 4096 1 ds > 4096 then -1 else prodC 4096 1 ds) else -1

theorem axesG_dims : ∀ {pre ls ds : List Int}, axesG pre ls ds = true → ls.length = ds.length → ∀ d ∈ ds, 1 ≤ d ∧ d ≤ 8
  | pre, n :: ls, d :: ds, h, hl, x, hx => by
    simp only [axesG, Bool.and_eq_true] at h
    rcases List.mem_cons.1 hx with rfl | hx
    · have := h.1.1.2
      simp only [inB, Bool.and_eq_true, decide_eq_true_eq] at this
      omega
    · exact axesG_dims h.2 (by simpa using hl) x hx
  | pre, [], [], _, _, x, hx => by simp at hx
  | pre, [], d :: ds, _, hl, _, _ => by simp at hl
  | pre, n :: ls, [], _, hl, _, _ => by simp at hl
theorem axes_dims {ls ds : List Int} (h : axesB ls ds = true) : ls.length ≤ 12 ∧ ls.length = ds.length ∧ ∀ d ∈ ds, 1 ≤ d ∧ d ≤ 8 := by
  simp only [axesB, Bool.and_eq_true, decide_eq_true_eq] at h
  exact ⟨h.1.1, h.1.2, axesG_dims h.2 h.1.2⟩

theorem c_sTensorSize {H : AH} {a b c : Sl} {ls ds : List Int} (ha : IS H a ls) (hb : IS H b ds) : R (.fn F.sTensorSize) [.agg [.sl a, .sl b, .sl c]] H = some ⟨1, [isc (sizeB ls ds)], H⟩ := by
  rw [R_eq, e_sTensorSize, c_sl05Axes ha hb]
  unfold sizeB
  simp only [Option.bind_some, one_bool]
  cases h : axesB ls ds with
  | false => rfl
  | true =>
    obtain ⟨h1, h2, h3⟩ := axes_dims h
    rw [c_sl05Product hb (by omega) fun d hd => by have := h3 d hd; omega]
    simp only [Option.bind_some, one_int, Bool.not_true, cond_false, if_true]
    by_cases h4 : prodC 4096 1 ds > 4096
    · simp [h4]
    · simp [h4]

def sizeG : Int → List Int → List Int → List Int → Int
  | a, pre, n :: ls, d :: ds => if n < 0 ∨ n > 99 then -1 else if (pre.any fun x => n == x) = true then -1 else if d < 1 ∨ d > 8 then -1 else if a * d > 4096 then -1 else sizeG (a * d) (pre ++ [n]) ls ds
  | a, _, _, _ => a

theorem prodC_top : ∀ {ds : List Int}, (∀ d ∈ ds, 1 ≤ d) → prodC 4096 4097 ds = 4097
  | [], _ => rfl
  | d :: ds, h => by
    have hd := h d List.mem_cons_self
    unfold prodC
    have : (if (4096 : Int) + 1 < 4097 * d then (4096 : Int) + 1 else 4097 * d) = 4097 := by
      split <;> omega
    rw [this]
    exact prodC_top fun x hx => h x (List.mem_cons_of_mem _ hx)

theorem sizeG_eq : ∀ {ls ds pre : List Int} {a : Int}, 1 ≤ a → a ≤ 4096 → ls.length = ds.length → sizeG a pre ls ds = if axesG pre ls ds then (if prodC 4096 a ds > 4096 then -1 else prodC 4096 a ds) else -1
  | [], [], pre, a, h1, h2, _ => by
    have : ¬ a > 4096 := by omega
    simp [sizeG, axesG, prodC, this]
  | [], _ :: _, _, _, _, _, h => by simp at h
  | _ :: _, [], _, _, _, _, h => by simp at h
  | n :: ls, d :: ds, pre, a, h1, h2, h => by
    unfold sizeG axesG
    by_cases hA : n < 0 ∨ n > 99
    · have : inB n 0 99 = false := by simp [inB]; omega
      simp [hA, this]
    have hA' : inB n 0 99 = true := by simp [inB]; omega
    by_cases hB : d < 1 ∨ d > 8
    · have : inB d 1 8 = false := by simp [inB]; omega
      simp [hA, hB, this]
    have hB' : inB d 1 8 = true := by simp [inB]; omega
    rcases Bool.eq_false_or_eq_true (pre.any fun x => n == x) with hC | hC
    · simp [hA, hC]
    simp only [hA, if_false, hC, Bool.false_eq_true, hB, hA', hB', Bool.true_and, Bool.not_false]
    have had : 1 ≤ a * d := by
      have : 1 * 1 ≤ a * d := Int.mul_le_mul h1 (by omega) (by omega) (by omega)
      omega
    unfold prodC
    by_cases hD : a * d > 4096
    · rw [if_pos hD]
      have e : (if (4096 : Int) + 1 < a * d then (4096 : Int) + 1 else a * d) = 4097 := by split <;> omega
      rw [e]
      cases hx : axesG (pre ++ [n]) ls ds with
      | false => rfl
      | true =>
        rw [prodC_top fun x hx' => (axesG_dims hx (by simpa using h) x hx').1]
        rfl
    · rw [if_neg hD, sizeG_eq had (by omega) (by simpa using h)]
      have e : (if (4096 : Int) + 1 < a * d then (4096 : Int) + 1 else a * d) = a * d := by split <;> omega
      rw [e]
/-- impl.TensorSize -/
theorem c_iTensorSize {H : AH} {a b c : Sl} {ls ds : List Int} (ha : IS H a ls) (hb : IS H b ds) : R (.fn F.iTensorSize) [.agg [.sl a, .sl b, .sl c]] H = some ⟨1, [isc (sizeB ls ds)], H⟩ := by
  rw [R_eq, e_iTensorSize, ha.n, hb.n]
  unfold sizeB axesB
  by_cases h1 : (ls.length : Int) > 12
  · have : ¬ ls.length ≤ 12 := by omega
    simp [h1, this]
  by_cases h2 : ls.length = ds.length
  · have h1' : ls.length ≤ 12 := by omega
    have := loopS (F := fun (v : Int) (i : Nat) => R (.loop F.iTensorSize 0) [isc v, ssc a, isc (ls.length : Int), isc (i : Int), .agg [.sl a, .sl b, .sl c]] H) (l := ls) (fun v _ => 1 ≤ v ∧ v ≤ 4096)
      (fun v r i => if sizeG v (ls.take i) r (ds.drop i) = -1 then some ⟨1, [isc (-1)], H⟩ else some ⟨2, [isc (sizeG v (ls.take i) r (ds.drop i))], H⟩)
      (fun v hv => by
        rw [R_eq, e_iTensorSize_0, lt_self, List.drop_eq_nil_of_le (by omega)]
        have e : sizeG v (List.take ls.length ls) [] [] = v := rfl
        rw [if_neg (by rw [e]; omega), e]; rfl) (fun v i hi r hv ih => by
        rw [R_eq, e_iTensorSize_0, ha.ldk hi, lt_true hi, w1 hi (by omega)]
        have hi2 : i < ds.length := by omega
        rw [List.drop_eq_getElem_cons hi2]
        unfold sizeG
        simp only [cond_true]
        by_cases hA : ls[i] < 0
        · simp [hA]
        by_cases hA2 : ls[i] > 99
        · simp [hA, hA2]
        have hA3 : ¬ (ls[i] < 0 ∨ ls[i] > 99) := by omega
        rw [slB_take (by have := ha.c; rw [ha.n] at this; omega)]
        simp only [hA, decide_false, cond_false, hA2, Option.bind_some, hA3, if_false]
        rw [c_ihasInt (ha.take (Nat.le_of_lt hi)) (by simp; omega)]
        simp only [Option.bind_some, one_bool]
        rcases Bool.eq_false_or_eq_true ((List.take i ls).any fun x => ls[i] == x) with hC | hC
        · simp [hC]
        simp only [hC, cond_false, Bool.false_eq_true, if_false]
        rw [hb.ldk hi2]
        by_cases hB : ds[i] < 1
        · simp [hB]
        by_cases hB2 : ds[i] > 8
        · simp [hB, hB2]
        have hB3 : ¬ (ds[i] < 1 ∨ ds[i] > 8) := by omega
        have hm : 1 * 1 ≤ v * ds[i] := Int.mul_le_mul hv.1 (by omega) (by omega) (by omega)
        have hm2 : v * ds[i] ≤ 4096 * 8 := Int.mul_le_mul hv.2 (by omega) (by omega) (by omega)
        have hw : IntKind.wrap .i64 (v * ds[i]) = v * ds[i] := by rw [wrap_id] <;> omega
        simp only [hB, decide_false, cond_false, hB2, hB3, if_false, hw]
        by_cases hD : v * ds[i] > 4096
        · simp [hD]
        simp only [hD, decide_false, cond_false, if_false]
        rw [← take_snoc hi]
        exact ih _ ⟨by omega, by omega⟩) 1 (by omega)
    simp only [List.take_zero, List.drop_zero] at this
    have h3 : ((ls.length : Int) != (ds.length : Int)) = false := by rw [h2]; simp
    simp only [h1, decide_false, cond_false, h3]
    rw [show ((0 : Int)) = ((0 : Nat) : Int) from rfl, this]
    have hg := sizeG_eq (pre := []) (a := 1) (by omega) (by omega) h2
    have h4 : decide (ls.length ≤ 12) = true := by simpa using h1'
    have h5 : decide (ls.length = ds.length) = true := by simpa using h2
    rw [h4, h5, Bool.true_and, Bool.true_and, ← hg]
    split
    · rename_i e; rw [e]; rfl
    · rfl
  · have h3 : ((ls.length : Int) != (ds.length : Int)) = true := by simp; omega
    simp [h1, h2, h3]
theorem prodC_le : ∀ {ds : List Int} {a : Int}, 0 ≤ a → a ≤ 4097 → (∀ d ∈ ds, 0 ≤ d) → 0 ≤ prodC 4096 a ds ∧ prodC 4096 a ds ≤ 4097
  | [], a, h0, h1, _ => by simp [prodC]; omega
  | d :: ds, a, h0, h1, h => by
    unfold prodC
    have := Int.mul_nonneg h0 (h d List.mem_cons_self)
    exact prodC_le (by split <;> omega) (by split <;> omega) fun x hx => h x (List.mem_cons_of_mem _ hx)
theorem sizeB_range (ls ds : List Int) : sizeB ls ds = -1 ∨ (0 ≤ sizeB ls ds ∧ sizeB ls ds ≤ 4096) := by
  unfold sizeB
  split
  · rename_i h
    split
    · exact .inl rfl
    · have := (prodC_le (ds := ds) (a := 1) (by omega) (by omega) fun d hd => by have := (axes_dims h).2.2 d hd; omega)
      exact .inr (by omega)
  · exact .inl rfl
end Go.Abs
/- Contracts: tensors. -/
namespace Go.Abs
set_option linter.unusedVariables false
set_option linter.unusedSimpArgs false

structure Tn where
  L : List Int
  D : List Int
  X : List Int
structure TS (H : AH) (a b c : Sl) (t : Tn) : Prop where
  L : IS H a t.L
  D : IS H b t.D
  X : IS H c t.X
theorem TS.le {H H' : AH} (h : Le H H') {a b c : Sl} {t : Tn} (k : TS H a b c t) : TS H' a b c t := ⟨k.L.le h, k.D.le h, k.X.le h⟩
@[reducible] def tpv (a b c : Sl) : PV := .agg [.sl a, .sl b, .sl c]

def tensorB (r : Rg) (t : Tn) : Bool := ringB r && decide (sizeB t.L t.D ≠ -1) && decide ((t.X.length : Int) = sizeB t.L t.D * widthR r) && t.X.all fun x => inB x 0 (topR r)

theorem width_range {r : Rg} (h : ringB r = true) : 1 ≤ widthR r ∧ widthR r ≤ 6 := by
  unfold ringB at h
  unfold widthR
  by_cases h7 : r.k = 7
  · simp [h7, inB] at h
    rw [if_pos h7]; omega
  · rw [if_neg h7]
    split <;> omega

theorem all_not {l : List Int} {p : Int → Bool} : (l.any fun x => !p x) = !(l.all p) := by
  induction l with
  | nil => rfl
  | cons x l ih => simp only [List.any_cons, List.all_cons, ih, Bool.not_and]

/-- spec.TensorOk -/
theorem c_sTensorOk (r : Rg) {H : AH} {a b c : Sl} {t : Tn} (h : TS H a b c t) : R (.fn F.sTensorOk) [r.pv, tpv a b c] H = some ⟨1, [bsc (tensorB r t)], H⟩ := by
  rw [R_eq, e_sTensorOk, c_sTensorSize h.L h.D]
  unfold tensorB
  simp only [Option.bind_some, one_int, c_sRingOk, one_bool]
  cases hr : ringB r with
  | false => rfl
  | true =>
    have hw := width_range hr
    simp only [Bool.not_true, cond_false, Bool.true_and]
    rcases sizeB_range t.L t.D with hs | hs
    · simp [hs]
    · have h1 : ¬ sizeB t.L t.D < 0 := by omega
      have h2 : sizeB t.L t.D ≠ -1 := by omega
      have hm0 : 0 ≤ sizeB t.L t.D * widthR r := Int.mul_nonneg hs.1 (by omega)
      have hm : sizeB t.L t.D * widthR r ≤ 4096 * 6 := Int.mul_le_mul hs.2 hw.2 (by omega) (by omega)
      have hwr : IntKind.wrap .i64 (sizeB t.L t.D * widthR r) = sizeB t.L t.D * widthR r := by rw [wrap_id] <;> omega
      simp only [h1, decide_false, cond_false, c_sl02Width, Option.bind_some, one_int, hwr, h2, ne_eq, not_false_eq_true, decide_true, Bool.true_and, h.X.n]
      by_cases h3 : (t.X.length : Int) = sizeB t.L t.D * widthR r
      · have e : ((t.X.length : Int) != sizeB t.L t.D * widthR r) = false := by rw [h3]; simp
        have := loop_any (F := fun i : Nat => R (.loop F.sTensorOk 0) [ssc c, isc (t.X.length : Int), isc (i : Int), r.pv] H) (l := t.X) (fun x => !inB x 0 (topR r)) (some ⟨1, [bsc false], H⟩) (some ⟨2, [], H⟩)
          (by rw [R_eq, e_sTensorOk_0, lt_self]; rfl) (fun i hi => by
            rw [R_eq, e_sTensorOk_0, h.X.ldk hi, lt_true hi, w1 hi (by omega)]
            simp only [cond_true, c_sl02Top r (fun e => by have := ring6 hr e; omega), Option.bind_some, one_int, c_sl01In, one_bool]
            cases inB t.X[i] 0 (topR r) <;> rfl)
        rw [show ((0 : Int)) = ((0 : Nat) : Int) from rfl, this, all_not, e]
        simp only [h3, decide_true, Bool.true_and, cond_false]
        cases t.X.all fun x => inB x ((0 : Nat) : Int) (topR r) <;> rfl
      · have e : ((t.X.length : Int) != sizeB t.L t.D * widthR r) = true := by simp [h3]
        simp [e, h3]

/-- impl.inRing -/
theorem c_iinRing (r : Rg) (hr : ringB r = true) {H : AH} {s : Sl} {l : List Int} (h : IS H s l) (hm : l.length ≤ 1048576) : R (.fn F.iinRing) [r.pv, ssc s] H = some ⟨1, [bsc (l.all fun x => inB x 0 (topR r))], H⟩ := by
  rw [R_eq, e_iinRing, c_irawTop r (fun e => by have := ring6 hr e; omega), h.n]
  have := loop_any (F := fun i : Nat => R (.loop F.iinRing 0) [isc (topR r), ssc s, isc (l.length : Int), isc (i : Int)] H) (l := l) (fun x => !inB x 0 (topR r)) (some ⟨1, [bsc false], H⟩) (some ⟨2, [], H⟩)
    (by rw [R_eq, e_iinRing_0, lt_self]; rfl) (fun i hi => by
      rw [R_eq, e_iinRing_0, h.ldk hi, lt_true hi, w1 hi (by omega)]
      simp only [cond_true, inB]
      by_cases h1 : l[i] < 0
      · have : ¬ l[i] ≥ 0 := by omega
        simp [h1, this]
      · have h1' : l[i] ≥ 0 := by omega
        by_cases h2 : l[i] > topR r
        · have : ¬ l[i] ≤ topR r := by omega
          simp [h1, h1', h2, this]
        · have h2' : l[i] ≤ topR r := by omega
          simp [h1, h1', h2, h2'])
  simp only [Option.bind_some, one_int]
  rw [show ((0 : Int)) = ((0 : Nat) : Int) from rfl, this, all_not]
  cases l.all fun x => inB x ((0 : Nat) : Int) (topR r) <;> rfl

/-- impl.TensorOk -/
theorem c_iTensorOk (r : Rg) {H : AH} {a b c : Sl} {t : Tn} (h : TS H a b c t) : R (.fn F.iTensorOk) [r.pv, tpv a b c] H = some ⟨1, [bsc (tensorB r t)], H⟩ := by
  rw [R_eq, e_iTensorOk, c_iRingOk]
  unfold tensorB
  simp only [Option.bind_some, one_bool]
  cases hr : ringB r with
  | false => rfl
  | true =>
    have hw := width_range hr
    simp only [Bool.not_true, cond_false, Bool.true_and]
    rw [c_iTensorSize h.L h.D]
    simp only [Option.bind_some, one_int]
    rcases sizeB_range t.L t.D with hs | hs
    · simp [hs]
    · have h2 : sizeB t.L t.D ≠ -1 := by omega
      have h2' : (sizeB t.L t.D != -1) = true := by simp [h2]
      have hm0 : 0 ≤ sizeB t.L t.D * widthR r := Int.mul_nonneg hs.1 (by omega)
      have hm : sizeB t.L t.D * widthR r ≤ 4096 * 6 := Int.mul_le_mul hs.2 hw.2 (by omega) (by omega)
      have hwr : IntKind.wrap .i64 (sizeB t.L t.D * widthR r) = sizeB t.L t.D * widthR r := by rw [wrap_id] <;> omega
      simp only [h2', cond_true, c_irawWidth, Option.bind_some, one_int, hwr, h2, ne_eq, not_false_eq_true, decide_true, Bool.true_and, h.X.n]
      by_cases h3 : (t.X.length : Int) = sizeB t.L t.D * widthR r
      · rw [c_iinRing r hr h.X (by omega)]
        simp only [h3, beq_self_eq_true, cond_true, Option.bind_some, one_bool, decide_true, Bool.true_and]
      · simp only [bf h3, cond_false, h3, decide_false, Bool.false_and]

/- Rows of tensors. -/
def T3 (H : AH) (s : Sl) (ts : List Tn) : Prop := s.n = ts.length ∧ s.n ≤ s.c ∧ (ts = [] ∨ ∃ cs, rdB H s.b = some cs ∧ ∀ (i : Nat) t, ts[i]? = some t → ∃ a b c, cs[s.o + i * 3]? = some (.sl a) ∧ cs[s.o + i * 3 + 1]? = some (.sl b) ∧ cs[s.o + i * 3 + 1 + 1]? = some (.sl c) ∧ TS H a b c t)
theorem T3.le {H H' : AH} (h : Le H H') {s : Sl} {ts : List Tn} (k : T3 H s ts) : T3 H' s ts :=
  ⟨k.1, k.2.1, k.2.2.imp id fun ⟨cs, h1, h2⟩ => ⟨cs, h.rdB h1, fun i t hi => let ⟨a, b, c, e1, e2, e3, e4⟩ := h2 i t hi; ⟨a, b, c, e1, e2, e3, e4.le h⟩⟩⟩
theorem slAt_get {l : List Sc} {i : Nat} {x : Sl} (h : l[i]? = some (.sl x)) : slAt l i = some x := by
  unfold slAt; rw [h]
theorem T3.ld {H : AH} {s : Sl} {ts : List Tn} (h : T3 H s ts) {i : Nat} (hi : i < ts.length) : ∃ a b c, TS H a b c ts[i] ∧ ∀ {α : Type} (k : Sl → Sl → Sl → Option α),
    ((ixA s (i : Int) 3).bind fun o => (rdB H s.b).bind fun q => (slAt q o).bind fun x => (slAt q (o + 1)).bind fun y => (slAt q (o + 1 + 1)).bind fun z => k x y z) = k a b c := by
  obtain ⟨hn, _, rfl | ⟨cs, h1, h2⟩⟩ := h
  · simp at hi
  · obtain ⟨a, b, c, e1, e2, e3, e4⟩ := h2 i _ (List.getElem?_eq_getElem hi)
    refine ⟨a, b, c, e4, fun k => ?_⟩
    rw [ixA_nat (by omega)]
    simp only [Option.bind_some, h1, slAt_get e1, slAt_get e2, slAt_get e3]
theorem T3.take {H : AH} {s : Sl} {ts : List Tn} (h : T3 H s ts) {i : Nat} (hi : i ≤ ts.length) : T3 H ⟨s.b, s.o, i, s.c, s.x⟩ (ts.take i) := by
  refine ⟨by simp; omega, by have := h.1; have := h.2.1; show i ≤ s.c; omega, ?_⟩
  rcases h.2.2 with rfl | ⟨cs, h1, h2⟩
  · exact .inl (by simp)
  · refine .inr ⟨cs, h1, fun j x hj => h2 j x ?_⟩
    rw [List.getElem?_take] at hj
    split at hj
    · exact hj
    · cases hj

/-- spec.l12Dim: the size of a label's axis. -/
def dimF : List Tn → Int → Int
  | [], _ => 0
  | t :: ts, x => if 0 ≤ findF t.L x 0 then t.D.getD (findF t.L x 0).toNat 0 else dimF ts x
end Go.Abs
/- Contracts: rows that grow. -/
namespace Go.Abs
set_option linter.unusedVariables false
set_option linter.unusedSimpArgs false

/-- Heaps that agree below a place. -/
structure Lo (n0 : Nat) (H H' : AH) : Prop where
  len : H.length ≤ H'.length
  get : ∀ b, b < n0 → H'[b]? = H[b]?
theorem Lo.refl (n0 : Nat) (H : AH) : Lo n0 H H := ⟨Nat.le_refl _, fun _ _ => rfl⟩
theorem Lo.trans {n0 : Nat} {a b c : AH} (h : Lo n0 a b) (k : Lo n0 b c) : Lo n0 a c := ⟨Nat.le_trans h.len k.len, fun i hi => (k.get i hi).trans (h.get i hi)⟩
theorem Le.lo {H H' : AH} (h : Le H H') {n0 : Nat} (hn : n0 ≤ H.length) : Lo n0 H H' := ⟨h.len, fun b hb => h.get b (by omega)⟩
theorem Le.lo_trans {H0 H H' : AH} (h : Le H0 H) (k : Lo H0.length H H') : Le H0 H' := ⟨Nat.le_trans h.len k.len, fun b hb => (k.get b hb).trans (h.get b hb)⟩
theorem Lo.low {n0 n1 : Nat} {H H' : AH} (h : Lo n0 H H') (hn : n1 ≤ n0) : Lo n1 H H' := ⟨h.len, fun b hb => h.get b (by omega)⟩

/-- A row of its own grows. -/
theorem app_own {n0 : Nat} {H : AH} {s : Sl} {l m : List Int} (hn : n0 ≤ H.length) (h : Own n0 H s l) (hl : l.length + m.length ≤ 134217728) :
    ∃ s' H', appB H 1 8 s (ics m) m.length = some (s', H') ∧ Own n0 H' s' (l ++ m) ∧ H.length ≤ H'.length ∧ (∀ b, b < H.length → (b ≠ s.b ∨ l = []) → H'[b]? = H[b]?) ∧ (m = [] → s' = s ∧ H' = H) ∧ (m ≠ [] → H.length ≤ s'.b) := by
  by_cases hm : m = []
  · subst hm
    refine ⟨s, H, ?_, by rw [List.append_nil]; exact h, Nat.le_refl _, fun _ _ _ => rfl, fun _ => ⟨rfl, rfl⟩, fun h => absurd rfl h⟩
    unfold appB
    rw [if_pos (by rw [h.n, h.c]; simp)]
    simp [putR]
  · have hm0 : m.length ≠ 0 := fun e => hm (List.length_eq_zero_iff.1 e)
    have hmost : (s.n + m.length) * 8 ≤ most := by rw [h.n]; exact most_ok hl
    unfold appB
    rw [if_neg (by rw [h.n, h.c]; omega), if_pos ⟨by omega, by omega, hmost⟩, h.is.rng]
    simp only [Option.bind_some]
    have hcells : ics l ++ ics m = ics (l ++ m) := by simp
    by_cases hx : s.x = true
    · simp only [hx, hcells]
      refine ⟨_, _, rfl, ?_, by simp, fun b hb _ => List.getElem?_append_left hb, fun e => absurd e hm, fun _ => Nat.le_refl _⟩
      have := Own.new (n0 := n0) (H := H) (l := l ++ m) (x := false) hn (fun e => by simp at e; exact absurd e.2 hm)
      rw [h.n]; simpa using this
    · have hx' : s.x = false := by cases e : s.x <;> simp_all
      have hlb : l ≠ [] ∧ H[s.b]? = some ⟨ics l, .rw, 1⟩ := by
        rcases h.blk with ⟨_, e⟩ | hb
        · exact absurd e hx
        · exact hb
      have hrw : rwB H s.b 1 = some (ics l) := by unfold rwB; rw [hlb.2]; rfl
      simp only [hx', hrw, Option.bind_some, hcells]
      refine ⟨_, _, rfl, ?_, by simp [killB], fun b hb hne => ?_, fun e => absurd e hm, fun _ => Nat.le_refl _⟩
      · have hk : (killB H s.b).length = H.length := by simp [killB]
        have := Own.new (n0 := n0) (H := killB H s.b) (l := l ++ m) (x := false) (by rw [hk]; exact hn) (fun e => by simp at e; exact absurd e.2 hm)
        rw [h.n]
        rw [hk] at this
        simpa using this
      · rw [List.getElem?_append_left (by simp [killB]; exact hb)]
        rcases hne with hne | hne
        · unfold killB
          rw [List.getElem?_modify]
          have : ¬ s.b = b := fun e => hne e.symm
          simp [this]
        · exact absurd hne hlb.1

/-- One number more. -/
theorem push_own {n0 : Nat} {H : AH} {s : Sl} {l : List Int} (hn : n0 ≤ H.length) (h : Own n0 H s l) (hl : l.length < 134217728) (v : Int) :
    ∃ s' H', (∀ {α : Type} (k : Sl × AH → Option α), ((newB H 1 [.int .i64 v]).bind fun h => (rng h.2 h.1 0 (1 * 1)).bind fun q => (appB h.2 1 8 s q 1).bind k) = k (s', H')) ∧ Own n0 H' s' (l ++ [v]) ∧ H.length ≤ H'.length ∧
      (∀ b, b < H.length → (b ≠ s.b ∨ l = []) → H'[b]? = H[b]?) ∧ H.length ≤ s'.b := by
  have hle := Le.app H [⟨[.int .i64 v], .rw, 1⟩]
  obtain ⟨s', H', e, h1, h2, h3, _, h5⟩ := app_own (m := [v]) (H := H ++ [⟨[.int .i64 v], .rw, 1⟩]) (by simp; omega) (h.le hle) (by simp; omega)
  refine ⟨s', H', fun k => ?_, h1, by simp at h2; omega, fun b hb hne => ?_, by have := h5 (by simp); simp at this; omega⟩
  · have hr : rng (H ++ [⟨[.int .i64 v], .rw, 1⟩]) H.length 0 (1 * 1) = some [.int .i64 v] := by
      unfold rng
      have : rdB (H ++ [⟨[Sc.int .i64 v], BS.rw, 1⟩]) H.length = some [.int .i64 v] := by unfold rdB; simp
      rw [this]; rfl
    have hnb : newB H 1 [.int .i64 v] = some (H.length, H ++ [⟨[.int .i64 v], .rw, 1⟩]) := rfl
    rw [hnb]
    simp only [Option.bind_some, hr]
    have : appB (H ++ [⟨[Sc.int .i64 v], BS.rw, 1⟩]) 1 8 s [.int .i64 v] 1 = some (s', H') := e
    rw [this]; rfl
  · rw [h3 b (by simp; omega) hne]
    exact List.getElem?_append_left hb
theorem Own.keeps {n0 : Nat} {H H' : AH} {s : Sl} {l : List Int} (h : Own n0 H s l) (hf : ∀ b, b < H.length → (b ≠ s.b ∨ l = []) → H'[b]? = H[b]?) (hn : n0 ≤ H.length) (hl : H.length ≤ H'.length) : Lo n0 H H' :=
  ⟨hl, fun b hb => hf b (by omega) (by
    rcases h.lo with h | h
    · exact .inr h
    · exact .inl (by omega))⟩

end Go.Abs
/- Contracts: networks, as the reference has them. -/
namespace Go.Abs
set_option linter.unusedVariables false
set_option linter.unusedSimpArgs false

theorem newB_one {H : AH} {cs : List Sc} : newB H 1 cs = some (H.length, H ++ [⟨cs, .rw, 1⟩]) := rfl

structure Nw where
  r : Rg
  ts : List Tn
  op : List Int
structure NS (H : AH) (s u : Sl) (n : Nw) : Prop where
  ts : T3 H s n.ts
  op : IS H u n.op
theorem NS.le {H H' : AH} (h : Le H H') {s u : Sl} {n : Nw} (k : NS H s u n) : NS H' s u n := ⟨k.ts.le h, k.op.le h⟩
theorem tensor_dims {r : Rg} {t : Tn} (h : tensorB r t = true) : t.L.length = t.D.length ∧ t.L.length ≤ 12 ∧ axesB t.L t.D = true := by
  simp only [tensorB, Bool.and_eq_true, decide_eq_true_eq] at h
  have h1 := h.1.1.2
  unfold sizeB at h1
  split at h1
  · rename_i e
    have := axes_dims e
    exact ⟨this.2.1, this.1, e⟩
  · exact absurd rfl h1

end Go.Abs
/- Contracts: networks, as the program has them. -/
namespace Go.Abs
set_option linter.unusedVariables false
set_option linter.unusedSimpArgs false

/-- impl.copyInts -/
theorem c_icopyInts {H : AH} {s : Sl} {l : List Int} (h : IS H s l) (hl : l.length ≤ 134217728) : ∃ s' H', R (.fn F.icopyInts) [ssc s] H = some ⟨1, [ssc s'], H'⟩ ∧ Le H H' ∧ Own H.length H' s' l := by
  rw [R_eq, e_icopyInts, h.rng]
  simp only [Option.bind_some]
  rw [h.n, app_nil hl]
  by_cases hn : l = []
  · rw [if_pos hn]; subst hn
    exact ⟨_, _, rfl, Le.refl H, Own.nil _ _ _⟩
  · rw [if_neg hn]
    exact ⟨_, _, rfl, Le.app _ _, Own.new (Nat.le_refl _) fun e => absurd e hn⟩
/-- spec.l05Ints -/
theorem c_sl05Ints {H : AH} {s : Sl} {l : List Int} (h : IS H s l) (hl : l.length ≤ 134217728) : ∃ s' H', R (.fn F.sl05Ints) [ssc s] H = some ⟨1, [ssc s'], H'⟩ ∧ Le H H' ∧ Own H.length H' s' l := by
  have h1 := Le.app H [⟨[], .rw, 1⟩]
  rw [R_eq, e_sl05Ints, newB_one]
  simp only [Option.bind_some]
  rw [(h.le h1).rng]
  simp only [Option.bind_some]
  rw [h.n, app_nil hl]
  by_cases hn : l = []
  · rw [if_pos hn]; subst hn
    exact ⟨_, _, rfl, h1, Own.nil _ _ _⟩
  · rw [if_neg hn]
    exact ⟨_, _, rfl, h1.trans (Le.app _ _), Own.new (by simp) fun e => absurd e hn⟩

def LabOk (t : Tn) : Prop := t.L.length = t.D.length ∧ t.L.length ≤ 12 ∧ ∀ x ∈ t.L, 0 ≤ x ∧ x ≤ 99

theorem ics_set (d : List Int) (i : Nat) (v : Int) : (ics d).set i (.int .i64 v) = ics (d.set i v) := by simp [List.map_set]

end Go.Abs
/- Contracts: networks, as the program has them. -/
namespace Go.Abs
set_option linter.unusedVariables false
set_option linter.unusedSimpArgs false

theorem setAll_all : ∀ (vs cs : List Sc) (o : Nat), o + vs.length ≤ cs.length → setAll cs o vs = cs.take o ++ vs ++ cs.drop (o + vs.length)
  | [], cs, o, h => by simp [setAll]
  | v :: vs, cs, o, h => by
    simp only [setAll]
    simp only [List.length_cons] at h
    rw [setAll_all vs _ (o + 1) (by simp; omega)]
    have e1 : (cs.set o v).take (o + 1) = cs.take o ++ [v] := by
      have ho : o < cs.length := by omega
      have e : cs.take (o + 1) = cs.take o ++ [cs[o]] := by rw [List.take_succ, List.getElem?_eq_getElem ho]; rfl
      rw [List.take_set, e, List.set_append]
      simp [Nat.min_eq_left (Nat.le_of_lt ho)]
    rw [e1, List.drop_set_of_lt (by omega)]
    simp [Nat.add_assoc, Nat.add_comm 1]
theorem mkAt_ints {H : AH} {i n : Nat} (hi : isRes H i = true) (hn : n ≤ 134217728) : mkAt H i 1 8 [.int .i64 0] (n : Int) (n : Int) = some (⟨i, 0, n, n, true⟩, H.set i ⟨ics (List.replicate n 0), .rw, 1⟩) := by
  unfold mkAt
  have := most_ok hn
  rw [if_pos ⟨hi, by omega, by omega, by omega, by omega, by omega⟩]
  simp [List.map_replicate, List.flatten_replicate_singleton]

/-- A number is stored. -/
theorem put_own {H : AH} {b n : Nat} {x : Bool} {cs : List Int} (hb : H[b]? = some ⟨ics cs, .rw, 1⟩) {i : Nat} (hi : i < n) (hc : i < cs.length) (v : Int) {α : Type} (k : AH → Option α) :
    ((ixA ⟨b, 0, n, n, x⟩ (i : Int) 1).bind fun o => (putR H b o [.int .i64 v]).bind k) = k (H.set b ⟨ics (cs.set i v), .rw, 1⟩) := by
  rw [ixA_nat (by exact hi)]
  simp only [Option.bind_some, Nat.zero_add, Nat.mul_one]
  rw [putR_one hb (by simpa using hc)]
  simp only [Option.bind_some, ics_set]

end Go.Abs
/- Networks: the program's check is the reference's. -/
namespace Go.Abs
set_option linter.unusedVariables false
set_option linter.unusedSimpArgs false

def distI : List Int → Prop
  | [] => True
  | x :: l => x ∉ l ∧ distI l

theorem axesG_facts : ∀ {pre ls ds : List Int}, axesG pre ls ds = true → ls.length = ds.length → distI ls ∧ (∀ x ∈ ls, 0 ≤ x ∧ x ≤ 99 ∧ x ∉ pre)
  | pre, [], ds, _, _ => ⟨trivial, by simp⟩
  | pre, n :: ls, [], _, h => by simp at h
  | pre, n :: ls, d :: ds, h, hl => by
    simp only [axesG, Bool.and_eq_true, Bool.not_eq_true'] at h
    obtain ⟨i1, i2⟩ := axesG_facts h.2 (by simpa using hl)
    have hn : n ∉ pre := fun hm => by
      have := List.any_eq_true.2 ⟨n, hm, (by simp : (n == n) = true)⟩
      rw [h.1.2] at this; cases this
    have h0 := h.1.1.1
    simp only [inB, Bool.and_eq_true, decide_eq_true_eq] at h0
    refine ⟨⟨fun hm => (i2 n hm).2.2 (by simp), i1⟩, fun x hx => ?_⟩
    rcases List.mem_cons.1 hx with rfl | hx
    · exact ⟨by omega, by omega, hn⟩
    · have := i2 x hx
      exact ⟨this.1, this.2.1, fun hm => this.2.2 (by simp [hm])⟩
theorem tensor_facts {r : Rg} {t : Tn} (h : tensorB r t = true) : LabOk t ∧ distI t.L ∧ ∀ d ∈ t.D, 1 ≤ d ∧ d ≤ 8 := by
  obtain ⟨h1, h2, h3⟩ := tensor_dims h
  have h4 := axes_dims h3
  simp only [axesB, Bool.and_eq_true, decide_eq_true_eq] at h3
  obtain ⟨g1, g2⟩ := axesG_facts h3.2 h1
  exact ⟨⟨h1, h2, fun x hx => ⟨(g2 x hx).1, (g2 x hx).2.1⟩⟩, g1, h4.2.2⟩

/-- What is bound to a number. -/
def look : List (Int × Int) → Int → Option Int
  | [], _ => none
  | (x, v) :: l, y => if x = y then some v else look l y
end Go.Abs
/- The program's check of a network is the reference's. -/
namespace Go.Abs
set_option linter.unusedVariables false
set_option linter.unusedSimpArgs false

structure Dm (d : List Int) (pre : List Tn) : Prop where
  len : d.length = 100
  get : ∀ y : Int, 0 ≤ y → y ≤ 99 → d.getD y.toNat 0 = dimF pre y

end Go.Abs
/- Contracts: rows of rows; the law's own helpers that only read. -/
namespace Go.Abs
set_option linter.unusedVariables false
set_option linter.unusedSimpArgs false

/-- A row of rows of whole numbers. -/
def I2 (H : AH) (s : Sl) (ll : List (List Int)) : Prop := s.n = ll.length ∧ s.n ≤ s.c ∧ (ll = [] ∨ ∃ cs, rdB H s.b = some cs ∧ ∀ (i : Nat) l, ll[i]? = some l → ∃ a, cs[s.o + i]? = some (.sl a) ∧ IS H a l)
theorem I2.le {H H' : AH} (h : Le H H') {s : Sl} {ll : List (List Int)} (k : I2 H s ll) : I2 H' s ll :=
  ⟨k.1, k.2.1, k.2.2.imp id fun ⟨cs, h1, h2⟩ => ⟨cs, h.rdB h1, fun i l hi => let ⟨a, e1, e2⟩ := h2 i l hi; ⟨a, e1, e2.le h⟩⟩⟩
theorem I2.ld {H : AH} {s : Sl} {ll : List (List Int)} (h : I2 H s ll) {i : Nat} (hi : i < ll.length) : ∃ a, IS H a ll[i] ∧ ∀ {α : Type} (k : Sl → Option α),
    ((ixA s (i : Int) 1).bind fun o => (rdB H s.b).bind fun q => (slAt q o).bind k) = k a := by
  obtain ⟨hn, _, rfl | ⟨cs, h1, h2⟩⟩ := h
  · simp at hi
  · obtain ⟨a, e1, e2⟩ := h2 i _ (List.getElem?_eq_getElem hi)
    refine ⟨a, e2, fun k => ?_⟩
    rw [ixA_nat (by omega)]
    simp only [Option.bind_some, h1, Nat.mul_one, slAt_get e1]

/-- laws.szIntS -/
theorem c_wszIntS (s : Sl) (left : Int) (h0 : 0 ≤ left) (h1 : left ≤ 1048576) (hs : s.n ≤ 9223372036854775807) (H : AH) : R (.fn F.wszIntS) [ssc s, isc left] H = some ⟨1, [isc (if left - s.n < 0 then -1 else left - s.n)], H⟩ := by
  rw [R_eq, e_wszIntS]
  have : IntKind.wrap .i64 (left - (s.n : Int)) = left - s.n := by rw [wrap_id] <;> omega
  rw [this]
  by_cases h : left - (s.n : Int) < 0
  · simp [h]
  · simp [h]

/-- laws.eqIntS -/
theorem c_weqIntS_0 {H : AH} {a b : Sl} {l m : List Int} (ha : IS H a l) (hb : IS H b m) (hl : l.length = m.length) (hm : l.length ≤ 1048576) : R (.loop F.weqIntS 0) [ssc a, ssc b, isc 0] H = cond (l == m) (some ⟨2, [], H⟩) (some ⟨1, [bsc false], H⟩) := by
  have := loopG (F := fun i : Nat => R (.loop F.weqIntS 0) [ssc a, ssc b, isc (i : Int)] H) (l := l) (fun q i => cond (q == m.drop i) (some ⟨2, [], H⟩) (some ⟨1, [bsc false], H⟩))
    (by rw [R_eq, e_weqIntS_0, ha.n, lt_self, List.drop_eq_nil_of_le (by omega)]; rfl) (fun i hi q hq => by
      have hi2 : i < m.length := by omega
      rw [R_eq, e_weqIntS_0, ha.n, ha.ldk hi, lt_true hi, w1 hi (by omega), cond_true, hb.ldk hi2, List.drop_eq_getElem_cons hi2]
      have hc : (l[i] :: q == m[i] :: m.drop (i + 1)) = (l[i] == m[i] && q == m.drop (i + 1)) := rfl
      rw [hc]
      by_cases h : l[i] = m[i]
      · have h1 : (l[i] != m[i]) = false := by simp [h]
        have h2 : (l[i] == m[i]) = true := by simp [h]
        rw [h1, h2, cond_false, Bool.true_and]; exact hq
      · have h1 : (l[i] != m[i]) = true := by simp [h]
        rw [h1, bf h]; rfl)
  exact this
theorem c_weqIntS {H : AH} {a b : Sl} {l m : List Int} (ha : IS H a l) (hb : IS H b m) (hm : l.length ≤ 1048576) : R (.fn F.weqIntS) [ssc a, ssc b] H = some ⟨1, [bsc (l == m)], H⟩ := by
  rw [R_eq, e_weqIntS, ha.n, hb.n]
  by_cases h : l.length = m.length
  · have h1 : ((l.length : Int) != (m.length : Int)) = false := by rw [h]; simp
    rw [h1, c_weqIntS_0 ha hb h hm]
    cases l == m <;> rfl
  · have h1 : ((l.length : Int) != (m.length : Int)) = true := by simp; omega
    have h2 : (l == m) = false := by
      rw [beq_eq_false_iff_ne]; rintro rfl; exact h rfl
    rw [h1, h2]; rfl

/- What reads alike is equal. -/
theorem c52_eq {H : AH} {a b : Sl} {l : List Int} (ha : IS H a l) (hb : IS H b l) (hm : l.length ≤ 1048576) : R (.fn F.weqIntS) [ssc a, ssc b] H = some ⟨1, [bsc true], H⟩ := by
  rw [c_weqIntS ha hb hm]; simp

def TnSmall (t : Tn) : Prop := t.L.length ≤ 1048576 ∧ t.D.length ≤ 1048576 ∧ t.X.length ≤ 1048576
/-- laws.eqTensor -/
theorem c11_eq {H : AH} {a b c a' b' c' : Sl} {t : Tn} (h : TS H a b c t) (k : TS H a' b' c' t) (hs : TnSmall t) : R (.fn F.weqTensor) [tpv a b c, tpv a' b' c'] H = some ⟨1, [bsc true], H⟩ := by
  rw [R_eq, e_weqTensor, c52_eq h.L k.L hs.1]
  simp only [Option.bind_some, one_bool, Bool.not_true, cond_false]
  rw [c52_eq h.D k.D hs.2.1]
  simp only [Option.bind_some, one_bool, Bool.not_true, cond_false]
  rw [c52_eq h.X k.X hs.2.2]
  rfl
end Go.Abs
/- Contracts: formulas. -/
namespace Go.Abs
set_option linter.unusedVariables false
set_option linter.unusedSimpArgs false

theorem loop_allB {α β : Type} {F : Nat → β} {l : List α} (p : α → Bool) (ok bad : β) (hend : F l.length = ok) (hstep : ∀ i (h : i < l.length), F i = cond (p l[i]) (F (i + 1)) bad) : F 0 = cond (l.all p) ok bad :=
  loopG (F := F) (l := l) (fun q _ => cond (q.all p) ok bad) hend fun i h r hr => by
    rw [hstep i h, hr]
    have : (l[i] :: r).all p = (p l[i] && r.all p) := rfl
    rw [this]
    rcases Bool.eq_false_or_eq_true (p l[i]) with h | h <;> rw [h] <;> rfl

end Go.Abs
/- Contracts: rows that are filled. -/
namespace Go.Abs
set_option linter.unusedVariables false
set_option linter.unusedSimpArgs false

/-- A new row is filled place by place, while what was there before stays. -/
theorem set_le {H0 Hc : AH} {b : Nat} {k : Blk} (h : Le H0 Hc) (hb : H0.length ≤ b) : Le H0 (Hc.set b k) :=
  ⟨by simp; exact h.len, fun c hc => by rw [List.getElem?_set_ne (by omega)]; exact h.get c hc⟩

/-- laws.toIntS -/
theorem c_wtoIntS {H : AH} {s : Sl} {l : List Int} (h : IS H s l) (hl : l.length ≤ 1048576) : ∃ H', R (.fn F.wtoIntS) [ssc s] H = some ⟨1, [ssc ⟨H.length, 0, l.length, l.length, true⟩], H'⟩ ∧ Le H H' ∧ H'.length = H.length + 1 ∧ H'[H.length]? = some ⟨ics l, .rw, 1⟩ := by
  have loop : ∀ (k i : Nat), i + k = l.length → ∀ (Hc : AH) (cs : List Int), Le H Hc → Hc.length = H.length + 1 → Hc[H.length]? = some ⟨ics cs, .rw, 1⟩ → cs.length = l.length → (∀ j x, j < i → l[j]? = some x → cs[j]? = some x) →
      ∃ H', R (.loop F.wtoIntS 0) [ssc s, ssc ⟨H.length, 0, l.length, l.length, true⟩, isc (i : Int)] Hc = some ⟨2, [], H'⟩ ∧ Le H H' ∧ H'.length = H.length + 1 ∧ H'[H.length]? = some ⟨ics l, .rw, 1⟩ := by
    intro k
    induction k with
    | zero =>
      intro i hi Hc cs hle hlen hb hcl hcs
      obtain rfl : i = l.length := by omega
      refine ⟨Hc, by rw [R_eq, e_wtoIntS_0, h.n, lt_self]; rfl, hle, hlen, ?_⟩
      have : cs = l := by
        refine List.ext_getElem? fun j => ?_
        rcases Nat.lt_or_ge j l.length with hj | hj
        · rw [hcs j l[j] hj (List.getElem?_eq_getElem hj), List.getElem?_eq_getElem hj]
        · rw [List.getElem?_eq_none (by omega), List.getElem?_eq_none hj]
      rw [← this]; exact hb
    | succ k ih =>
      intro i hi Hc cs hle hlen hb hcl hcs
      have hlt : i < l.length := by omega
      rw [R_eq, e_wtoIntS_0, h.n, lt_true hlt, w1 hlt (by omega), cond_true, (h.le hle).ldk hlt]
      rw [put_own hb hlt (by omega)]
      refine ih (i + 1) (by omega) _ (cs.set i l[i]) (set_le hle (Nat.le_refl _)) (by simpa using hlen) (by simp [hlen]) (by simp [hcl]) (fun j x hj hjx => ?_)
      by_cases e : i = j
      · subst e
        rw [List.getElem?_eq_getElem hlt] at hjx
        cases hjx
        simp [hcl, hlt]
      · rw [List.getElem?_set_ne e]; exact hcs j x (by omega) hjx
  have hm := mk_ints (H := H) (n := l.length) (by omega)
  obtain ⟨H', e, l1, l2, b1⟩ := loop l.length 0 (by omega) (H ++ [⟨ics (List.replicate l.length 0), .rw, 1⟩]) (List.replicate l.length 0) (Le.app _ _) (by simp) (by simp) (by simp) (fun j x hj => by omega)
  have e : R (.loop F.wtoIntS 0) [ssc s, ssc ⟨H.length, 0, l.length, l.length, true⟩, isc 0] (H ++ [⟨ics (List.replicate l.length 0), .rw, 1⟩]) = some ⟨2, [], H'⟩ := e
  refine ⟨H', ?_, l1, l2, b1⟩
  rw [R_eq, e_wtoIntS, h.n, hm]
  simp only [Option.bind_some]
  rw [e]; rfl

@[reducible] def rowAt (b : Nat) (l : List Int) : Sl := ⟨b, 0, l.length, l.length, true⟩

end Go.Abs
/- Contracts: marks, and whether they are held. -/
namespace Go.Abs
set_option linter.unusedVariables false
set_option linter.unusedSimpArgs false

def seqL (k : Int) : Nat → List Int
  | 0 => []
  | n + 1 => k :: seqL (k + 1) n
theorem seqL_len : ∀ (n : Nat) (k : Int), (seqL k n).length = n
  | 0, k => rfl
  | n + 1, k => by simp [seqL, seqL_len n]
theorem seqL_get : ∀ (n : Nat) (k : Int) (i : Nat), i < n → (seqL k n)[i]? = some (k + i)
  | n + 1, k, 0, _ => by simp [seqL]
  | n + 1, k, i + 1, h => by
    simp only [seqL, List.getElem?_cons_succ]
    rw [seqL_get n (k + 1) i (by omega)]
    congr 1; omega

/-- laws.markIntS -/
theorem c_wmarkIntS {n0 : Nat} {H : AH} {s : Sl} {l : List Int} (h : Own n0 H s l) (hl : l.length ≤ 4194304) {k : Int} (h0 : 0 ≤ k) (h1 : k ≤ 1099511627776) :
    ∃ H', R (.fn F.wmarkIntS) [ssc s, isc k] H = some ⟨1, [isc (k + l.length)], H'⟩ ∧ H'.length = H.length ∧ (∀ b, (b ≠ s.b ∨ l = []) → H'[b]? = H[b]?) ∧ Own n0 H' s (seqL k l.length) := by
  obtain ⟨b, o, n, c, x⟩ := s
  have ho := h.o; have hn := h.n; have hc := h.c
  simp only at ho hn hc
  subst ho; subst hn; subst hc
  by_cases hl0 : l = []
  · subst hl0
    refine ⟨H, ?_, rfl, fun _ _ => rfl, h⟩
    have : R (.loop F.wmarkIntS 0) [ssc ⟨b, 0, 0, 0, x⟩, isc k, isc 0] H = some ⟨2, [isc k], H⟩ := by
      rw [R_eq, e_wmarkIntS_0]; rfl
    rw [R_eq, e_wmarkIntS]
    simp only [List.length_nil]
    rw [this]
    simp [nthP, PV.sc?, intAt, Nat.beq]
  · have hb : H[b]? = some ⟨ics l, .rw, 1⟩ := by
      rcases h.blk with ⟨e, _⟩ | ⟨_, e⟩
      · exact absurd e hl0
      · exact e
    have loop : ∀ (m i : Nat), i + m = l.length → ∀ (Hc : AH) (cs : List Int), Hc.length = H.length → (∀ d, d ≠ b → Hc[d]? = H[d]?) → Hc[b]? = some ⟨ics cs, .rw, 1⟩ → cs.length = l.length → (∀ j, j < i → cs[j]? = some (k + j)) →
        ∃ H', R (.loop F.wmarkIntS 0) [ssc ⟨b, 0, l.length, l.length, x⟩, isc (k + i), isc (i : Int)] Hc = some ⟨2, [isc (k + l.length)], H'⟩ ∧ H'.length = H.length ∧ (∀ d, d ≠ b → H'[d]? = H[d]?) ∧ H'[b]? = some ⟨ics (seqL k l.length), .rw, 1⟩ := by
      intro m
      induction m with
      | zero =>
        intro i hi Hc cs hlen hoth hcb hcl hcs
        obtain rfl : i = l.length := by omega
        refine ⟨Hc, by rw [R_eq, e_wmarkIntS_0, lt_self]; rfl, hlen, hoth, ?_⟩
        have : cs = seqL k l.length := by
          refine List.ext_getElem? fun j => ?_
          rcases Nat.lt_or_ge j l.length with hj | hj
          · rw [hcs j hj, seqL_get _ _ _ hj]
          · rw [List.getElem?_eq_none (by omega), List.getElem?_eq_none (by rw [seqL_len]; exact hj)]
        rw [← this]; exact hcb
      | succ m ih =>
        intro i hi Hc cs hlen hoth hcb hcl hcs
        have hlt : i < l.length := by omega
        have hw : IntKind.wrap .i64 (k + (i : Int) + 1) = k + ((i + 1 : Nat) : Int) := by rw [wrap_id] <;> omega
        have hbl : b < Hc.length := (List.getElem?_eq_some_iff.1 hcb).1
        rw [R_eq, e_wmarkIntS_0, lt_true hlt, w1 hlt hl, cond_true, hw]
        rw [put_own hcb hlt (by omega)]
        refine ih (i + 1) (by omega) _ (cs.set i (k + i)) (by simpa using hlen) (fun d hd => by rw [List.getElem?_set_ne (Ne.symm hd)]; exact hoth d hd) (by rw [List.getElem?_set_self hbl]) (by simpa using hcl) (fun j hj => ?_)
        by_cases e : i = j
        · subst e; rw [List.getElem?_set_self (by omega)]
        · rw [List.getElem?_set_ne e]; exact hcs j (by omega)
    obtain ⟨H', e, l1, o1, b1⟩ := loop l.length 0 (by omega) H l rfl (fun _ _ => rfl) hb rfl (fun j hj => by omega)
    have e : R (.loop F.wmarkIntS 0) [ssc ⟨b, 0, l.length, l.length, x⟩, isc k, isc 0] H = some ⟨2, [isc (k + l.length)], H'⟩ := by
      have := e
      simp only [Int.natCast_zero, Int.add_zero] at this
      exact this
    refine ⟨H', ?_, l1, fun d hd => ?_, ⟨rfl, by rw [seqL_len], by rw [seqL_len], ?_, ?_⟩⟩
    · rw [R_eq, e_wmarkIntS, e]; rfl
    · rcases hd with hd | hd
      · exact o1 d hd
      · exact absurd hd hl0
    · rcases h.lo with e | e
      · exact absurd e hl0
      · exact .inr e
    · refine .inr ⟨fun e => hl0 ?_, b1⟩
      have := congrArg List.length e
      rw [seqL_len] at this
      exact List.length_eq_zero_iff.1 this

/-- laws.heldIntS, where the marks are held -/
theorem c_wheldIntS {H : AH} {s : Sl} {n : Nat} {k : Int} (h : IS H s (seqL k n)) (hl : n ≤ 4194304) (h0 : 0 ≤ k) (h1 : k ≤ 1099511627776) : R (.fn F.wheldIntS) [ssc s, isc k] H = some ⟨1, [isc (k + n)], H⟩ := by
  have hn : s.n = n := by rw [h.n, seqL_len]
  have loop : ∀ (m i : Nat), i + m = n → R (.loop F.wheldIntS 0) [ssc s, isc (k + i), isc (i : Int)] H = some ⟨2, [isc (k + n)], H⟩ := by
    intro m
    induction m with
    | zero =>
      intro i hi
      obtain rfl : i = n := by omega
      rw [R_eq, e_wheldIntS_0, hn, lt_self]; rfl
    | succ m ih =>
      intro i hi
      have hlt : i < n := by omega
      have hlt' : i < (seqL k n).length := by rw [seqL_len]; exact hlt
      have hx : (seqL k n)[i] = k + i := by
        have := seqL_get n k i hlt
        rw [List.getElem?_eq_getElem hlt'] at this
        exact Option.some.inj this
      have hw : IntKind.wrap .i64 (k + (i : Int) + 1) = k + ((i + 1 : Nat) : Int) := by rw [wrap_id] <;> omega
      rw [R_eq, e_wheldIntS_0, hn, lt_true hlt, w1 hlt hl, cond_true, h.ldk hlt', hx, hw]
      have : ((k + (i : Int)) != (k + (i : Int))) = false := by simp
      rw [this, cond_false]
      exact ih (i + 1) (by omega)
  have e := loop n 0 (by omega)
  simp only [Int.natCast_zero, Int.add_zero] at e
  rw [R_eq, e_wheldIntS]
  rw [show R (.loop F.wheldIntS 0) [.sc (.sl s), .sc (.int .i64 k), .sc (.int .i64 0)] H = _ from e]
  rfl
end Go.Abs
/- Contracts: the rows of a network, marked and held. -/
namespace Go.Abs
set_option linter.unusedVariables false
set_option linter.unusedSimpArgs false

abbrev Row := Sl × List Int
def apartR (p q : Row) : Prop := p.2 = [] ∨ q.2 = [] ∨ p.1.b ≠ q.1.b
/-- Rows of their own, no two of which share a block. -/
structure Rows (n0 : Nat) (H : AH) (rs : List Row) : Prop where
  own : ∀ p ∈ rs, Own n0 H p.1 p.2
  apart : rs.Pairwise apartR

theorem apartR.symm {p q : Row} (h : apartR p q) : apartR q p := by
  rcases h with h | h | h
  · exact .inr (.inl h)
  · exact .inl h
  · exact .inr (.inr (Ne.symm h))

/-- The three rows of a tensor. -/
@[reducible] def rows3 (a b c : Sl) (t : Tn) : List Row := [(a, t.L), (b, t.D), (c, t.X)]
def cntT (t : Tn) : Int := t.L.length + t.D.length + t.X.length
def cntTs : List Tn → Int
  | [] => 0
  | t :: ts => cntT t + cntTs ts
abbrev Tri := Sl × Sl × Sl
def rowsT : List Tri → List Tn → List Row
  | x :: xs, t :: ts => rows3 x.1 x.2.1 x.2.2 t ++ rowsT xs ts
  | _, _ => []

/-- The cells of a row of tensors. -/
def triC : List Tri → List Sc
  | [] => []
  | x :: xs => .sl x.1 :: .sl x.2.1 :: .sl x.2.2 :: triC xs
theorem triC_at : ∀ (xs : List Tri) (i : Nat) (x : Tri), xs[i]? = some x → (triC xs)[i * 3]? = some (.sl x.1) ∧ (triC xs)[i * 3 + 1]? = some (.sl x.2.1) ∧ (triC xs)[i * 3 + 2]? = some (.sl x.2.2)
  | [], i, x, h => by simp at h
  | y :: xs, 0, x, h => by simp at h; subst h; simp [triC]
  | y :: xs, i + 1, x, h => by
    have := triC_at xs i x (by simpa using h)
    have e : (i + 1) * 3 = i * 3 + 3 := by omega
    rw [e]
    simpa [triC, Nat.add_assoc] using this
theorem triC_len : ∀ xs : List Tri, (triC xs).length = xs.length * 3
  | [] => rfl
  | x :: xs => by simp [triC, triC_len xs]; omega

/-- A row of tensors that reads as these, by its triples; its block is kept apart from their rows by its size. -/
structure Outer (H : AH) (s : Sl) (xs : List Tri) : Prop where
  o : s.o = 0
  n : s.n = xs.length
  c : s.n ≤ s.c
  blk : xs = [] ∨ ∃ st cells, H[s.b]? = some ⟨cells, st, 3⟩ ∧ (st = .ro ∨ st = .rw) ∧ ∀ (i : Nat) v, (triC xs)[i]? = some v → cells[i]? = some v
theorem Outer.rd {H : AH} {s : Sl} {xs : List Tri} (h : Outer H s xs) {i : Nat} {x : Tri} (hx : xs[i]? = some x) : ∃ cs, rdB H s.b = some cs ∧ ixA s (i : Int) 3 = some (i * 3) ∧ cs[i * 3]? = some (.sl x.1) ∧ cs[i * 3 + 1]? = some (.sl x.2.1) ∧ cs[i * 3 + 2]? = some (.sl x.2.2) := by
  have hi := (List.getElem?_eq_some_iff.1 hx).1
  rcases h.blk with rfl | ⟨st, cells, hb, hst, hc⟩
  · simp at hi
  · obtain ⟨t1, t2, t3⟩ := triC_at xs i x hx
    refine ⟨cells, ?_, ?_, hc _ _ t1, hc _ _ t2, hc _ _ t3⟩
    · unfold rdB
      rw [hb]
      rcases hst with rfl | rfl <;> rfl
    · rw [ixA_nat (by rw [h.n]; exact hi), h.o, Nat.zero_add]
theorem Outer.keep {H H' : AH} {s : Sl} {xs : List Tri} (h : Outer H s xs) (hb : H'[s.b]? = H[s.b]?) : Outer H' s xs := ⟨h.o, h.n, h.c, h.blk.imp id fun ⟨st, cells, h1, h2⟩ => ⟨st, cells, hb.trans h1, h2⟩⟩

end Go.Abs
/- Contracts: a row of tensors is marked. -/
namespace Go.Abs
set_option linter.unusedVariables false
set_option linter.unusedSimpArgs false

def SmallT (t : Tn) : Prop := t.L.length ≤ 4194304 ∧ t.D.length ≤ 4194304 ∧ t.X.length ≤ 4194304

/-- A network's rows, its open labels last. -/
def rowsN (xs : List Tri) (u : Sl) (n : Nw) : List Row := rowsT xs n.ts ++ [(u, n.op)]
/-- A network of its own. -/
structure OwnN (n0 : Nat) (H : AH) (s u : Sl) (xs : List Tri) (n : Nw) : Prop where
  len : xs.length = n.ts.length
  outer : Outer H s xs
  rows : Rows n0 H (rowsN xs u n)
structure SmallN (n : Nw) : Prop where
  ts : n.ts.length ≤ 4194304
  t : ∀ t ∈ n.ts, SmallT t
  op : n.op.length ≤ 4194304
  cnt : cntTs n.ts ≤ 549755813888

end Go.Abs
/- Contracts: the marks of a network are held. -/
namespace Go.Abs
set_option linter.unusedVariables false
set_option linter.unusedSimpArgs false

end Go.Abs
/- Contracts: a formula is copied, and its copy is marked. -/
namespace Go.Abs
set_option linter.unusedVariables false
set_option linter.unusedSimpArgs false

/-- A copy of rows, as 'toIntSS' lays it from a block on. -/
structure Laid (H : AH) (b0 : Nat) (ll : List (List Int)) (cs : List Sc) : Prop where
  out : H[b0]? = some ⟨cs, .rw, 1⟩
  row : ∀ (j : Nat) l, ll[j]? = some l → cs[j]? = some (.sl (rowAt (b0 + 1 + j) l)) ∧ H[b0 + 1 + j]? = some ⟨ics l, .rw, 1⟩
@[reducible] def outAt (b0 : Nat) (ll : List (List Int)) : Sl := ⟨b0, 0, ll.length, ll.length, true⟩
theorem own_at {n0 b : Nat} {H : AH} {l : List Int} (hn : n0 ≤ b) (h : H[b]? = some ⟨ics l, .rw, 1⟩) : Own n0 H (rowAt b l) l :=
  ⟨rfl, rfl, rfl, .inr hn, by
    by_cases e : l = []
    · exact .inl ⟨e, rfl⟩
    · exact .inr ⟨e, h⟩⟩
theorem Laid.i2 {H : AH} {b0 : Nat} {ll : List (List Int)} {cs : List Sc} (h : Laid H b0 ll cs) : I2 H (outAt b0 ll) ll := by
  refine ⟨rfl, Nat.le_refl _, ?_⟩
  refine .inr ⟨cs, by unfold rdB; rw [h.out]; rfl, fun i l hi => ?_⟩
  obtain ⟨h1, h2⟩ := h.row i l hi
  exact ⟨_, by rw [Nat.zero_add]; exact h1, (own_at (Nat.le_refl _) h2).is⟩

end Go.Abs
/- Contracts: the ring's nought and one; products; a row of twos. -/
namespace Go.Abs
set_option linter.unusedVariables false
set_option linter.unusedSimpArgs false

/-- A new row, told by its block. -/
structure New (H H' : AH) (s : Sl) (l : List Int) : Prop where
  le : Le H H'
  s : s = rowAt H.length l
  len : H'.length = H.length + 1
  blk : H'[H.length]? = some ⟨ics l, .rw, 1⟩
theorem New.own {H H' : AH} {s : Sl} {l : List Int} (h : New H H' s l) : Own H.length H' s l := by rw [h.s]; exact own_at (Nat.le_refl _) h.blk

def zeroR (r : Rg) : List Int := (List.replicate (widthR r).toNat 0).set 0 (if r.k = 4 then r.p else 0)
def oneR (r : Rg) : List Int := (List.replicate (widthR r).toNat 0).set 0 (if r.k = 5 ∨ r.k = 6 then topR r else if r.k = 4 then 0 else 1)
theorem zeroR_len (r : Rg) : (zeroR r).length = (widthR r).toNat := by simp [zeroR]
theorem oneR_len (r : Rg) : (oneR r).length = (widthR r).toNat := by simp [oneR]

theorem mk_width {r : Rg} (hr : ringB r = true) {H : AH} : mkB H 1 8 [.int .i64 0] (widthR r) (widthR r) = some (⟨H.length, 0, (widthR r).toNat, (widthR r).toNat, true⟩, H ++ [⟨ics (List.replicate (widthR r).toNat 0), .rw, 1⟩]) := by
  have hw := width_range hr
  have e : widthR r = ((widthR r).toNat : Int) := by omega
  have := mk_ints (H := H) (n := (widthR r).toNat) (by omega)
  rw [← e] at this
  exact this
theorem put_first {H : AH} {n : Nat} {x : Bool} (hn : 0 < n) (v : Int) {α : Type} (k : AH → Option α) :
    ((ixA ⟨H.length, 0, n, n, x⟩ 0 1).bind fun o => (putR (H ++ [⟨ics (List.replicate n 0), .rw, 1⟩]) H.length o [.int .i64 v]).bind k) = k (H ++ [⟨ics ((List.replicate n 0).set 0 v), .rw, 1⟩]) := by
  have := put_own (H := H ++ [⟨ics (List.replicate n 0), .rw, 1⟩]) (b := H.length) (n := n) (x := x) (cs := List.replicate n 0) (by simp) (i := 0) hn (by simpa using hn) v k
  refine Eq.trans this ?_
  congr 1
  simp
theorem new_app (H : AH) (l : List Int) : New H (H ++ [⟨ics l, .rw, 1⟩]) (rowAt H.length l) l := ⟨Le.app _ _, rfl, by simp, by simp⟩

/-- spec.l02Zero -/
theorem c_sl02Zero {r : Rg} (hr : ringB r = true) (H : AH) : ∃ s H', R (.fn F.sl02Zero) [r.pv] H = some ⟨1, [ssc s], H'⟩ ∧ New H H' s (zeroR r) := by
  have hw := width_range hr
  have hpos : 0 < (widthR r).toNat := by omega
  refine ⟨_, _, ?_, new_app H (zeroR r)⟩
  rw [R_eq, e_sl02Zero, c_sl02Width]
  simp only [Option.bind_some, one_int, mk_width hr]
  unfold zeroR
  by_cases h4 : r.k = 4
  · have : (r.k == 4) = true := by simp [h4]
    simp only [this, cond_true, h4, if_true]
    rw [put_first hpos]
    simp
  · simp only [bf h4, cond_false, h4, if_false]
    have : (List.replicate (widthR r).toNat (0 : Int)).set 0 0 = List.replicate (widthR r).toNat 0 := by
      cases (widthR r).toNat with
      | zero => rfl
      | succ n => simp [List.replicate_succ]
    rw [this]
    simp
/-- impl.rawZero -/
theorem c_irawZero {r : Rg} (hr : ringB r = true) (H : AH) : ∃ s H', R (.fn F.irawZero) [r.pv] H = some ⟨1, [ssc s], H'⟩ ∧ New H H' s (zeroR r) := by
  have hw := width_range hr
  have hpos : 0 < (widthR r).toNat := by omega
  refine ⟨_, _, ?_, new_app H (zeroR r)⟩
  rw [R_eq, e_irawZero, c_irawWidth]
  simp only [Option.bind_some, one_int, mk_width hr]
  unfold zeroR
  by_cases h4 : r.k = 4
  · have : (r.k == 4) = true := by simp [h4]
    simp only [this, cond_true, h4, if_true]
    rw [put_first hpos]
    simp
  · simp only [bf h4, cond_false, h4, if_false]
    have : (List.replicate (widthR r).toNat (0 : Int)).set 0 0 = List.replicate (widthR r).toNat 0 := by
      cases (widthR r).toNat with
      | zero => rfl
      | succ n => simp [List.replicate_succ]
    rw [this]
    simp

/-- spec.l02One -/
theorem c_sl02One {r : Rg} (hr : ringB r = true) (H : AH) : ∃ s H', R (.fn F.sl02One) [r.pv] H = some ⟨1, [ssc s], H'⟩ ∧ New H H' s (oneR r) := by
  have hw := width_range hr
  have hpos : 0 < (widthR r).toNat := by omega
  have h60 : r.k = 6 → 0 ≤ r.n := fun e => by have := ring6 hr e; omega
  refine ⟨_, _, ?_, new_app H (oneR r)⟩
  rw [R_eq, e_sl02One, c_sl02Width]
  simp only [Option.bind_some, one_int, mk_width hr]
  unfold oneR
  by_cases h56 : r.k = 5 ∨ r.k = 6
  · have e : ∀ X : AH, (((cond (r.k == 5) (some (⟨0, [.sc (.bool (r.k == 5))], X⟩ : Out)) (some ⟨0, [.sc (.bool (r.k == 6))], X⟩)) : Option Out)) = some ⟨0, [.sc (.bool true)], X⟩ := fun X => by
      rcases h56 with h | h <;> simp [h]
    rw [e, if_pos h56]
    simp only [Option.bind_some, Nat.beq, cond_true, nth_bool, c_sl02Top r h60, one_int]
    rw [put_first hpos]
    simp
  · have h5 : ¬ r.k = 5 := fun h => h56 (.inl h)
    have h6 : ¬ r.k = 6 := fun h => h56 (.inr h)
    rw [if_neg h56, bf h5, bf h6]
    simp only [cond_false, Option.bind_some, Nat.beq, cond_true, nth_bool]
    by_cases h4 : r.k = 4
    · have e4 : (r.k == 4) = true := by simp [h4]
      rw [if_pos h4, e4, cond_true, put_first hpos]
      simp
    · rw [if_neg h4, bf h4, cond_false, put_first hpos]
      simp
end Go.Abs
/- Contracts: products; a row of twos. -/
namespace Go.Abs
set_option linter.unusedVariables false
set_option linter.unusedSimpArgs false

def prodI : Int → List Int → Int
  | a, [] => a
  | a, d :: l => prodI (a * d) l
/-- impl.productOf, of few and small numbers -/
theorem c_iproductOf {H : AH} {s : Sl} {l : List Int} (h : IS H s l) (hm : l.length ≤ 12) (hd : ∀ d ∈ l, 1 ≤ d ∧ d ≤ 8) : R (.fn F.iproductOf) [ssc s] H = some ⟨1, [isc (prodI 1 l)], H⟩ := by
  have := loopS (F := fun (a : Int) (i : Nat) => R (.loop F.iproductOf 0) [isc a, ssc s, isc (l.length : Int), isc (i : Int)] H) (l := l) (fun a i => 0 ≤ a ∧ a ≤ 8 ^ i) (fun a l _ => some ⟨2, [isc (prodI a l)], H⟩)
    (fun a _ => by rw [R_eq, e_iproductOf_0, lt_self]; rfl) (fun a i hi r ha ih => by
      rw [R_eq, e_iproductOf_0, h.ldk hi, lt_true hi, w1 hi (by omega)]
      have hdi := hd l[i] (List.getElem_mem hi)
      have h1 : 0 ≤ a * l[i] := Int.mul_nonneg ha.1 (by omega)
      have h2 : a * l[i] ≤ 8 ^ i * 8 := Int.mul_le_mul ha.2 hdi.2 (by omega) (by have : (0 : Int) < 8 ^ i := Int.pow_pos (by omega); omega)
      have h3 : (8 : Int) ^ i * 8 = 8 ^ (i + 1) := (Int.pow_succ 8 i).symm
      have h4 : (8 : Int) ^ (i + 1) ≤ 8 ^ 12 := by exact_mod_cast Nat.pow_le_pow_right (n := 8) (by omega) (show i + 1 ≤ 12 by omega)
      have e1 : IntKind.wrap .i64 (a * l[i]) = a * l[i] := by rw [wrap_id] <;> omega
      simp only [cond_true, e1, prodI]
      exact ih _ ⟨h1, by omega⟩) 1 (by simp)
  have this : R (.loop F.iproductOf 0) [isc 1, ssc s, isc (l.length : Int), isc 0] H = some ⟨2, [isc (prodI 1 l)], H⟩ := this
  rw [R_eq, e_iproductOf, h.n, this]
  rfl
end Go.Abs
/- Words: owned rows that change; numbers read from and written to owned blocks. -/
namespace Go.Abs
set_option linter.unusedVariables false
set_option linter.unusedSimpArgs false

/-- A row in the midst of others is changed or replaced. -/
theorem Rows.upd {n0 : Nat} {H H' : AH} {xs ys : List Row} {p : Row} (h : Rows n0 H (xs ++ p :: ys)) {s' : Sl} {l' : List Int} (ho : Own n0 H' s' l')
    (hf : ∀ b, b < H.length → (b ≠ p.1.b ∨ p.2 = []) → H'[b]? = H[b]?) (hs : l' ≠ [] → H.length ≤ s'.b ∨ (s'.b = p.1.b ∧ p.2 ≠ [])) : Rows n0 H' (xs ++ (s', l') :: ys) := by
  have hpa := h.apart
  rw [List.pairwise_append] at hpa
  obtain ⟨pa1, pa2, pa3⟩ := hpa
  rw [List.pairwise_cons] at pa2
  have hother : ∀ q : Row, apartR p q → Own n0 H q.1 q.2 → Own n0 H' q.1 q.2 := fun q hq ho => ho.mono fun hne => hf _ (ho.lt hne) (by
    rcases hq with hq | hq | hq
    · exact .inr hq
    · exact absurd hq hne
    · exact .inl (Ne.symm hq))
  have tr : ∀ q : Row, apartR p q → Own n0 H q.1 q.2 → apartR (s', l') q := fun q hq ho => by
    by_cases e1 : l' = []
    · exact .inl e1
    by_cases e2 : q.2 = []
    · exact .inr (.inl e2)
    refine .inr (.inr ?_)
    have hlt := ho.lt e2
    rcases hs e1 with h | ⟨h, hp⟩
    · show s'.b ≠ q.1.b; omega
    · rcases hq with hq | hq | hq
      · exact absurd hq hp
      · exact absurd hq e2
      · show s'.b ≠ q.1.b; rw [h]; exact hq
  refine ⟨fun q hq => ?_, ?_⟩
  · rcases List.mem_append.1 hq with hq | hq
    · exact hother q (pa3 q hq p (by simp)).symm (h.own q (by simp [hq]))
    · rcases List.mem_cons.1 hq with rfl | hq
      · exact ho
      · exact hother q (pa2.1 q hq) (h.own q (by simp [hq]))
  · rw [List.pairwise_append, List.pairwise_cons]
    refine ⟨pa1, ⟨fun q hq => tr q (pa2.1 q hq) (h.own q (by simp [hq])), pa2.2⟩, fun q hq q' hq' => ?_⟩
    rcases List.mem_cons.1 hq' with rfl | hq'
    · exact (tr q (pa3 q hq p (by simp)).symm (h.own q (by simp [hq]))).symm
    · exact pa3 q hq q' (by simp [hq'])
theorem Rows.frame {n0 : Nat} {H H' : AH} {rs : List Row} (h : Rows n0 H rs) (hf : ∀ p ∈ rs, p.2 ≠ [] → H'[p.1.b]? = H[p.1.b]?) : Rows n0 H' rs := ⟨fun p hp => (h.own p hp).mono fun hne => hf p hp hne, h.apart⟩
theorem Rows.le {n0 : Nat} {H H' : AH} {rs : List Row} (h : Rows n0 H rs) (hb : Le H H') : Rows n0 H' rs := ⟨fun p hp => (h.own p hp).le hb, h.apart⟩
theorem Rows.low {n0 n1 : Nat} {H : AH} {rs : List Row} (h : Rows n0 H rs) (hn : n1 ≤ n0) : Rows n1 H rs := ⟨fun p hp => (h.own p hp).low hn, h.apart⟩
theorem Rows.nil (n0 : Nat) (H : AH) : Rows n0 H [] := ⟨fun p hp => by simp at hp, .nil⟩
theorem Rows.sub {n0 : Nat} {H : AH} {rs qs : List Row} (h : Rows n0 H rs) (hs : qs.Sublist rs) : Rows n0 H qs := ⟨fun p hp => h.own p (hs.subset hp), h.apart.sublist hs⟩
/-- A new row beside others. -/
theorem Rows.cons {n0 : Nat} {H : AH} {rs : List Row} (h : Rows n0 H rs) {s : Sl} {l : List Int} (ho : Own n0 H s l) (hd : l ≠ [] → ∀ q ∈ rs, q.2 ≠ [] → s.b ≠ q.1.b) : Rows n0 H ((s, l) :: rs) :=
  ⟨fun p hp => by
    rcases List.mem_cons.1 hp with rfl | hp
    · exact ho
    · exact h.own p hp, List.pairwise_cons.2 ⟨fun q hq => by
      by_cases e1 : l = []
      · exact .inl e1
      by_cases e2 : q.2 = []
      · exact .inr (.inl e2)
      · exact .inr (.inr (hd e1 q hq e2)), h.apart⟩⟩
theorem Rows.perm {n0 : Nat} {H : AH} {rs qs : List Row} (h : Rows n0 H rs) (hp : qs.Perm rs) : Rows n0 H qs := ⟨fun p hq => h.own p (hp.mem_iff.1 hq), (hp.pairwise_iff (fun {a b} hab => apartR.symm hab)).2 h.apart⟩
/-- Rows that were made later lie apart. -/
theorem Rows.app {n0 n1 : Nat} {H : AH} {rs qs : List Row} (h : Rows n0 H rs) (k : Rows n1 H qs) (hn : n0 ≤ n1) (hlt : ∀ p ∈ rs, p.2 ≠ [] → p.1.b < n1) : Rows n0 H (rs ++ qs) :=
  ⟨fun p hp => by
    rcases List.mem_append.1 hp with hp | hp
    · exact h.own p hp
    · exact (k.own p hp).low hn, List.pairwise_append.2 ⟨h.apart, k.apart, fun p hp q hq => by
      by_cases e1 : p.2 = []
      · exact .inl e1
      by_cases e2 : q.2 = []
      · exact .inr (.inl e2)
      refine .inr (.inr ?_)
      have h1 := hlt p hp e1
      rcases (k.own q hq).lo with h2 | h2
      · exact absurd h2 e2
      · omega⟩⟩
theorem Rows.lt {n0 : Nat} {H : AH} {rs : List Row} (h : Rows n0 H rs) : ∀ p ∈ rs, p.2 ≠ [] → p.1.b < H.length := fun p hp hne => (h.own p hp).lt hne

/-- A number is written to an owned block. -/
theorem st_own {H : AH} {b o n c : Nat} {x : Bool} {cs : List Int} (hb : H[b]? = some ⟨ics cs, .rw, 1⟩) {i : Nat} (hi : i < n) (hc : o + i < cs.length) (v : Int) {α : Type} (k : AH → Option α) :
    ((ixA ⟨b, o, n, c, x⟩ (i : Int) 1).bind fun o => (putR H b o [.int .i64 v]).bind k) = k (H.set b ⟨ics (cs.set (o + i) v), .rw, 1⟩) := by
  rw [ixA_nat (by exact hi)]
  simp only [Option.bind_some, Nat.mul_one]
  rw [putR_one hb (by simpa using hc)]
  simp only [Option.bind_some, ics_set]
theorem st_own0 {H : AH} {b n c : Nat} {x : Bool} {cs : List Int} (hb : H[b]? = some ⟨ics cs, .rw, 1⟩) {i : Nat} (hi : i < n) (hc : i < cs.length) (v : Int) {α : Type} (k : AH → Option α) :
    ((ixA ⟨b, 0, n, c, x⟩ (i : Int) 1).bind fun o => (putR H b o [.int .i64 v]).bind k) = k (H.set b ⟨ics (cs.set i v), .rw, 1⟩) := by
  have := st_own (o := 0) (c := c) (x := x) hb hi (by omega) v k
  simpa using this
theorem set_get {H : AH} {b : Nat} {k0 k : Blk} (h : H[b]? = some k0) : (H.set b k)[b]? = some k := by
  have := (List.getElem?_eq_some_iff.1 h).1
  simp [this]
theorem set_set {H : AH} {b : Nat} (k k' : Blk) : (H.set b k).set b k' = H.set b k' := by simp
theorem IS.set {H : AH} {s : Sl} {l : List Int} (h : IS H s l) {b : Nat} {k : Blk} (hb : l ≠ [] → s.b ≠ b) : IS (H.set b k) s l := by
  by_cases hl : l = []
  · exact ⟨h.n, h.c, .inl hl⟩
  · refine ⟨h.n, h.c, h.rd.imp id fun ⟨cs, h1, h2⟩ => ⟨cs, ?_, h2⟩⟩
    unfold rdB at h1 ⊢
    rw [List.getElem?_set_ne (Ne.symm (hb hl))]
    exact h1
theorem IS.of_blk {H : AH} {b : Nat} {l : List Int} {c : Nat} {x : Bool} (h : H[b]? = some ⟨ics l, .rw, 1⟩) (hc : l.length ≤ c) : IS H ⟨b, 0, l.length, c, x⟩ l :=
  ⟨rfl, hc, .inr ⟨ics l, by unfold rdB; rw [h]; rfl, fun i x hi => by simp [hi]⟩⟩
theorem IS.lt {H : AH} {s : Sl} {l : List Int} (h : IS H s l) (hl : l ≠ []) : s.b < H.length := by
  rcases h.rd with e | ⟨cs, h1, _⟩
  · exact absurd e hl
  · exact rdB_lt h1
theorem Le.set {H0 H : AH} (h : Le H0 H) {b : Nat} {k : Blk} (hb : H0.length ≤ b) : Le H0 (H.set b k) := set_le h hb
theorem Le.push {H0 H : AH} (h : Le H0 H) (X : AH) : Le H0 (H ++ X) := h.trans (Le.app H X)
end Go.Abs
/- Pure: places in a tensor and their indices. -/
namespace Go.Abs
set_option linter.unusedVariables false
set_option linter.unusedSimpArgs false

def prd : List Int → Int
  | [] => 1
  | d :: l => d * prd l
theorem prd_app : ∀ (a b : List Int), prd (a ++ b) = prd a * prd b
  | [], b => by simp [prd]
  | d :: a, b => by simp [prd, prd_app a b, Int.mul_assoc]
theorem prd_rev : ∀ a : List Int, prd a.reverse = prd a
  | [] => rfl
  | d :: a => by rw [List.reverse_cons, prd_app, prd_rev a]; simp [prd, Int.mul_comm]
theorem prd_pos : ∀ {a : List Int}, (∀ d ∈ a, 1 ≤ d) → 1 ≤ prd a
  | [], _ => Int.le_refl _
  | d :: a, h => by
    have h1 := h d List.mem_cons_self
    have h2 := prd_pos (a := a) fun x hx => h x (List.mem_cons_of_mem _ hx)
    have : 1 * 1 ≤ d * prd a := Int.mul_le_mul h1 h2 (by omega) (by omega)
    simpa [prd] using this
theorem prodI_eq : ∀ (l : List Int) (a : Int), prodI a l = a * prd l
  | [], a => by simp [prodI, prd]
  | d :: l, a => by simp only [prodI, prd]; rw [prodI_eq l, Int.mul_assoc]

/-- Digits, the last axis first. -/
def idxR : List Int → Int → List Int
  | [], _ => []
  | d :: r, n => n % d :: idxR r (n / d)
def idxF (D : List Int) (n : Int) : List Int := (idxR D.reverse n).reverse
theorem idxR_len : ∀ (r : List Int) (n : Int), (idxR r n).length = r.length
  | [], _ => rfl
  | d :: r, n => by simp [idxR, idxR_len r]
theorem idxF_len (D : List Int) (n : Int) : (idxF D n).length = D.length := by simp [idxF, idxR_len]
theorem idxF_snoc (D : List Int) (d n : Int) : idxF (D ++ [d]) n = idxF D (n / d) ++ [n % d] := by simp [idxF, idxR]

def fitsI : List Int → List Int → Prop
  | [], [] => True
  | d :: ds, x :: xs => 0 ≤ x ∧ x < d ∧ fitsI ds xs
  | _, _ => False
theorem fits_len : ∀ {D I : List Int}, fitsI D I → I.length = D.length
  | [], [], _ => rfl
  | d :: ds, x :: xs, h => by simp [fits_len h.2.2]
  | [], _ :: _, h => h.elim
  | _ :: _, [], h => h.elim
theorem fits_app : ∀ {D I D' I' : List Int}, I.length = D.length → (fitsI (D ++ D') (I ++ I') ↔ fitsI D I ∧ fitsI D' I')
  | [], [], D', I', _ => by simp [fitsI]
  | d :: ds, x :: xs, D', I', h => by
    simp only [List.cons_append, fitsI]
    rw [fits_app (by simpa using h)]
    exact ⟨fun h => ⟨⟨h.1, h.2.1, h.2.2.1⟩, h.2.2.2⟩, fun h => ⟨h.1.1, h.1.2.1, h.1.2.2, h.2⟩⟩
  | [], _ :: _, _, _, h => by simp at h
  | _ :: _, [], _, _, h => by simp at h
theorem fits_rev : ∀ {D I : List Int}, fitsI D I → fitsI D.reverse I.reverse
  | [], [], _ => trivial
  | d :: ds, x :: xs, h => by
    rw [List.reverse_cons, List.reverse_cons, fits_app (by simp [fits_len h.2.2])]
    exact ⟨fits_rev h.2.2, h.1, h.2.1, trivial⟩
  | [], _ :: _, h => h.elim
  | _ :: _, [], h => h.elim
theorem fits_get : ∀ {D I : List Int}, fitsI D I → ∀ (i : Nat) (h1 : i < D.length) (h2 : i < I.length), 0 ≤ I[i] ∧ I[i] < D[i]
  | d :: ds, x :: xs, h, 0, _, _ => ⟨h.1, h.2.1⟩
  | d :: ds, x :: xs, h, i + 1, h1, h2 => fits_get h.2.2 i (by simpa using h1) (by simpa using h2)
theorem idxR_fits : ∀ {r : List Int} {n : Int}, (∀ d ∈ r, 1 ≤ d) → fitsI r (idxR r n)
  | [], _, _ => trivial
  | d :: r, n, h => by
    have hd := h d List.mem_cons_self
    exact ⟨Int.emod_nonneg _ (by omega), Int.emod_lt_of_pos _ (by omega), idxR_fits fun x hx => h x (List.mem_cons_of_mem _ hx)⟩
theorem idxF_fits {D : List Int} {n : Int} (h : ∀ d ∈ D, 1 ≤ d) : fitsI D (idxF D n) := by
  have := fits_rev (idxR_fits (r := D.reverse) (n := n) fun d hd => h d (by simpa using hd))
  simpa [idxF] using this
theorem idxR_zero : ∀ r : List Int, idxR r 0 = List.replicate r.length 0
  | [] => rfl
  | d :: r => by simp [idxR, idxR_zero r, List.replicate_succ]
theorem idxF_zero (D : List Int) : idxF D 0 = List.replicate D.length 0 := by simp [idxF, idxR_zero]

theorem div_mul_lt {d n m : Int} (hd : 1 ≤ d) (h0 : 0 ≤ n) (h : n < d * m) : n / d < m := by
  have := Int.ediv_lt_of_lt_mul (a := n) (b := m) (c := d) (by omega) (by rw [Int.mul_comm]; exact h)
  exact this
/-- The place of an index. -/
def offR : List Int → List Int → Int
  | d :: r, x :: xs => offR r xs * d + x
  | _, _ => 0
def offF (D I : List Int) : Int := offR D.reverse I.reverse
theorem offF_snoc (D I : List Int) (d x : Int) : offF (D ++ [d]) (I ++ [x]) = offF D I * d + x := by simp [offF, offR]
theorem offR_idx : ∀ {r : List Int} {n : Int}, (∀ d ∈ r, 1 ≤ d) → 0 ≤ n → n < prd r → offR r (idxR r n) = n
  | [], n, _, h0, h1 => by simp [prd] at h1; simp [offR, idxR]; omega
  | d :: r, n, h, h0, h1 => by
    have hd := h d List.mem_cons_self
    simp only [idxR, offR]
    rw [offR_idx (fun x hx => h x (List.mem_cons_of_mem _ hx)) (Int.ediv_nonneg h0 (by omega)) (div_mul_lt hd h0 h1)]
    have := Int.mul_ediv_add_emod n d
    rw [Int.mul_comm]; omega
theorem offF_idx {D : List Int} {n : Int} (h : ∀ d ∈ D, 1 ≤ d) (h0 : 0 ≤ n) (h1 : n < prd D) : offF D (idxF D n) = n := by
  unfold offF
  have : (idxF D n).reverse = idxR D.reverse n := by simp [idxF]
  rw [this, offR_idx (fun d hd => h d (by simpa using hd)) h0 (by rw [prd_rev]; exact h1)]
theorem offR_range : ∀ {r x : List Int}, fitsI r x → 0 ≤ offR r x ∧ offR r x < prd r
  | [], [], _ => by simp [offR, prd]
  | d :: r, x :: xs, h => by
    obtain ⟨h1, h2⟩ := offR_range h.2.2
    have hd : 0 < d := by have := h.1; have := h.2.1; omega
    simp only [offR, prd]
    have a1 : 0 ≤ offR r xs * d := Int.mul_nonneg h1 (by omega)
    have a2 : (offR r xs + 1) * d ≤ prd r * d := Int.mul_le_mul_of_nonneg_right (by omega) (by omega)
    rw [Int.add_mul, Int.one_mul, Int.mul_comm (prd r)] at a2
    have := h.1; have := h.2.1
    omega
  | [], _ :: _, h => h.elim
  | _ :: _, [], h => h.elim
theorem offF_range {D I : List Int} (h : fitsI D I) : 0 ≤ offF D I ∧ offF D I < prd D := by
  have := offR_range (fits_rev h)
  rw [prd_rev] at this
  exact this
/-- Two indices at one place are one. -/
theorem idxR_off : ∀ {r x : List Int}, fitsI r x → idxR r (offR r x) = x
  | [], [], _ => rfl
  | d :: r, x :: xs, h => by
    obtain ⟨h1, h2⟩ := offR_range h.2.2
    have hd : 0 < d := by have := h.1; have := h.2.1; omega
    simp only [offR, idxR]
    have e0 : offR r xs * d + x = x + d * offR r xs := by rw [Int.mul_comm]; omega
    have e1 : (offR r xs * d + x) % d = x := by rw [e0, Int.add_mul_emod_self_left, Int.emod_eq_of_lt h.1 h.2.1]
    have e2 : (offR r xs * d + x) / d = offR r xs := by rw [e0, Int.add_mul_ediv_left _ _ (by omega), Int.ediv_eq_zero_of_lt h.1 h.2.1]; omega
    rw [e1, e2, idxR_off h.2.2]
  | [], _ :: _, h => h.elim
  | _ :: _, [], h => h.elim
theorem idxF_off {D I : List Int} (h : fitsI D I) : idxF D (offF D I) = I := by
  unfold idxF offF
  rw [idxR_off (fits_rev h)]; simp
theorem take_fits {D I : List Int} (h : fitsI D I) (i : Nat) : fitsI (D.take i) (I.take i) := by
  have h1 : fitsI (D.take i ++ D.drop i) (I.take i ++ I.drop i) := by simpa using h
  have hl := fits_len h
  rw [fits_app (by simp [hl])] at h1
  exact h1.1
theorem prd_take_le {D : List Int} (h : ∀ d ∈ D, 1 ≤ d) (i : Nat) : prd (D.take i) ≤ prd D := by
  have e : prd D = prd (D.take i) * prd (D.drop i) := by rw [← prd_app, List.take_append_drop]
  have h1 := prd_pos (a := D.take i) fun d hd => h d (List.mem_of_mem_take hd)
  have h2 := prd_pos (a := D.drop i) fun d hd => h d (List.mem_of_mem_drop hd)
  have : prd (D.take i) * 1 ≤ prd (D.take i) * prd (D.drop i) := Int.mul_le_mul_of_nonneg_left h2 (by omega)
  omega
end Go.Abs
/- Contracts: indices. -/
namespace Go.Abs
set_option linter.unusedVariables false
set_option linter.unusedSimpArgs false

theorem ics_len (l : List Int) : (ics l).length = l.length := by simp
theorem app_get {H : AH} {k : Blk} : (H ++ [k])[H.length]? = some k := by simp
theorem app_set {H : AH} {k k' : Blk} : (H ++ [k]).set H.length k' = H ++ [k'] := by simp
theorem set_same {H : AH} {b : Nat} {k : Blk} (h : H[b]? = some k) : H.set b k = H := by
  refine List.ext_getElem? fun i => ?_
  rw [List.getElem?_set]
  split
  · rename_i e; subst e
    have := (List.getElem?_eq_some_iff.1 h).1
    rw [if_pos this, ← h]
  · rfl

/-- A row is filled upwards. -/
theorem fill_up {β : Type} {F : Nat → AH → β} {H : AH} {b n : Nat} (g : Nat → Int) (hstep : ∀ i cs, i < n → cs.length = n → F i (H.set b ⟨ics cs, .rw, 1⟩) = F (i + 1) (H.set b ⟨ics (cs.set i (g i)), .rw, 1⟩)) :
    ∀ cs, cs.length = n → F 0 (H.set b ⟨ics cs, .rw, 1⟩) = F n (H.set b ⟨ics ((List.range n).map g), .rw, 1⟩) := by
  have key : ∀ k i cs, i + k = n → cs.length = n → F i (H.set b ⟨ics cs, .rw, 1⟩) = F n (H.set b ⟨ics (cs.take i ++ ((List.range n).map g).drop i), .rw, 1⟩) := by
    intro k
    induction k with
    | zero =>
      intro i cs hi hl
      obtain rfl : i = n := by omega
      rw [List.take_of_length_le (by omega), List.drop_eq_nil_of_le (by simp), List.append_nil]
    | succ k ih =>
      intro i cs hi hl
      rw [hstep i cs (by omega) hl, ih (i + 1) _ (by omega) (by simpa using hl)]
      congr 4
      have h1 : (cs.set i (g i)).take (i + 1) = cs.take i ++ [g i] := by
        rw [take_snoc (by simp; omega)]
        simp [List.take_set_of_le (Nat.le_refl i)]
      have h2 : ((List.range n).map g).drop i = g i :: ((List.range n).map g).drop (i + 1) := by
        rw [List.drop_eq_getElem_cons (by simp; omega)]
        simp
      rw [h1, h2]; simp
  intro cs hl
  have := key n 0 cs (by omega) hl
  simpa using this

/-- impl.twos -/
theorem c_itwos (n : Nat) (hn : n ≤ 1048576) (H : AH) : R (.fn F.itwos) [isc (n : Int)] H = some ⟨1, [ssc (rowAt H.length (List.replicate n 2))], H ++ [⟨ics (List.replicate n 2), .rw, 1⟩]⟩ := by
  rw [R_eq, e_itwos, mk_ints (by omega)]
  simp only [Option.bind_some]
  have := fill_up (β := Option Out) (F := fun i Hc => R (.loop F.itwos 0) [ssc ⟨H.length, 0, n, n, true⟩, isc (n : Int), isc (i : Int)] Hc) (H := H ++ [⟨ics (List.replicate n 0), .rw, 1⟩]) (b := H.length) (n := n) (fun _ => 2)
    (fun i cs hi hl => by
      rw [R_eq, e_itwos_0, lt_true hi, w1 hi (by omega), cond_true, st_own0 (set_get app_get) hi (by omega), set_set]) (List.replicate n 0) (by simp)
  rw [app_set] at this
  have this : R (.loop F.itwos 0) [ssc ⟨H.length, 0, n, n, true⟩, isc (n : Int), isc 0] (H ++ [⟨ics (List.replicate n 0), .rw, 1⟩]) = _ := this
  rw [this, R_eq, e_itwos_0, lt_self, app_set]
  have e : (List.range n).map (fun _ => (2 : Int)) = List.replicate n 2 := List.ext_getElem (by simp) fun i h1 h2 => by rw [List.getElem_map, List.getElem_replicate]
  rw [e]
  simp

theorem ge_true (k : Nat) : decide (((k + 1 : Nat) : Int) - 1 ≥ 0) = true := decide_eq_true (by omega)
theorem ge_false : decide (((0 : Nat) : Int) - 1 ≥ 0) = false := by simp
theorem down1 (k : Nat) : ((k + 1 : Nat) : Int) - 1 = (k : Int) := by omega
theorem wdown {k : Nat} (h : k ≤ 4194304) : IntKind.wrap .i64 ((k : Int) - 1) = (k : Int) - 1 := by rw [wrap_id] <;> omega
theorem take_snoc' {l : List Int} {i : Nat} (h : i < l.length) : l.take (i + 1) = l.take i ++ [l[i]] := take_snoc h
theorem drop_set_gt {l : List Int} {i j : Nat} (h : i < j) (v : Int) : (l.set i v).drop j = l.drop j := by
  rw [List.drop_set]
  rw [if_pos h]
theorem drop_set_self {l : List Int} {i : Nat} (h : i < l.length) (v : Int) : (l.set i v).drop i = v :: l.drop (i + 1) := by
  rw [List.drop_eq_getElem_cons (by simpa using h)]
  simp [drop_set_gt (Nat.lt_succ_self i)]

/-- spec.l05Index -/
theorem c_sl05Index {H : AH} {s : Sl} {D : List Int} (h : IS H s D) (hl : D.length ≤ 1048576) (hd : ∀ d ∈ D, 1 ≤ d) {n : Int} (h0 : 0 ≤ n) (h1 : n ≤ 4611686018427387904) :
    R (.fn F.sl05Index) [ssc s, isc n] H = some ⟨1, [ssc (rowAt H.length (idxF D n))], H ++ [⟨ics (idxF D n), .rw, 1⟩]⟩ := by
  have key : ∀ (k : Nat) (n : Int) (out : List Int), k ≤ D.length → out.length = D.length → 0 ≤ n → n ≤ 4611686018427387904 →
      R (.loop F.sl05Index 0) [ssc s, isc n, ssc ⟨H.length, 0, D.length, D.length, true⟩, isc ((k : Int) - 1)] (H ++ [⟨ics out, .rw, 1⟩]) = some ⟨2, [], H ++ [⟨ics (idxF (D.take k) n ++ out.drop k), .rw, 1⟩]⟩ := by
    intro k
    induction k with
    | zero =>
      intro n out hk ho h0 h1
      rw [R_eq, e_sl05Index_0, ge_false]
      simp [idxF, idxR]
    | succ k ih =>
      intro n out hk ho h0 h1
      have hlt : k < D.length := by omega
      have hdk := hd D[k] (List.getElem_mem hlt)
      have hnz : (D[k] == 0) = false := bf (by omega)
      have hq : 0 ≤ n / D[k] := Int.ediv_nonneg h0 (by omega)
      have hq2 : n / D[k] ≤ n := Int.ediv_le_self _ h0
      have e1 : IntKind.wrap .i64 (Int.tdiv n D[k]) = n / D[k] := by
        rw [Int.tdiv_eq_ediv_of_nonneg h0, wrap_id] <;> omega
      have e2 : Int.tmod n D[k] = n % D[k] := Int.tmod_eq_emod_of_nonneg h0
      rw [R_eq, e_sl05Index_0, ge_true, cond_true, down1, (h.le (Le.app H _)).ldk hlt, hnz, cond_false, st_own0 app_get (by omega) (by omega), app_set, (h.le (Le.app H _)).ldk hlt, hnz, cond_false, e1, wdown (by omega), e2]
      rw [ih (n / D[k]) (out.set k (n % D[k])) (by omega) (by simpa using ho) hq (by omega), take_snoc' hlt, idxF_snoc, drop_set_self (by omega)]
      simp
  rw [R_eq, e_sl05Index, h.n, mk_ints (by omega)]
  simp only [Option.bind_some]
  rw [wdown (by omega), key D.length n _ (Nat.le_refl _) (by simp) h0 h1]
  simp [idxF_len]

/-- impl.offsetIn -/
theorem c_ioffsetIn {H : AH} {s u : Sl} {D I : List Int} (h : IS H s D) (k : IS H u I) (hf : fitsI D I) (hl : D.length ≤ 1048576) (hd : ∀ d ∈ D, 1 ≤ d) (hp : prd D ≤ 4611686018427387904) :
    R (.fn F.ioffsetIn) [ssc s, ssc u] H = some ⟨1, [isc (offF D I)], H⟩ := by
  have hlen := fits_len hf
  have key : ∀ (j i : Nat), i + j = D.length → R (.loop F.ioffsetIn 0) [ssc s, isc (offF (D.take i) (I.take i)), ssc u, isc (I.length : Int), isc (i : Int)] H = some ⟨2, [isc (offF D I)], H⟩ := by
    intro j
    induction j with
    | zero =>
      intro i hi
      obtain rfl : i = I.length := by omega
      rw [List.take_of_length_le (by omega), List.take_of_length_le (by omega), R_eq, e_ioffsetIn_0, lt_self]; rfl
    | succ j ih =>
      intro i hi
      have h1 : i < D.length := by omega
      have h2 : i < I.length := by omega
      have hr := offF_range (take_fits hf (i + 1))
      rw [take_snoc' h1, take_snoc' h2, offF_snoc] at hr
      have hpl := prd_take_le hd (i + 1)
      rw [take_snoc' h1] at hpl
      have hr0 := (offF_range (take_fits hf i)).1
      have hm : 0 ≤ offF (D.take i) (I.take i) * D[i] := Int.mul_nonneg hr0 (by have := hd D[i] (List.getElem_mem h1); omega)
      have hx := fits_get hf i h1 h2
      rw [R_eq, e_ioffsetIn_0, lt_true h2, w1 h2 (by omega), cond_true, k.ldk h2, h.ldk h1]
      have e1 : IntKind.wrap .i64 (offF (D.take i) (I.take i) * D[i]) = offF (D.take i) (I.take i) * D[i] := by rw [wrap_id] <;> omega
      have e2 : IntKind.wrap .i64 (offF (D.take i) (I.take i) * D[i] + I[i]) = offF (D.take (i + 1)) (I.take (i + 1)) := by
        rw [take_snoc' h1, take_snoc' h2, offF_snoc, wrap_id] <;> omega
      rw [e1, e2]
      exact ih (i + 1) (by omega)
  have := key D.length 0 (by omega)
  have this : R (.loop F.ioffsetIn 0) [ssc s, isc 0, ssc u, isc (I.length : Int), isc 0] H = some ⟨2, [isc (offF D I)], H⟩ := this
  rw [R_eq, e_ioffsetIn, k.n, this]
  rfl

end Go.Abs
/- Words: a tensor's numbers as elements of one width; parts of them are read and written. -/
namespace Go.Abs
set_option linter.unusedVariables false
set_option linter.unusedSimpArgs false

def Uni (w : Nat) (els : List (List Int)) : Prop := ∀ e ∈ els, e.length = w
theorem Uni.tail {w : Nat} {e : List Int} {els : List (List Int)} (h : Uni w (e :: els)) : Uni w els := fun x hx => h x (List.mem_cons_of_mem _ hx)
theorem Uni.set {w : Nat} {els : List (List Int)} (h : Uni w els) {n : Nat} {v : List Int} (hv : v.length = w) : Uni w (els.set n v) := fun e he => by
  rcases List.mem_or_eq_of_mem_set he with he | rfl
  · exact h e he
  · exact hv
theorem Uni.rep {w n : Nat} {e : List Int} (h : e.length = w) : Uni w (List.replicate n e) := fun x hx => by rw [(List.mem_replicate.1 hx).2]; exact h
theorem uni_len {w : Nat} : ∀ {els : List (List Int)}, Uni w els → els.flatten.length = els.length * w
  | [], _ => by simp
  | e :: els, h => by
    rw [List.flatten_cons, List.length_append, uni_len h.tail, h e List.mem_cons_self, List.length_cons, Nat.add_mul]; omega
theorem uni_take {w : Nat} : ∀ {els : List (List Int)}, Uni w els → ∀ n, els.flatten.take (n * w) = (els.take n).flatten
  | [], _, n => by simp
  | e :: els, h, 0 => by simp
  | e :: els, h, n + 1 => by
    have he := h e List.mem_cons_self
    rw [List.flatten_cons, List.take_append, List.take_of_length_le (by rw [he, Nat.add_mul]; omega), he]
    have : (n + 1) * w - w = n * w := by rw [Nat.add_mul]; omega
    rw [this, uni_take h.tail n]; simp
theorem uni_drop {w : Nat} : ∀ {els : List (List Int)}, Uni w els → ∀ n, els.flatten.drop (n * w) = (els.drop n).flatten
  | [], _, n => by simp
  | e :: els, h, 0 => by simp
  | e :: els, h, n + 1 => by
    have he := h e List.mem_cons_self
    rw [List.flatten_cons, List.drop_append, List.drop_eq_nil_of_le (by rw [he, Nat.add_mul]; omega), he]
    have : (n + 1) * w - w = n * w := by rw [Nat.add_mul]; omega
    rw [this, uni_drop h.tail n]; simp
theorem uni_at {w : Nat} {els : List (List Int)} (h : Uni w els) {n : Nat} (hn : n < els.length) : (els.flatten.drop (n * w)).take w = els[n] := by
  rw [uni_drop h, List.drop_eq_getElem_cons hn, List.flatten_cons, List.take_append, List.take_of_length_le (by rw [h _ (List.getElem_mem hn)]; exact Nat.le_refl _), h _ (List.getElem_mem hn)]
  simp

/-- A part is replaced. -/
def putL (cs : List Int) (o : Nat) (v : List Int) : List Int := cs.take o ++ v ++ cs.drop (o + v.length)
theorem putL_len {cs : List Int} {o : Nat} {v : List Int} (h : o + v.length ≤ cs.length) : (putL cs o v).length = cs.length := by simp [putL]; omega
theorem putL_nil (cs : List Int) (o : Nat) : putL cs o [] = cs := by simp [putL]
theorem putL_get {cs : List Int} {o : Nat} {v : List Int} (h : o + v.length ≤ cs.length) (j : Nat) : (putL cs o v)[j]? = if j < o then cs[j]? else if j < o + v.length then v[j - o]? else cs[j]? := by
  unfold putL
  have ht : (cs.take o).length = o := by simp; omega
  split
  · rw [List.append_assoc, List.getElem?_append_left (by omega), List.getElem?_take, if_pos (by assumption)]
  · split
    · rw [List.append_assoc, List.getElem?_append_right (by omega), List.getElem?_append_left (by omega), ht]
    · rw [List.getElem?_append_right (by simp; omega), List.getElem?_drop]
      congr 1; simp; omega
theorem putL_set {cs : List Int} {o : Nat} {v : List Int} (h : o + v.length ≤ cs.length) {i : Nat} (hi : i < v.length) : (putL cs o (v.take i)).set (o + i) v[i] = putL cs o (v.take (i + 1)) := by
  have h1 : o + (v.take i).length ≤ cs.length := by simp; omega
  have h2 : o + (v.take (i + 1)).length ≤ cs.length := by simp; omega
  refine List.ext_getElem? fun j => ?_
  rw [List.getElem?_set, putL_len h1, putL_get h1, putL_get h2]
  have l1 : (v.take i).length = i := by simp; omega
  have l2 : (v.take (i + 1)).length = i + 1 := by simp; omega
  rw [l1, l2]
  by_cases hj : j < o
  · rw [if_neg (by omega), if_pos hj, if_pos hj]
  · rw [if_neg hj, if_neg hj]
    by_cases e : o + i = j
    · rw [if_pos e, if_pos (by omega), if_pos (by omega), List.getElem?_take, if_pos (by omega)]
      have : j - o = i := by omega
      rw [this, List.getElem?_eq_getElem hi]
    · rw [if_neg e]
      by_cases h3 : j < o + i
      · rw [if_pos h3, if_pos (by omega), List.getElem?_take, List.getElem?_take, if_pos (by omega), if_pos (by omega)]
      · rw [if_neg h3, if_neg (by omega)]
theorem putL_flat {w : Nat} {els : List (List Int)} (h : Uni w els) {n : Nat} (hn : n < els.length) {v : List Int} (hv : v.length = w) : putL els.flatten (n * w) v = (els.set n v).flatten := by
  unfold putL
  have e : n * w + v.length = (n + 1) * w := by rw [hv, Nat.add_mul]; omega
  rw [e, uni_take h, uni_drop h, List.set_eq_take_append_cons_drop, if_pos hn]
  simp
theorem setAll_ics {cs v : List Int} {o : Nat} (h : o + v.length ≤ cs.length) : setAll (ics cs) o (ics v) = ics (putL cs o v) := by
  rw [setAll_all _ _ _ (by simpa using h)]
  simp [putL, List.map_take, List.map_drop]
theorem putR_ics {H : AH} {b o : Nat} {cs v : List Int} (hb : H[b]? = some ⟨ics cs, .rw, 1⟩) (h : o + v.length ≤ cs.length) : putR H b o (ics v) = some (H.set b ⟨ics (putL cs o v), .rw, 1⟩) := by
  cases v with
  | nil => simp only [List.map_nil, putR, putL_nil]; rw [set_same hb]
  | cons x v =>
    unfold putR
    simp only [List.map_cons, hb, Option.bind_some]
    rw [if_pos (by simpa using h)]
    have := setAll_ics (cs := cs) (v := x :: v) (o := o) h
    simp only [List.map_cons] at this
    rw [this]

theorem slB_mid {s : Sl} {lo hi : Nat} (h1 : lo ≤ hi) (h2 : hi ≤ s.c) : slB s (some (lo : Int)) (some (hi : Int)) none 1 = some ⟨s.b, s.o + lo, hi - lo, s.c - lo, s.x⟩ := by
  unfold slB
  simp only [Option.bind_some, Option.getD_some]
  rw [if_pos ⟨by omega, by omega, by omega, by omega⟩]
  simp
/-- The part with an element. -/
@[reducible] def partAt (c : Sl) (w n : Nat) : Sl := ⟨c.b, c.o + n * w, w, c.c - n * w, c.x⟩
theorem IS.part {H : AH} {s : Sl} {l : List Int} (h : IS H s l) {o m : Nat} (hm : o + m ≤ l.length) : IS H ⟨s.b, s.o + o, m, s.c - o, s.x⟩ ((l.drop o).take m) := by
  refine ⟨by simp; omega, by have := h.n; have := h.c; show m ≤ s.c - o; omega, ?_⟩
  rcases h.rd with rfl | ⟨cs, h1, h2⟩
  · exact .inl (by simp)
  · refine .inr ⟨cs, h1, fun i x hi => ?_⟩
    rw [List.getElem?_take] at hi
    split at hi
    · rw [List.getElem?_drop] at hi
      have := h2 _ _ hi
      rw [Nat.add_assoc]; exact this
    · cases hi
theorem IS.elem {H : AH} {c : Sl} {w : Nat} {els : List (List Int)} (h : IS H c els.flatten) (hu : Uni w els) {n : Nat} (hn : n < els.length) : IS H (partAt c w n) els[n] := by
  have hlen := uni_len hu
  have : n * w + w ≤ els.length * w := by rw [← Nat.succ_mul]; exact Nat.mul_le_mul_right _ hn
  have := h.part (o := n * w) (m := w) (by omega)
  rw [uni_at hu hn] at this
  exact this

/-- spec.l05Put -/
theorem c_sl05Put {r : Rg} {H : AH} {a b c s : Sl} {els : List (List Int)} {v : List Int} {n w : Nat} (hw : widthR r = (w : Int)) (hu : Uni w els) (hn : n < els.length) (hv : v.length = w) (hb : H[c.b]? = some ⟨ics els.flatten, .rw, 1⟩)
    (ho : c.o = 0) (hc : c.n = els.length * w) (hs : IS H s v) (hsb : v ≠ [] → s.b ≠ c.b) (hsm : els.length * w ≤ 1048576) :
    R (.fn F.sl05Put) [r.pv, tpv a b c, isc (n : Int), ssc s] H = some ⟨1, [], H.set c.b ⟨ics (els.set n v).flatten, .rw, 1⟩⟩ := by
  have hnw : n * w + w ≤ els.length * w := by rw [← Nat.succ_mul]; exact Nat.mul_le_mul_right _ hn
  have hlen := uni_len hu
  have hfit : n * w + v.length ≤ els.flatten.length := by omega
  have hw1 : w ≤ 1048576 := by omega
  have hcs : c = ⟨c.b, 0, els.length * w, c.c, c.x⟩ := by cases c; simp_all
  have key : ∀ (k i : Nat), i + k = v.length → R (.loop F.sl05Put 0) [isc (n : Int), ssc s, isc (w : Int), isc (v.length : Int), isc (i : Int), tpv a b c] (H.set c.b ⟨ics (putL els.flatten (n * w) (v.take i)), .rw, 1⟩) =
      some ⟨2, [], H.set c.b ⟨ics (putL els.flatten (n * w) v), .rw, 1⟩⟩ := by
    intro k
    induction k with
    | zero =>
      intro i hi
      obtain rfl : i = v.length := by omega
      rw [List.take_of_length_le (Nat.le_refl _), R_eq, e_sl05Put_0, lt_self]; rfl
    | succ k ih =>
      intro i hi
      have hlt : i < v.length := by omega
      have hne : v ≠ [] := fun e => by rw [e] at hlt; simp at hlt
      have e1 : IntKind.wrap .i64 (IntKind.wrap .i64 ((n : Int) * (w : Int)) + (i : Int)) = ((n * w + i : Nat) : Int) := by
        rw [← Int.natCast_mul, wrap_id (x := ((n * w : Nat) : Int)) (by omega) (by omega), wrap_id] <;> omega
      rw [R_eq, e_sl05Put_0, (hs.set (fun h => hsb h)).ldk hlt, lt_true hlt, w1 hlt (by omega), cond_true, e1, hcs]
      have hpl : (putL els.flatten (n * w) (v.take i)).length = els.flatten.length := putL_len (by rw [List.length_take]; omega)
      rw [st_own0 (set_get hb) (by omega) (by omega), set_set, putL_set hfit hlt, ← hcs]
      exact ih (i + 1) (by omega)
  have h0 := key v.length 0 (by omega)
  rw [List.take_zero, putL_nil, set_same hb, putL_flat hu hn hv] at h0
  have h0 : R (.loop F.sl05Put 0) [isc (n : Int), ssc s, isc (w : Int), isc (v.length : Int), isc 0, tpv a b c] H = _ := h0
  rw [R_eq, e_sl05Put, c_sl02Width, hw, hs.n]
  simp only [Option.bind_some, one_int]
  rw [h0]
  rfl
end Go.Abs
/- Contracts: tensors that are made. -/
namespace Go.Abs
set_option linter.unusedVariables false
set_option linter.unusedSimpArgs false

theorem prodC_eq : ∀ {l : List Int} {a : Int}, 1 ≤ a → (∀ d ∈ l, 1 ≤ d) → a * prd l ≤ 4096 → prodC 4096 a l = a * prd l
  | [], a, _, _, _ => by simp [prodC, prd]
  | d :: l, a, h, hd, hp => by
    have h1 := hd d List.mem_cons_self
    have h2 := prd_pos (a := l) fun x hx => hd x (List.mem_cons_of_mem _ hx)
    have h3 : a * 1 ≤ a * d := Int.mul_le_mul_of_nonneg_left h1 (by omega)
    have hp' : a * d * prd l ≤ 4096 := by simpa [prd, Int.mul_assoc] using hp
    have h4 : a * d * 1 ≤ a * d * prd l := Int.mul_le_mul_of_nonneg_left h2 (by omega)
    unfold prodC
    rw [if_neg (by omega), prodC_eq (by omega) (fun x hx => hd x (List.mem_cons_of_mem _ hx)) hp']
    simp [prd, Int.mul_assoc]

/-- Rows of a new tensor. -/
structure NewT (H H' : AH) (a b c : Sl) (t : Tn) : Prop where
  le : Le H H'
  rows : Rows H.length H' (rows3 a b c t)
theorem NewT.ts {H H' : AH} {a b c : Sl} {t : Tn} (h : NewT H H' a b c t) : TS H' a b c t :=
  ⟨(h.rows.own (a, t.L) (by simp)).is, (h.rows.own (b, t.D) (by simp)).is, (h.rows.own (c, t.X) (by simp)).is⟩

/-- spec.l05Zero: the data -/
theorem c_sl05Zero_0 {r : Rg} (hr : ringB r = true) {a b : Sl} {n0 : Nat} : ∀ (k : Nat) (X : List Int) (c : Sl) (H : AH), n0 ≤ H.length → Own n0 H c X → X.length + k * 6 ≤ 1048576 →
    ∃ c' H', R (.loop F.sl05Zero 0) [isc (k : Int), r.pv, tpv a b c] H = some ⟨2, [tpv a b c'], H'⟩ ∧ Own n0 H' c' (X ++ (List.replicate k (zeroR r)).flatten) ∧ H.length ≤ H'.length ∧
      (∀ d, d < H.length → (d ≠ c.b ∨ X = []) → H'[d]? = H[d]?) ∧ (X ++ (List.replicate k (zeroR r)).flatten ≠ [] → H.length ≤ c'.b ∨ (c'.b = c.b ∧ X ≠ []))
  | 0, X, c, H, hn, ho, hX => by
    refine ⟨c, H, ?_, by simpa using ho, Nat.le_refl _, fun _ _ _ => rfl, fun h => .inr ⟨rfl, by simpa using h⟩⟩
    rw [R_eq, e_sl05Zero_0]; rfl
  | k + 1, X, c, H, hn, ho, hX => by
    have hw := width_range hr
    have hz := zeroR_len r
    obtain ⟨s, H1, e1, n1⟩ := c_sl02Zero hr H
    obtain ⟨c2, H2, e2, o2, l2, f2, _, b2⟩ := app_own (m := zeroR r) (by rw [n1.len]; omega) (ho.le n1.le) (by omega)
    have hzne : zeroR r ≠ [] := fun e => by rw [e] at hz; simp at hz; omega
    obtain ⟨c', H', e3, o3, l3, f3, b3⟩ := c_sl05Zero_0 hr (a := a) (b := b) k (X ++ zeroR r) c2 H2 (by rw [n1.len] at l2; omega) o2 (by simp; omega)
    have hne : X ++ zeroR r ≠ [] := by simp [hzne]
    have b2 := b2 hzne
    have nl := n1.len
    refine ⟨c', H', ?_, by simpa [List.replicate_succ] using o3, by omega, fun d hd hc => ?_, fun _ => ?_⟩
    · have hk : decide (((k + 1 : Nat) : Int) > 0) = true := decide_eq_true (by omega)
      rw [R_eq, e_sl05Zero_0, hk, cond_true, e1]
      simp only [Option.bind_some, one_sl, n1.own.is.rng]
      have : s.n = (zeroR r).length := n1.own.n
      rw [this, e2]
      simp only [Option.bind_some]
      have e : IntKind.wrap .i64 (((k + 1 : Nat) : Int) - 1) = (k : Int) := by rw [wrap_id] <;> omega
      rw [e]; exact e3
    · rw [f3 d (by omega) (.inl (by omega)), f2 d (by omega) hc, n1.le.get d hd]
    · rcases b3 (fun e => hne (List.append_eq_nil_iff.1 e).1) with h | ⟨h, _⟩
      · exact .inl (by omega)
      · exact .inl (by omega)

def DimsOk (D : List Int) : Prop := D.length ≤ 12 ∧ (∀ d ∈ D, 1 ≤ d ∧ d ≤ 8) ∧ prd D ≤ 4096
theorem DimsOk.ge {D : List Int} (h : DimsOk D) : ∀ d ∈ D, 1 ≤ d := fun d hd => (h.2.1 d hd).1
theorem DimsOk.nat {D : List Int} (h : DimsOk D) : ∃ N : Nat, prd D = (N : Int) ∧ 1 ≤ N ∧ N ≤ 4096 ∧ (prd D).toNat = N := ⟨(prd D).toNat, by have := prd_pos h.ge; omega, by have := prd_pos h.ge; omega, by have := h.2.2; omega, rfl⟩

/-- spec.l05Zero -/
theorem c_sl05Zero {r : Rg} (hr : ringB r = true) {H : AH} {u v : Sl} {L D : List Int} (hu : IS H u L) (hv : IS H v D) (hL : L.length ≤ 1048576) (hD : DimsOk D) :
    ∃ a b c H', R (.fn F.sl05Zero) [r.pv, ssc u, ssc v] H = some ⟨1, [tpv a b c], H'⟩ ∧ NewT H H' a b c ⟨L, D, (List.replicate (prd D).toNat (zeroR r)).flatten⟩ := by
  obtain ⟨N, hN, hN1, hN2, hN3⟩ := hD.nat
  obtain ⟨a, H1, e1, l1, o1⟩ := c_sl05Ints hu (by omega)
  obtain ⟨b, H2, e2, l2, o2⟩ := c_sl05Ints (hv.le l1) (by have := hD.1; omega)
  have l12 := l1.trans l2
  obtain ⟨c, H', e3, o3, l3, f3, b3⟩ := c_sl05Zero_0 hr (a := a) (b := b) (n0 := H.length) N [] ⟨0, 0, 0, 0, true⟩ H2 l12.len (Own.nil _ _ _) (by simp; omega)
  have hp : prodC 4096 1 D = (N : Int) := by rw [prodC_eq (by omega) hD.ge (by have := hD.2.2; omega), hN]; omega
  refine ⟨a, b, c, H', ?_, ⟨⟨by have := l12.len; omega, fun d hd => by rw [f3 d (by have := l12.len; omega) (.inr rfl)]; exact l12.get d hd⟩, ?_⟩⟩
  · rw [R_eq, e_sl05Zero, e1]
    simp only [Option.bind_some, one_sl]
    rw [e2]
    simp only [Option.bind_some, one_sl]
    rw [c_sl05Product ((hv.le l12)) (by have := hD.1; omega) (fun d hd => by have := hD.2.1 d hd; omega), hp]
    simp only [Option.bind_some, one_int]
    rw [e3]
    rfl
  · rw [hN3]
    have q1 : Rows H.length H2 [(a, L), (b, D)] :=
      Rows.cons (Rows.cons (Rows.nil _ _) (o2.low l1.len) (by simp)) (o1.le l2) (fun h1 q hq hq2 => by
        simp at hq; subst hq
        have := o1.lt h1
        rcases o2.lo with h | h
        · exact absurd h hq2
        · show a.b ≠ b.b; omega)
    have q2 : Rows H.length H2 [(a, L), (b, D), (⟨0, 0, 0, 0, true⟩, [])] := by
      refine ⟨fun p hp => ?_, ?_⟩
      · simp at hp
        rcases hp with rfl | rfl | rfl
        · exact q1.own _ (by simp)
        · exact q1.own _ (by simp)
        · exact Own.nil _ _ _
      · have := q1.apart
        simp [List.pairwise_cons, apartR] at this ⊢
        exact this
    have := Rows.upd (xs := [(a, L), (b, D)]) (ys := []) (p := (⟨0, 0, 0, 0, true⟩, [])) q2 (s' := c) (l' := (List.replicate N (zeroR r)).flatten) (H' := H') (by simpa using o3) (fun d hd h => f3 d hd (.inr rfl)) (fun h => by
      rcases b3 (by simpa using h) with h | ⟨_, h⟩
      · exact .inl h
      · exact absurd rfl h)
    exact this

/-- A row whose place is laid out grows into it. -/
theorem c_ifillTensor_0 {a b s : Sl} {x z : List Int} {w N : Nat} (hw : 0 < w) (hx : x.length = w) (hz : z.length = w) (hN : N * w ≤ 1048576) {H : AH} {d : Nat} {els : List (List Int)} (hs : IS H s x) (hsd : s.b ≠ d) (hd : d < H.length) :
    ∀ (k i : Nat), i + k = N → R (.loop F.ifillTensor 0) [ssc s, isc (N : Int), isc (i : Int), tpv a b ⟨d, 0, i * w, N * w, true⟩] (H.set d ⟨ics (List.replicate i x ++ List.replicate k z).flatten, .rw, 1⟩) =
      some ⟨2, [tpv a b ⟨d, 0, N * w, N * w, true⟩], H.set d ⟨ics (List.replicate N x).flatten, .rw, 1⟩⟩
  | 0, i, hi => by
    obtain rfl : i = N := by omega
    rw [R_eq, e_ifillTensor_0, lt_self]; simp
  | k + 1, i, hi => by
    have hlt : i < N := by omega
    have hu : Uni w (List.replicate i x ++ List.replicate (k + 1) z) := fun e he => by
      rcases List.mem_append.1 he with he | he
      · rw [(List.mem_replicate.1 he).2]; exact hx
      · rw [(List.mem_replicate.1 he).2]; exact hz
    have hfl := uni_len hu
    have hfl2 : (List.replicate i x ++ List.replicate (k + 1) z).length = N := by simp; omega
    rw [hfl2] at hfl
    have hb : (H.set d ⟨ics (List.replicate i x ++ List.replicate (k + 1) z).flatten, .rw, 1⟩)[d]? = some ⟨ics (List.replicate i x ++ List.replicate (k + 1) z).flatten, .rw, 1⟩ := by simp [hd]
    have hnw : i * w + w ≤ N * w := by rw [← Nat.succ_mul]; exact Nat.mul_le_mul_right _ (by omega)
    have hN1 : N ≤ 1048576 := Nat.le_trans (Nat.le_mul_of_pos_right N hw) hN
    rw [R_eq, e_ifillTensor_0, lt_true hlt, w1 hlt (by omega), cond_true, (hs.set (fun _ => hsd)).rng]
    simp only [Option.bind_some]
    have ha : appB (H.set d ⟨ics (List.replicate i x ++ List.replicate (k + 1) z).flatten, .rw, 1⟩) 1 8 ⟨d, 0, i * w, N * w, true⟩ (ics x) s.n = some (⟨d, 0, (i + 1) * w, N * w, true⟩, H.set d ⟨ics (List.replicate (i + 1) x ++ List.replicate k z).flatten, .rw, 1⟩) := by
      unfold appB
      rw [hs.n, hx, if_pos (by show i * w + w ≤ N * w; omega)]
      simp only [Nat.zero_add, Nat.mul_one]
      rw [putR_ics hb (by rw [hfl, hx]; omega), set_set, putL_flat hu (by rw [hfl2]; omega) hx]
      simp only [Option.map_some, Nat.add_mul, Nat.one_mul]
      have : (List.replicate i x ++ List.replicate (k + 1) z).set i x = List.replicate (i + 1) x ++ List.replicate k z := by
        rw [List.set_append_right _ _ (by simp), List.length_replicate, Nat.sub_self, List.replicate_succ (n := k), List.set_cons_zero, List.replicate_succ' (n := i)]
        simp
      rw [this]
    rw [ha]
    simp only [Option.bind_some]
    exact c_ifillTensor_0 hw hx hz hN hs hsd hd (els := els) k (i + 1) (by omega)

/-- impl.fillTensor -/
theorem c_ifillTensor {r : Rg} {H : AH} {u v s : Sl} {L D x : List Int} {w : Nat} (hu : IS H u L) (hv : IS H v D) (hs : IS H s x) (hL : L.length ≤ 1048576) (hD : DimsOk D) (hw : 0 < w) (hw6 : w ≤ 6) (hx : x.length = w) :
    ∃ a b c H', R (.fn F.ifillTensor) [r.pv, ssc u, ssc v, ssc s] H = some ⟨1, [tpv a b c], H'⟩ ∧ NewT H H' a b c ⟨L, D, (List.replicate (prd D).toNat x).flatten⟩ := by
  obtain ⟨N, hN, hN1, hN2, hN3⟩ := hD.nat
  obtain ⟨a, H1, e1, l1, o1⟩ := c_icopyInts hu (by omega)
  obtain ⟨b, H2, e2, l2, o2⟩ := c_icopyInts (hv.le l1) (by have := hD.1; omega)
  have l12 := l1.trans l2
  have hNw : N * w ≤ 4096 * 6 := Nat.mul_le_mul hN2 hw6
  have hs2 := hs.le l12
  have hxne : x ≠ [] := fun e => by rw [e] at hx; simp at hx; omega
  have hle := Le.app H2 [⟨ics (List.replicate (N * w) 0), .rw, 1⟩]
  have hpi : prodI 1 D = (N : Int) := by rw [prodI_eq, hN]; omega
  have hmk : mkB H2 1 8 [.int .i64 0] 0 ((N * w : Nat) : Int) = some (⟨H2.length, 0, 0, N * w, true⟩, H2 ++ [⟨ics (List.replicate (N * w) 0), .rw, 1⟩]) := by
    unfold mkB
    have := most_ok (n := N * w) (by omega)
    rw [if_pos ⟨by omega, by omega, by omega, by omega, by omega⟩]
    rw [Int.toNat_natCast, Int.toNat_zero]
    simp [List.map_replicate, List.flatten_replicate_singleton]
  have hz0 : (List.replicate 0 x ++ List.replicate N (List.replicate w (0 : Int))).flatten = List.replicate (N * w) 0 := by simp
  have hlt : s.b ≠ H2.length := by have := hs2.lt hxne; omega
  have lp := c_ifillTensor_0 (a := a) (b := b) (s := s) hw hx (z := List.replicate w 0) (by simp) (N := N) (by omega) (H := H2 ++ [⟨ics (List.replicate (N * w) 0), .rw, 1⟩]) (d := H2.length) (els := []) (hs2.le hle) hlt (by simp) N 0 (by omega)
  rw [hz0, set_same (by simp), app_set] at lp
  have lp : R (.loop F.ifillTensor 0) [ssc s, isc (N : Int), isc 0, tpv a b ⟨H2.length, 0, 0, N * w, true⟩] (H2 ++ [⟨ics (List.replicate (N * w) 0), .rw, 1⟩]) = some ⟨2, [tpv a b ⟨H2.length, 0, N * w, N * w, true⟩], H2 ++ [⟨ics (List.replicate N x).flatten, .rw, 1⟩]⟩ := by
    rw [Nat.zero_mul] at lp; exact lp
  have hfl : (List.replicate N x).flatten.length = N * w := by rw [uni_len (Uni.rep hx)]; simp
  refine ⟨a, b, ⟨H2.length, 0, N * w, N * w, true⟩, H2 ++ [⟨ics (List.replicate N x).flatten, .rw, 1⟩], ?_, ⟨l12.push _, ?_⟩⟩
  · have e4 : IntKind.wrap .i64 ((N : Int) * (s.n : Int)) = ((N * w : Nat) : Int) := by
      rw [hs.n, hx, ← Int.natCast_mul, wrap_id] <;> omega
    rw [R_eq, e_ifillTensor, e1]
    simp only [Option.bind_some, one_sl]
    rw [e2]
    simp only [Option.bind_some, one_sl]
    rw [c_iproductOf (hv.le l12) hD.1 hD.2.1, hpi]
    simp only [Option.bind_some, one_int]
    rw [e4, hmk]
    simp only [Option.bind_some]
    rw [lp]
    rfl
  · rw [hN3]
    have oc : Own H2.length (H2 ++ [⟨ics (List.replicate N x).flatten, .rw, 1⟩]) ⟨H2.length, 0, N * w, N * w, true⟩ (List.replicate N x).flatten := by
      have := own_at (n0 := H2.length) (H := H2 ++ [⟨ics (List.replicate N x).flatten, .rw, 1⟩]) (l := (List.replicate N x).flatten) (Nat.le_refl _) (by simp)
      unfold rowAt at this
      rw [hfl] at this; exact this
    refine Rows.cons (Rows.cons (Rows.cons (Rows.nil _ _) (oc.low l12.len) (by simp)) ((o2.low l1.len).le (Le.app _ _)) (fun h1 q hq hq2 => ?_)) ((o1.le l2).le (Le.app _ _)) (fun h1 q hq hq2 => ?_)
    · simp at hq; subst hq
      have := o2.lt h1
      show b.b ≠ H2.length; omega
    · have ha := o1.lt h1
      have hl2 := l2.len
      simp at hq
      rcases hq with rfl | rfl
      · rcases o2.lo with h | h
        · exact absurd h hq2
        · show a.b ≠ b.b; omega
      · show a.b ≠ H2.length; omega
end Go.Abs
/- Contracts: pairs; uses of a label; a clause's truth; rows that are collected. -/
namespace Go.Abs
set_option linter.unusedVariables false
set_option linter.unusedSimpArgs false

/-- What a walk collects. -/
def colF {α : Type} (g : Nat → α → Option Int) : List α → Nat → List Int
  | [], _ => []
  | a :: l, i => (g i a).toList ++ colF g l (i + 1)
structure ValsOk (vals : List Int) (l : List Int) : Prop where
  bit : ∀ v ∈ vals, v = 0 ∨ v = 1
  lit : ∀ x ∈ l, x ≠ 0 ∧ x.natAbs ≤ vals.length
  len : vals.length ≤ 1048576
  cl : l.length ≤ 1048576
end Go.Abs
/- Words: what a function has made so far (a frame), and how it changes. -/
namespace Go.Abs
set_option linter.unusedVariables false
set_option linter.unusedSimpArgs false

/-- A row changes in place. -/
structure Mut (n0 : Nat) (H H' : AH) (s : Sl) (l l' : List Int) : Prop where
  own : Own n0 H' s l'
  len : H'.length = H.length
  fr : ∀ b, (b ≠ s.b ∨ l = []) → H'[b]? = H[b]?
theorem Mut.trans {n0 : Nat} {H H1 H2 : AH} {s : Sl} {l l1 l2 : List Int} (h : Mut n0 H H1 s l l1) (k : Mut n0 H1 H2 s l1 l2) (e : l = [] → l1 = []) : Mut n0 H H2 s l l2 :=
  ⟨k.own, k.len.trans h.len, fun b hb => (k.fr b (hb.imp id e)).trans (h.fr b hb)⟩
theorem Mut.le {n0 : Nat} {H0 H H' : AH} {s : Sl} {l l' : List Int} (h : Mut n0 H H' s l l') (hle : Le H0 H) (hs : l = [] ∨ H0.length ≤ s.b) : Le H0 H' :=
  ⟨by rw [h.len]; exact hle.len, fun b hb => (h.fr b (by
    rcases hs with h | h
    · exact .inr h
    · exact .inl (by omega))).trans (hle.get b hb)⟩
theorem Mut.refl {n0 : Nat} {H : AH} {s : Sl} {l : List Int} (h : Own n0 H s l) : Mut n0 H H s l l := ⟨h, rfl, fun _ _ => rfl⟩
/-- The block of a row that is not empty is overwritten. -/
theorem Mut.set {n0 : Nat} {H : AH} {s : Sl} {l l' : List Int} (h : Own n0 H s l) (hl : l ≠ []) (hn : l'.length = l.length) : Mut n0 H (H.set s.b ⟨ics l', .rw, 1⟩) s l l' := by
  have hlt := h.lt hl
  refine ⟨⟨h.o, by rw [hn]; exact h.n, by rw [hn]; exact h.c, ?_, .inr ⟨fun e => hl (by rw [e] at hn; exact List.length_eq_zero_iff.1 hn.symm), by simp [hlt]⟩⟩, by simp, fun b hb => ?_⟩
  · rcases h.lo with h | h
    · exact absurd h hl
    · exact .inr h
  · rcases hb with hb | hb
    · rw [List.getElem?_set_ne (Ne.symm hb)]
    · exact absurd hb hl
theorem Own.blk' {n0 : Nat} {H : AH} {s : Sl} {l : List Int} (h : Own n0 H s l) (hl : l ≠ []) : H[s.b]? = some ⟨ics l, .rw, 1⟩ := by
  rcases h.blk with ⟨e, _⟩ | ⟨_, e⟩
  · exact absurd e hl
  · exact e
theorem Own.eta {n0 : Nat} {H : AH} {s : Sl} {l : List Int} (h : Own n0 H s l) : s = ⟨s.b, 0, l.length, l.length, s.x⟩ := by
  have h1 := h.o; have h2 := h.n; have h3 := h.c
  cases s; simp_all

structure Fr (H0 H : AH) (rs : List Row) : Prop where
  le : Le H0 H
  rows : Rows H0.length H rs
theorem Fr.start (H : AH) : Fr H H [] := ⟨Le.refl H, Rows.nil _ _⟩
theorem Fr.of {H0 H : AH} (h : Le H0 H) : Fr H0 H [] := ⟨h, Rows.nil _ _⟩
theorem Fr.own {H0 H : AH} {rs : List Row} (h : Fr H0 H rs) {s : Sl} {l : List Int} (hp : (s, l) ∈ rs) : Own H0.length H s l := h.rows.own _ hp
theorem Fr.is {H0 H : AH} {rs : List Row} (h : Fr H0 H rs) {s : Sl} {l : List Int} (hp : (s, l) ∈ rs) : IS H s l := (h.own hp).is
theorem Fr.sub {H0 H : AH} {rs qs : List Row} (h : Fr H0 H rs) (hs : qs.Sublist rs) : Fr H0 H qs := ⟨h.le, h.rows.sub hs⟩
theorem Fr.perm {H0 H : AH} {rs qs : List Row} (h : Fr H0 H rs) (hp : qs.Perm rs) : Fr H0 H qs := ⟨h.le, h.rows.perm hp⟩
theorem Fr.mut {H0 H H' : AH} (xs : List Row) {ys : List Row} {s : Sl} {l l' : List Int} (h : Fr H0 H (xs ++ (s, l) :: ys)) (m : Mut H0.length H H' s l l') (he : l = [] → l' = []) : Fr H0 H' (xs ++ (s, l') :: ys) :=
  ⟨m.le h.le (h.own (s := s) (l := l) (by simp)).lo, h.rows.upd (p := (s, l)) m.own (fun b hb hne => m.fr b hne) fun hl => .inr ⟨rfl, fun e => hl (he e)⟩⟩
/-- Memory that is no longer asked for. -/
theorem Fr.ext {H0 H H' : AH} {rs : List Row} (h : Fr H0 H rs) (k : Le H H') : Fr H0 H' rs := ⟨h.le.trans k, h.rows.le k⟩
theorem rows_after {n0 : Nat} {H H' : AH} {rs qs : List Row} (h : Rows n0 H rs) (hn : n0 ≤ H.length) (hle : Le H H') (k : Rows H.length H' qs) : Rows n0 H' (qs ++ rs) := by
  have := (h.le hle).app k hn h.lt
  exact this.perm List.perm_append_comm
theorem Fr.new {H0 H H' : AH} {rs : List Row} {s : Sl} {l : List Int} (h : Fr H0 H rs) (hle : Le H H') (ho : Own H.length H' s l) : Fr H0 H' ((s, l) :: rs) :=
  ⟨h.le.trans hle, rows_after (qs := [(s, l)]) h.rows h.le.len hle ((Rows.nil _ _).cons ho (by simp))⟩
theorem Fr.newN {H0 H H' : AH} {rs : List Row} {s : Sl} {l : List Int} (h : Fr H0 H rs) (k : New H H' s l) : Fr H0 H' ((s, l) :: rs) := h.new k.le k.own
theorem Fr.newT {H0 H H' : AH} {rs : List Row} {a b c : Sl} {t : Tn} (h : Fr H0 H rs) (k : NewT H H' a b c t) : Fr H0 H' ((a, t.L) :: (b, t.D) :: (c, t.X) :: rs) :=
  ⟨h.le.trans k.le, rows_after (qs := rows3 a b c t) h.rows h.le.len k.le k.rows⟩
theorem Fr.empty {H0 H : AH} {rs : List Row} (h : Fr H0 H rs) (b : Nat) : Fr H0 H ((⟨b, 0, 0, 0, true⟩, []) :: rs) := ⟨h.le, h.rows.cons (Own.nil _ _ _) (by simp)⟩
/-- A row grows. -/
theorem Fr.app {H0 H : AH} (xs : List Row) {ys : List Row} {s : Sl} {l m : List Int} (h : Fr H0 H (xs ++ (s, l) :: ys)) (hl : l.length + m.length ≤ 134217728) :
    ∃ s' H', appB H 1 8 s (ics m) m.length = some (s', H') ∧ Fr H0 H' (xs ++ (s', l ++ m) :: ys) ∧ H.length ≤ H'.length := by
  obtain ⟨s', H', e, o, l1, f, f2, f3⟩ := app_own h.le.len (h.own (s := s) (l := l) (by simp)) hl
  refine ⟨s', H', e, ⟨h.le.lo_trans (Lo.mk l1 fun d hd => f d (by have := h.le.len; omega) ?_), h.rows.upd (p := (s, l)) o f fun hne => ?_⟩, l1⟩
  · rcases (h.own (s := s) (l := l) (by simp)).lo with h | h
    · exact .inr h
    · exact .inl (by omega)
  · by_cases hm : m = []
    · subst hm
      rw [List.append_nil] at hne
      exact .inr ⟨by rw [(f2 rfl).1], hne⟩
    · exact .inl (f3 hm)
theorem Fr.push {H0 H : AH} (xs : List Row) {ys : List Row} {s : Sl} {l : List Int} (h : Fr H0 H (xs ++ (s, l) :: ys)) (hl : l.length < 134217728) (v : Int) :
    ∃ s' H', (∀ {α : Type} (k : Sl × AH → Option α), ((newB H 1 [.int .i64 v]).bind fun h => (rng h.2 h.1 0 (1 * 1)).bind fun q => (appB h.2 1 8 s q 1).bind k) = k (s', H')) ∧ Fr H0 H' (xs ++ (s', l ++ [v]) :: ys) := by
  obtain ⟨s', H', e, o, l1, f, f3⟩ := push_own h.le.len (h.own (s := s) (l := l) (by simp)) hl v
  refine ⟨s', H', e, ⟨h.le.lo_trans (Lo.mk l1 fun d hd => f d (by have := h.le.len; omega) ?_), h.rows.upd (p := (s, l)) o f fun hne => .inl f3⟩⟩
  rcases (h.own (s := s) (l := l) (by simp)).lo with h | h
  · exact .inr h
  · exact .inl (by omega)

/-- spec.l05Put -/
theorem m_sl05Put {n0 : Nat} {r : Rg} {H : AH} {a b c s : Sl} {els : List (List Int)} {v : List Int} {n w : Nat} (hw : widthR r = (w : Int)) (hw0 : 0 < w) (hu : Uni w els) (hn : n < els.length) (hv : v.length = w) (ho : Own n0 H c els.flatten)
    (hs : IS H s v) (hsb : s.b ≠ c.b) (hsm : els.length * w ≤ 1048576) :
    ∃ H', R (.fn F.sl05Put) [r.pv, tpv a b c, isc (n : Int), ssc s] H = some ⟨1, [], H'⟩ ∧ Mut n0 H H' c els.flatten (els.set n v).flatten := by
  have hl := uni_len hu
  have hne : els.flatten ≠ [] := fun e => by
    rw [e] at hl
    have : 0 < els.length * w := Nat.mul_pos (by omega) hw0
    simp at hl; omega
  refine ⟨_, c_sl05Put hw hu hn hv (ho.blk' hne) ho.o (by rw [ho.n, hl]) hs (fun _ => hsb) hsm, Mut.set ho hne ?_⟩
  rw [uni_len (hu.set hv), hl]; simp
end Go.Abs
/- Contracts: a clause's tensor (impl). -/
namespace Go.Abs
set_option linter.unusedVariables false
set_option linter.unusedSimpArgs false

theorem st_lab {H : AH} {b n : Nat} {x : Bool} {cs : List Int} (hb : H[b]? = some ⟨ics cs, .rw, 1⟩) {y : Int} (h0 : 0 ≤ y) (hi : y < n) (hc : n ≤ cs.length) (v : Int) {α : Type} (k : AH → Option α) :
    ((ixA ⟨b, 0, n, n, x⟩ y 1).bind fun o => (putR H b o [.int .i64 v]).bind k) = k (H.set b ⟨ics (cs.set y.toNat v), .rw, 1⟩) := by
  have e : y = ((y.toNat : Nat) : Int) := by omega
  have := st_own0 (c := n) (x := x) hb (i := y.toNat) (n := n) (by omega) (by omega) v k
  rw [← e] at this
  exact this

theorem colF_mem {α : Type} {g : Nat → α → Option Int} : ∀ {l : List α} {i : Nat} {x : Int}, x ∈ colF g l i → ∃ j a, a ∈ l ∧ g j a = some x
  | [], _, x, h => by simp [colF] at h
  | a :: l, i, x, h => by
    simp only [colF, List.mem_append] at h
    rcases h with h | h
    · exact ⟨i, a, List.mem_cons_self, by cases hg : g i a <;> simp_all⟩
    · obtain ⟨j, b, hb, e⟩ := colF_mem h
      exact ⟨j, b, List.mem_cons_of_mem _ hb, e⟩
theorem prd_twos : ∀ k : Nat, prd (List.replicate k 2) = ((2 ^ k : Nat) : Int)
  | 0 => rfl
  | k + 1 => by rw [List.replicate_succ]; simp only [prd]; rw [prd_twos k, Nat.pow_succ, Nat.mul_comm]; simp
end Go.Abs
/- Contracts: a clause's tensor (impl), whole. -/
namespace Go.Abs
set_option linter.unusedVariables false
set_option linter.unusedSimpArgs false

theorem row_ne {n0 : Nat} {H : AH} {rs : List Row} (h : Rows n0 H rs) {p q : Row} {xs ys zs : List Row} (e : rs = xs ++ p :: ys ++ q :: zs) (hp : p.2 ≠ []) (hq : q.2 ≠ []) : p.1.b ≠ q.1.b := by
  subst e
  have := h.apart
  rw [List.append_assoc, List.pairwise_append] at this
  have := this.2.1
  rw [List.cons_append, List.pairwise_cons] at this
  rcases this.1 q (by simp) with h | h | h
  · exact absurd h hp
  · exact absurd h hq
  · exact h

end Go.Abs
/- Words: a row of tensors of its own that grows. -/
namespace Go.Abs
set_option linter.unusedVariables false
set_option linter.unusedSimpArgs false

structure OOut (n0 : Nat) (H : AH) (s : Sl) (xs : List Tri) : Prop where
  o : s.o = 0
  n : s.n = xs.length
  c : s.c = xs.length
  blk : (xs = [] ∧ s.x = true) ∨ (xs ≠ [] ∧ n0 ≤ s.b ∧ H[s.b]? = some ⟨triC xs, .rw, 3⟩)
theorem OOut.outer {n0 : Nat} {H : AH} {s : Sl} {xs : List Tri} (h : OOut n0 H s xs) : Outer H s xs :=
  ⟨h.o, h.n, by rw [h.n, h.c]; exact Nat.le_refl _, by
    rcases h.blk with ⟨e, _⟩ | ⟨_, _, e⟩
    · exact .inl e
    · exact .inr ⟨.rw, triC xs, e, .inr rfl, fun i v h => h⟩⟩
theorem OOut.nil (n0 : Nat) (H : AH) (b : Nat) : OOut n0 H ⟨b, 0, 0, 0, true⟩ [] := ⟨rfl, rfl, rfl, .inl ⟨rfl, rfl⟩⟩
theorem OOut.keep {n0 : Nat} {H H' : AH} {s : Sl} {xs : List Tri} (h : OOut n0 H s xs) (hb : xs ≠ [] → H'[s.b]? = H[s.b]?) : OOut n0 H' s xs :=
  ⟨h.o, h.n, h.c, h.blk.imp id fun ⟨h1, h2, h3⟩ => ⟨h1, h2, (hb h1).trans h3⟩⟩
theorem OOut.lt {n0 : Nat} {H : AH} {s : Sl} {xs : List Tri} (h : OOut n0 H s xs) (hx : xs ≠ []) : s.b < H.length := by
  rcases h.blk with ⟨e, _⟩ | ⟨_, _, e⟩
  · exact absurd e hx
  · exact (List.getElem?_eq_some_iff.1 e).1
theorem OOut.le {n0 : Nat} {H H' : AH} {s : Sl} {xs : List Tri} (h : OOut n0 H s xs) (hb : Le H H') : OOut n0 H' s xs := h.keep fun hx => hb.get _ (h.lt hx)
theorem triC_app : ∀ (xs ys : List Tri), triC (xs ++ ys) = triC xs ++ triC ys
  | [], ys => rfl
  | x :: xs, ys => by simp [triC, triC_app xs ys]
theorem OOut.ne {n0 n1 : Nat} {H : AH} {s u : Sl} {xs : List Tri} {l : List Int} (h : OOut n0 H s xs) (hx : xs ≠ []) (ho : Own n1 H u l) (hl : l ≠ []) : u.b ≠ s.b := fun e => by
  have h1 := ho.blk' hl
  rcases h.blk with ⟨e', _⟩ | ⟨_, _, h2⟩
  · exact absurd e' hx
  · rw [e, h2] at h1; simp at h1

/-- A tensor is put at the end of a row of tensors. -/
theorem outer_push {H0 H : AH} {rs : List Row} {s : Sl} {xs : List Tri} (hF : Fr H0 H rs) (hO : OOut H0.length H s xs) (hl : xs.length ≤ 1048576) (a b c : Sl) :
    ∃ s' H', appB H 3 72 s [.sl a, .sl b, .sl c] 1 = some (s', H') ∧ Fr H0 H' rs ∧ OOut H0.length H' s' (xs ++ [(a, b, c)]) ∧ H.length ≤ H'.length ∧ (∀ d, d < H.length → (d ≠ s.b ∨ xs = []) → H'[d]? = H[d]?) := by
  have hlen := hF.le.len
  have hm : (s.n + 1) * 72 ≤ most := by rw [hO.n]; unfold most; omega
  have htri : triC (xs ++ [(a, b, c)]) = triC xs ++ [.sl a, .sl b, .sl c] := by rw [triC_app]; rfl
  have hrng : rng H s.b s.o (s.n * 3) = some (triC xs) := by
    unfold rng
    rcases hO.blk with ⟨e, _⟩ | ⟨e, _, h2⟩
    · subst e; rw [if_pos (by rw [hO.n]; rfl)]; rfl
    · have : xs.length ≠ 0 := fun h => e (List.length_eq_zero_iff.1 h)
      rw [if_neg (by rw [hO.n]; omega)]
      have hr : rdB H s.b = some (triC xs) := by unfold rdB; rw [h2]; rfl
      rw [hr]
      simp only [Option.bind_some]
      rw [if_pos (by rw [hO.o, hO.n, triC_len]; omega), hO.o, hO.n]
      simp only [List.drop_zero]
      rw [List.take_of_length_le (by rw [triC_len]; exact Nat.le_refl _)]
  unfold appB
  rw [if_neg (by rw [hO.n, hO.c]; omega), if_pos ⟨by omega, by omega, hm⟩, hrng]
  simp only [Option.bind_some]
  by_cases hx : s.x = true
  · simp only [hx]
    have hle := Le.app H [⟨triC xs ++ [.sl a, .sl b, .sl c], .rw, 3⟩]
    refine ⟨_, _, rfl, hF.ext hle, ⟨rfl, by simp [hO.n], by simp [hO.n], .inr ⟨by simp, hlen, by rw [htri]; simp⟩⟩, by simp, fun d hd _ => hle.get d hd⟩
  · have hx' : s.x = false := by cases e : s.x <;> simp_all
    simp only [hx']
    have hb : xs ≠ [] ∧ H0.length ≤ s.b ∧ H[s.b]? = some ⟨triC xs, .rw, 3⟩ := by
      rcases hO.blk with ⟨_, e⟩ | h
      · exact absurd e hx
      · exact h
    have hrw : rwB H s.b 3 = some (triC xs) := by unfold rwB; rw [hb.2.2]; rfl
    simp only [hrw, Option.bind_some]
    have hk : (killB H s.b).length = H.length := by simp [killB]
    have hget : ∀ d, d < H.length → d ≠ s.b → (killB H s.b ++ [(⟨triC xs ++ [.sl a, .sl b, .sl c], .rw, 3⟩ : Blk)])[d]? = H[d]? := fun d hd hne => by
      rw [List.getElem?_append_left (by omega)]
      unfold killB
      rw [List.getElem?_modify]
      have : ¬ s.b = d := fun e => hne e.symm
      simp [this]
    refine ⟨_, _, rfl, ⟨⟨by simp [hk]; omega, fun d hd => (hget d (by omega) (by omega)).trans (hF.le.get d hd)⟩, hF.rows.frame fun p hp hne => hget _ (hF.rows.lt p hp hne) (hO.ne hb.1 (hF.rows.own p hp) hne)⟩, ⟨rfl, by simp [hO.n], by simp [hO.n], .inr ⟨by simp, hlen, ?_⟩⟩, by simp [hk], fun d hd h => ?_⟩
    · rw [htri]
      have : H.length = (killB H s.b).length := hk.symm
      show (killB H s.b ++ _)[H.length]? = _
      rw [this]; simp
    · rcases h with h | h
      · exact hget d hd h
      · exact absurd h hb.1
theorem rng_new {H : AH} {b : Nat} {cs : List Sc} {z : Nat} (h : H[b]? = some ⟨cs, .rw, z⟩) {m : Nat} (hm : m = cs.length) (h0 : m ≠ 0) : rng H b 0 m = some cs := by
  unfold rng
  rw [if_neg h0]
  have hr : rdB H b = some cs := by unfold rdB; rw [h]; rfl
  rw [hr]
  simp only [Option.bind_some, List.drop_zero]
  rw [if_pos (by omega), List.take_of_length_le (by omega)]
/-- What a place is that was kept free for a value. -/
theorem newAt_ok {H : AH} {i z : Nat} {cs : List Sc} (h : H[i]? = some resB) (hz : z ≠ 0) : newAt H i z cs = some (i, H.set i ⟨cs, .rw, z⟩) := by
  unfold newAt
  have : isRes H i = true := by unfold isRes; rw [h]; rfl
  rw [if_pos ⟨this, hz⟩]
theorem reserve1 (H : AH) : reserve H 1 = H ++ [resB] := rfl

/-- The call that makes a tensor, kept apart in a place of its own, and the row that takes it. -/
theorem push_tensor {H0 H H1 : AH} {rs : List Row} {s a b c : Sl} {xs : List Tri} {t : Tn} (hF : Fr H0 H rs) (hO : OOut H0.length H s xs) (hl : xs.length ≤ 1048576) (ht : NewT (H ++ [resB]) H1 a b c t) :
    ∃ s' H', (∀ {α : Type} (k : Sl × AH → Option α), ((newAt H1 (H.length + 0) 3 [.sl a, .sl b, .sl c]).bind fun h => (rng h.2 h.1 0 (1 * 3)).bind fun l => (appB h.2 3 72 s l 1).bind k) = k (s', H')) ∧
      Fr H0 H' (rows3 a b c t ++ rs) ∧ OOut H0.length H' s' (xs ++ [(a, b, c)]) ∧ H.length ≤ H'.length ∧ (∀ d, d < H.length → (d ≠ s.b ∨ xs = []) → H'[d]? = H[d]?) := by
  have hle := (Le.app H [resB]).trans ht.le
  have hres : H1[H.length]? = some resB := by rw [ht.le.get _ (by simp)]; simp
  have F1 : Fr H0 H1 (rows3 a b c t ++ rs) := by
    have := (hF.ext (Le.app H [resB])).newT ht
    exact this
  have hl1 : H.length < H1.length := by have := ht.le.len; simp at this; omega
  have hset : ∀ d, d ≠ H.length → (H1.set H.length ⟨[.sl a, .sl b, .sl c], .rw, 3⟩)[d]? = H1[d]? := fun d hd => List.getElem?_set_ne (Ne.symm hd)
  have hlt : H0.length ≤ H.length := hF.le.len
  have F2 : Fr H0 (H1.set H.length ⟨[.sl a, .sl b, .sl c], .rw, 3⟩) (rows3 a b c t ++ rs) := ⟨F1.le.set hlt, F1.rows.frame fun p hp hne => hset _ fun e => by
    have := (F1.rows.own p hp).blk' hne
    rw [e, hres] at this; simp [resB] at this⟩
  have hO1 := hO.le hle
  have hO2 : OOut H0.length (H1.set H.length ⟨[.sl a, .sl b, .sl c], .rw, 3⟩) s xs := hO1.keep fun hx => hset _ (by have := hO.lt hx; omega)
  obtain ⟨s', H', e, F3, O3, l3, f3⟩ := outer_push F2 hO2 hl a b c
  refine ⟨s', H', fun k => ?_, F3, O3, by simp at l3; omega, fun d hd h => ?_⟩
  · rw [Nat.add_zero, newAt_ok hres (by omega)]
    simp only [Option.bind_some]
    rw [rng_new (cs := [.sl a, .sl b, .sl c]) (z := 3) (m := 1 * 3) (by simp [hl1]) rfl (by omega)]
    simp only [Option.bind_some]
    rw [e]; rfl
  · rw [f3 d (by simp; omega) h, hset d (by omega), hle.get d hd]
theorem rowsT_snoc : ∀ {xs : List Tri} {ts : List Tn} (x : Tri) (t : Tn), xs.length = ts.length → rowsT (xs ++ [x]) (ts ++ [t]) = rowsT xs ts ++ rows3 x.1 x.2.1 x.2.2 t
  | [], [], x, t, _ => by simp [rowsT]
  | y :: xs, u :: ts, x, t, h => by simp [rowsT, rowsT_snoc x t (show xs.length = ts.length by simpa using h)]
  | [], _ :: _, _, _, h => by simp at h
  | _ :: _, [], _, _, h => by simp at h
theorem Fr.snocT {H0 H : AH} {a b c : Sl} {t : Tn} {xs : List Tri} {ts : List Tn} {rs : List Row} (h : Fr H0 H (rows3 a b c t ++ (rowsT xs ts ++ rs))) (hl : xs.length = ts.length) : Fr H0 H (rowsT (xs ++ [(a, b, c)]) (ts ++ [t]) ++ rs) := by
  rw [rowsT_snoc _ _ hl]
  refine h.perm ?_
  rw [← List.append_assoc]
  exact List.perm_append_comm.append_right rs
/-- Such a row reads as its tensors. -/
theorem t3_of {H : AH} {s : Sl} {xs : List Tri} {ts : List Tn} (hO : Outer H s xs) (hl : xs.length = ts.length) (hr : ∀ p ∈ rowsT xs ts, IS H p.1 p.2) : T3 H s ts := by
  refine ⟨by rw [hO.n, hl], hO.c, ?_⟩
  rcases hO.blk with e | ⟨st, cells, hb, hst, hc⟩
  · subst e; exact .inl (List.length_eq_zero_iff.1 hl.symm)
  · refine .inr ⟨cells, ?_, fun i t hi => ?_⟩
    · unfold rdB
      rw [hb]
      rcases hst with rfl | rfl <;> rfl
    · have hi1 := (List.getElem?_eq_some_iff.1 hi).1
      have hx : xs[i]? = some xs[i] := List.getElem?_eq_getElem (by omega)
      obtain ⟨t1, t2, t3⟩ := triC_at xs i _ hx
      have key : ∀ (xs : List Tri) (ts : List Tn) (i : Nat) x t, xs[i]? = some x → ts[i]? = some t → ∀ p ∈ rows3 x.1 x.2.1 x.2.2 t, p ∈ rowsT xs ts := by
        intro xs
        induction xs with
        | nil => intro ts i x t h; simp at h
        | cons y xs ih =>
          intro ts i x t h1 h2 p hp
          cases ts with
          | nil => simp at h2
          | cons u ts =>
            cases i with
            | zero => simp at h1 h2; subst h1; subst h2; simp only [rowsT, List.mem_append]; exact .inl hp
            | succ i => simp only [rowsT, List.mem_append]; exact .inr (ih ts i x t (by simpa using h1) (by simpa using h2) p hp)
      have hk := key xs ts i _ t hx hi
      rw [hO.o, Nat.zero_add]
      exact ⟨_, _, _, hc _ _ t1, hc _ _ t2, hc _ _ t3, ⟨hr (_, t.L) (hk _ (by simp)), hr (_, t.D) (hk _ (by simp)), hr (_, t.X) (hk _ (by simp))⟩⟩
end Go.Abs
/- Contracts: a formula's network (impl). -/
namespace Go.Abs
set_option linter.unusedVariables false
set_option linter.unusedSimpArgs false

def bcs (l : List Bool) : List Sc := l.map Sc.bool
theorem take_snoc_any {α : Type} {l : List α} {i : Nat} (h : i < l.length) : l.take (i + 1) = l.take i ++ [l[i]] := by rw [List.take_succ_eq_append_getElem h]
structure NetS (H0 H : AH) (s : Sl) (xs : List Tri) (ts : List Tn) : Prop where
  fr : Fr H0 H (rowsT xs ts)
  len : xs.length = ts.length
  out : OOut H0.length H s xs
theorem NetS.t3 {H0 H : AH} {s : Sl} {xs : List Tri} {ts : List Tn} (h : NetS H0 H s xs ts) : T3 H s ts := t3_of h.out.outer h.len fun p hp => (h.fr.rows.own p hp).is

end Go.Abs
/- Contracts: a formula's network (impl), whole. -/
namespace Go.Abs
set_option linter.unusedVariables false
set_option linter.unusedSimpArgs false

/-- A tensor that a call makes in a place of its own is put at the end. -/
theorem NetS.push {H0 H H1 : AH} {s a b c : Sl} {xs : List Tri} {ts : List Tn} {t : Tn} (h : NetS H0 H s xs ts) (hl : ts.length ≤ 1048576) (ht : NewT (H ++ [resB]) H1 a b c t) :
    ∃ s' xs' H', (∀ {α : Type} (k : Sl × AH → Option α), ((newAt H1 (H.length + 0) 3 [.sl a, .sl b, .sl c]).bind fun h => (rng h.2 h.1 0 (1 * 3)).bind fun l => (appB h.2 3 72 s l 1).bind k) = k (s', H')) ∧
      NetS H0 H' s' xs' (ts ++ [t]) ∧ H.length ≤ H'.length ∧ (∀ d, d < H.length → (d ≠ s.b ∨ xs = []) → H'[d]? = H[d]?) := by
  obtain ⟨s', H', e, F, O, l, f⟩ := push_tensor h.fr h.out (by rw [h.len]; exact hl) ht
  have F3 := Fr.snocT (rs := []) (xs := xs) (by simpa using F) h.len
  rw [List.append_nil] at F3
  exact ⟨s', xs ++ [(a, b, c)], H', e, ⟨F3, by simp [h.len], O⟩, l, f⟩

end Go.Abs
/- Contracts: a formula's network (spec). -/
namespace Go.Abs
set_option linter.unusedVariables false
set_option linter.unusedSimpArgs false

end Go.Abs
/- Contracts: a formula's network (spec), whole. -/
namespace Go.Abs
set_option linter.unusedVariables false
set_option linter.unusedSimpArgs false

theorem NetS.ext {H0 H H' : AH} {s : Sl} {xs : List Tri} {ts : List Tn} (h : NetS H0 H s xs ts) (hl : Le H H') : NetS H0 H' s xs ts := ⟨h.fr.ext hl, h.len, h.out.le hl⟩
end Go.Abs
/- Words: arguments that are opened; networks of their own under changes elsewhere. -/
namespace Go.Abs
set_option linter.unusedVariables false
set_option linter.unusedSimpArgs false
set_option linter.all false
set_option maxRecDepth 10000

theorem list_choice {α : Type} {E : Nat → α → Prop} : ∀ (c : Nat), (∀ i, i < c → ∃ x, E i x) → ∃ xs : List α, xs.length = c ∧ ∀ (i : Nat) x, xs[i]? = some x → E i x
  | 0, _ => ⟨[], rfl, fun i x h => by simp at h⟩
  | c + 1, h => by
    obtain ⟨xs, h1, h2⟩ := list_choice c fun i hi => h i (by omega)
    obtain ⟨x, hx⟩ := h c (by omega)
    refine ⟨xs ++ [x], by simp [h1], fun i y hy => ?_⟩
    rcases Nat.lt_or_ge i c with e | e
    · rw [List.getElem?_append_left (by omega)] at hy
      exact h2 i y hy
    · have hl := (List.getElem?_eq_some_iff.1 hy).1
      simp [h1] at hl
      have : i = c := by omega
      subst this
      rw [List.getElem?_append_right (by omega)] at hy
      simp [h1] at hy
      subst hy; exact hx

section
variable {H : AH}
def I64 (i : Int) : Prop := -9223372036854775808 ≤ i ∧ i ≤ 9223372036854775807
theorem open_int {n : Nat} {t : TypeId} (hu : P.underlying t = some (.int .i64)) {l : List Sc} (h : typed P (n + 1) H t l) : ∃ i, l = [.int .i64 i] ∧ I64 i := by
  simp only [typed, hu] at h
  obtain ⟨i, h1, h2⟩ := h
  refine ⟨i, h1, ?_⟩
  simp [Lit.wf, IntKind.min, IntKind.max, IntKind.signed, IntKind.bits] at h2
  unfold I64; omega
/-- A slice that reads: its elements, one by one. -/
theorem open_sl {α : Type} {E : Nat → List Sc → α → Prop} {n : Nat} {t e : TypeId} {z : Nat} (hu : P.underlying t = some (.slice e)) (hz : tsz P e = z) {l : List Sc} (h : typed P (n + 1) H t l)
    (hE : ∀ (cells : List Sc) i, typed P n H e ((cells.drop (i * z)).take z) → ∃ x, E i cells x) :
    ∃ s xs, l = [.sl s] ∧ s.n = xs.length ∧ s.n ≤ s.c ∧ xs.length ≤ maxLen ∧ s.o = 0 ∧ (xs = [] ∨ ∃ cells, rdB H s.b = some cells ∧ ∀ (i : Nat) x, xs[i]? = some x → E i cells x) := by
  simp only [typed, hu] at h
  rcases h with rfl | ⟨b, m, c, cells, rfl, h1, h2, h3, h4, h5, h6⟩
  · exact ⟨_, [], rfl, rfl, Nat.le_refl _, Nat.zero_le _, rfl, .inl rfl⟩
  · obtain ⟨xs, g1, g2⟩ := list_choice (E := fun i x => E i cells x) m fun i hi => hE cells i (by have := h6 i (by omega); rw [hz] at this; exact this)
    refine ⟨_, xs, rfl, g1.symm, h1, by omega, rfl, .inr ⟨cells, ?_, g2⟩⟩
    unfold rdB
    rw [h4]; rfl
theorem take_one {cells : List Sc} {i z : Nat} {x : Sc} (hz : z = 1) (h : (cells.drop (i * z)).take z = [x]) : cells[i]? = some x := by
  subst hz
  rw [Nat.mul_one] at h
  have := congrArg (fun l => l[0]?) h
  simpa using this
theorem open_ints {n : Nat} {t e : TypeId} (hu : P.underlying t = some (.slice e)) (he : P.underlying e = some (.int .i64)) (hz : tsz P e = 1) {l : List Sc} (h : typed P (n + 2) H t l) :
    ∃ s xs, l = [.sl s] ∧ IS H s xs ∧ xs.length ≤ maxLen ∧ ∀ x ∈ xs, I64 x := by
  obtain ⟨s, xs, h1, h2, h3, h4, h5, h6⟩ := open_sl (E := fun i cells (x : Int) => cells[i]? = some (.int .i64 x) ∧ I64 x) hu hz h (fun cells i ht => by
    obtain ⟨x, hx, hi⟩ := open_int he ht
    exact ⟨x, take_one rfl hx, hi⟩)
  refine ⟨s, xs, h1, ⟨h2, h3, h6.imp id fun ⟨cells, g1, g2⟩ => ⟨cells, g1, fun i x hx => by rw [h5, Nat.zero_add]; exact (g2 i x hx).1⟩⟩, h4, fun x hx => ?_⟩
  obtain ⟨j, hj⟩ := List.getElem?_of_mem hx
  rcases h6 with e | ⟨cells, _, g2⟩
  · rw [e] at hx; simp at hx
  · exact (g2 j x hj).2
end

/-- A network of its own, at or above a place. -/
structure NetO (n0 : Nat) (H : AH) (s u : Sl) (xs : List Tri) (n : Nw) : Prop where
  len : xs.length = n.ts.length
  out : OOut n0 H s xs
  rows : Rows n0 H (rowsN xs u n)
theorem NetO.own {n0 : Nat} {H : AH} {s u : Sl} {xs : List Tri} {n : Nw} (h : NetO n0 H s u xs n) : OwnN n0 H s u xs n := ⟨h.len, h.out.outer, h.rows⟩
theorem NetO.keep {n0 : Nat} {H H' : AH} {s u : Sl} {xs : List Tri} {n : Nw} (h : NetO n0 H s u xs n) (hf : ∀ b, n0 ≤ b → b < H.length → H'[b]? = H[b]?) : NetO n0 H' s u xs n := by
  refine ⟨h.len, h.out.keep fun hx => ?_, h.rows.frame fun p hp hne => ?_⟩
  · refine hf _ ?_ (h.out.lt hx)
    rcases h.out.blk with ⟨e, _⟩ | ⟨_, e, _⟩
    · exact absurd e hx
    · exact e
  · refine hf _ ?_ (h.rows.lt p hp hne)
    rcases (h.rows.own p hp).lo with e | e
    · exact absurd e hne
    · exact e
end Go.Abs
/- What the results of calls are taken apart to. Printed by clgen.py. -/
namespace Go.Abs
set_option linter.all false
theorem o_iii (a0_0 : Int) (a0_1 : Int) (a0_2 : Int) {α : Type} (k : Int → Int → Int → Option α) : ((oneP [.agg [.int .i64 a0_0, .int .i64 a0_1, .int .i64 a0_2]]).bind fun p => p.agg?.bind fun l => cond (decide (l.length = 3)) ((intAt .i64 l 0).bind fun x0_0 => (intAt .i64 l 1).bind fun x0_1 => (intAt .i64 l 2).bind fun x0_2 => k x0_0 x0_1 x0_2) none) = k a0_0 a0_1 a0_2 := rfl
theorem o_sss (a0_0 : Sl) (a0_1 : Sl) (a0_2 : Sl) {α : Type} (k : Sl → Sl → Sl → Option α) : ((oneP [.agg [.sl a0_0, .sl a0_1, .sl a0_2]]).bind fun p => p.agg?.bind fun l => cond (decide (l.length = 3)) ((slAt l 0).bind fun x0_0 => (slAt l 1).bind fun x0_1 => (slAt l 2).bind fun x0_2 => k x0_0 x0_1 x0_2) none) = k a0_0 a0_1 a0_2 := rfl
theorem t_sss_b (a0_0 : Sl) (a0_1 : Sl) (a0_2 : Sl) (a1 : Bool) {α : Type} (k : Sl → Sl → Sl → Bool → Option α) : ((lenP [.agg [.sl a0_0, .sl a0_1, .sl a0_2], .sc (.bool a1)] 2).bind fun _ => (nthP [.agg [.sl a0_0, .sl a0_1, .sl a0_2], .sc (.bool a1)] 0).bind fun p0 => p0.agg?.bind fun l0 => cond (decide (l0.length = 3)) ((slAt l0 0).bind fun x0_0 => (slAt l0 1).bind fun x0_1 => (slAt l0 2).bind fun x0_2 => (nthP [.agg [.sl a0_0, .sl a0_1, .sl a0_2], .sc (.bool a1)] 1).bind fun p1 => p1.sc?.bind fun c1 => (boolAt [c1] 0).bind fun x1 => k x0_0 x0_1 x0_2 x1) none) = k a0_0 a0_1 a0_2 a1 := rfl
theorem t_i_b (a0 : Int) (a1 : Bool) {α : Type} (k : Int → Bool → Option α) : ((lenP [.sc (.int .i64 a0), .sc (.bool a1)] 2).bind fun _ => (nthP [.sc (.int .i64 a0), .sc (.bool a1)] 0).bind fun p0 => p0.sc?.bind fun c0 => (intAt .i64 [c0] 0).bind fun x0 => (nthP [.sc (.int .i64 a0), .sc (.bool a1)] 1).bind fun p1 => p1.sc?.bind fun c1 => (boolAt [c1] 0).bind fun x1 => k x0 x1) = k a0 a1 := rfl
theorem ne_b (b : Bool) : (b != b) = false := by cases b <;> rfl
theorem ne_i (i : Int) : (i != i) = false := by simp
end Go.Abs
/- Pure: primes; two to the power of a prime less two. -/
namespace Go.Abs
set_option linter.all false

def chs : Nat → Nat → Nat
  | _, 0 => 1
  | 0, _ + 1 => 0
  | n + 1, k + 1 => chs n k + chs n (k + 1)
theorem chs_zero (n : Nat) : chs n 0 = 1 := by cases n <;> rfl
theorem chs_lt : ∀ (n k : Nat), n < k → chs n k = 0
  | 0, k + 1, _ => rfl
  | n + 1, k + 1, h => by simp only [chs]; rw [chs_lt n k (by omega), chs_lt n (k + 1) (by omega)]
theorem chs_self : ∀ n, chs n n = 1
  | 0 => rfl
  | n + 1 => by simp only [chs]; rw [chs_self n, chs_lt n (n + 1) (by omega)]
theorem chs_mul : ∀ (n k : Nat), (k + 1) * chs (n + 1) (k + 1) = (n + 1) * chs n k
  | 0, 0 => rfl
  | 0, k + 1 => by simp [chs]
  | n + 1, 0 => by
    have := chs_mul n 0
    simp only [chs, chs_zero] at this ⊢
    omega
  | n + 1, k + 1 => by
    have h1 := chs_mul n k
    have h2 := chs_mul n (k + 1)
    have e1 : chs (n + 1 + 1) (k + 1 + 1) = chs (n + 1) (k + 1) + chs (n + 1) (k + 1 + 1) := rfl
    have e2 : chs (n + 1) (k + 1) = chs n k + chs n (k + 1) := rfl
    rw [e1, Nat.mul_add, h2, Nat.add_mul, Nat.one_mul, h1]
    have e3 : (n + 1 + 1) * chs (n + 1) (k + 1) = (n + 1) * chs (n + 1) (k + 1) + chs (n + 1) (k + 1) := by rw [Nat.add_mul, Nat.one_mul]
    rw [e3, e2, Nat.mul_add]
    omega
def sumC (n : Nat) : Nat → Nat
  | 0 => 0
  | m + 1 => sumC n m + chs n m
theorem sumC_succ (n : Nat) : ∀ m, sumC (n + 1) (m + 1) = sumC n m + sumC n (m + 1)
  | 0 => by simp [sumC, chs_zero]
  | m + 1 => by
    show sumC (n + 1) (m + 1) + chs (n + 1) (m + 1) = _
    rw [sumC_succ n m]
    have : chs (n + 1) (m + 1) = chs n m + chs n (m + 1) := rfl
    rw [this]
    simp only [sumC]
    omega
theorem sumC_pow : ∀ n, sumC n (n + 1) = 2 ^ n
  | 0 => rfl
  | n + 1 => by
    rw [sumC_succ n (n + 1), sumC_pow n]
    have : sumC n (n + 1 + 1) = sumC n (n + 1) + chs n (n + 1) := rfl
    rw [this, sumC_pow n, chs_lt n (n + 1) (by omega), Nat.pow_succ]
    omega

/-- A prime: no number from two on, but less than it, divides it. -/
def Prm (p : Nat) : Prop := 2 ≤ p ∧ ∀ d, 2 ≤ d → d < p → ¬ d ∣ p
theorem Prm.coprime {p k : Nat} (h : Prm p) (h0 : 0 < k) (h1 : k < p) : Nat.Coprime p k := by
  have hg : Nat.gcd p k ∣ p := Nat.gcd_dvd_left p k
  have hk : Nat.gcd p k ∣ k := Nat.gcd_dvd_right p k
  have hle := Nat.le_of_dvd h0 hk
  have hpos : 0 < Nat.gcd p k := Nat.gcd_pos_of_pos_right _ h0
  unfold Nat.Coprime
  rcases Nat.lt_or_ge (Nat.gcd p k) 2 with e | e
  · omega
  · exact absurd hg (h.2 _ e (by omega))
theorem Prm.chs {p k : Nat} (h : Prm p) (h0 : 0 < k) (h1 : k < p) : p ∣ chs p k := by
  obtain ⟨j, rfl⟩ : ∃ j, k = j + 1 := ⟨k - 1, by omega⟩
  obtain ⟨n, rfl⟩ : ∃ n, p = n + 1 := ⟨p - 1, by omega⟩
  have := chs_mul n j
  have hd : n + 1 ∣ (j + 1) * Go.Abs.chs (n + 1) (j + 1) := by rw [this]; exact Nat.dvd_mul_right _ _
  exact (h.coprime h0 h1).dvd_of_dvd_mul_left hd
theorem Prm.sum {p : Nat} (h : Prm p) : ∀ m, 1 ≤ m → m ≤ p → sumC p m % p = 1 % p
  | 0, h1, _ => by omega
  | 1, _, _ => by simp [sumC, chs_zero]
  | m + 2, _, h2 => by
    show (sumC p (m + 1) + Go.Abs.chs p (m + 1)) % p = _
    have ih := Prm.sum h (m + 1) (by omega) (by omega)
    have hd := h.chs (k := m + 1) (by omega) (by omega)
    rw [Nat.add_mod, ih, Nat.mod_eq_zero_of_dvd hd]; simp
theorem Prm.two_pow {p : Nat} (h : Prm p) : 2 ^ p % p = 2 % p := by
  have h2 := h.1
  rw [← sumC_pow p]
  show (sumC p p + Go.Abs.chs p p) % p = _
  rw [chs_self, Nat.add_mod, h.sum p (by omega) (Nat.le_refl _), ← Nat.add_mod]
theorem Prm.half {p : Nat} (h : Prm p) (h2 : p ≠ 2) : 2 ^ (p - 2) % p = (p + 1) / 2 := by
  have hp := h.1
  have hodd : p % 2 = 1 := by
    rcases Nat.mod_two_eq_zero_or_one p with e | e
    · exact absurd (Nat.dvd_of_mod_eq_zero e) (h.2 2 (by omega) (by omega))
    · exact e
  have hc : Nat.Coprime p 2 := h.coprime (by omega) (by omega)
  have hpw : 2 ^ p = 2 * (2 * 2 ^ (p - 2)) := by
    obtain ⟨m, hm⟩ : ∃ m, p = m + 2 := ⟨p - 2, by omega⟩
    rw [hm]
    show 2 ^ (m + 1 + 1) = 2 * (2 * 2 ^ (m + 2 - 2))
    rw [Nat.add_sub_cancel, Nat.pow_succ, Nat.pow_succ]; omega
  have hmod := h.two_pow
  -- p divides 2 * (2 * x) - 2
  have hge : 1 ≤ 2 ^ (p - 2) := Nat.pow_pos (by omega)
  have hd : p ∣ 2 ^ p - 2 := Nat.dvd_of_mod_eq_zero (Nat.sub_mod_eq_zero_of_mod_eq hmod)
  have hd2 : p ∣ 2 * (2 * 2 ^ (p - 2) - 1) := by
    have : 2 * (2 * 2 ^ (p - 2) - 1) = 2 ^ p - 2 := by rw [hpw]; omega
    rw [this]; exact hd
  have hd3 : p ∣ 2 * 2 ^ (p - 2) - 1 := hc.dvd_of_dvd_mul_left hd2
  obtain ⟨q, hq⟩ := hd3
  have hx := Nat.div_add_mod (2 ^ (p - 2)) p
  generalize hX : 2 ^ (p - 2) = X at *
  have hr := Nat.mod_lt X (show 0 < p by omega)
  -- 2 * (X % p) = 1 + p * something
  have hlin : 2 * (X % p) + p * (2 * (X / p)) = p * q + 1 := by
    have : 2 * X = p * q + 1 := by omega
    rw [← this]
    have e : p * (2 * (X / p)) = 2 * (p * (X / p)) := by rw [Nat.mul_left_comm]
    rw [e]; omega
  have hle : 2 * (X / p) ≤ q := by
    rcases Nat.lt_or_ge q (2 * (X / p)) with e | e
    · have : p * (q + 1) ≤ p * (2 * (X / p)) := Nat.mul_le_mul_left _ e
      rw [Nat.mul_add] at this
      omega
    · exact e
  obtain ⟨t, ht⟩ : ∃ t, q = 2 * (X / p) + t := ⟨q - 2 * (X / p), by omega⟩
  rw [ht, Nat.mul_add] at hlin
  have ht1 : t = 1 := by
    match t, hlin with
    | 0, hlin => simp at hlin; omega
    | 1, _ => rfl
    | t + 2, hlin =>
      have : p * (t + 2) = p * t + p * 2 := Nat.mul_add _ _ _
      have h0 : 0 ≤ p * t := Nat.zero_le _
      omega
  rw [ht1] at hlin
  omega

/-- The program's test tells primes. -/
theorem hasDiv_false : ∀ (k : Nat) (n d : Int), 0 < d → hasDiv k n d = false → ∀ e : Int, d ≤ e → e < d + k → e * e ≤ n → ¬ n % e = 0
  | 0, n, d, _, _, e, h1, h2, _ => by omega
  | k + 1, n, d, hd, h, e, h1, h2, h3 => by
    have hdd : d * d ≤ e * e := Int.mul_le_mul h1 h1 (by omega) (by omega)
    unfold hasDiv at h
    rw [if_pos (by omega)] at h
    simp only [Bool.or_eq_false_iff, beq_eq_false_iff_ne, ne_eq] at h
    by_cases he : e = d
    · subst he
      intro h0
      refine h.1 ?_
      have : 0 ≤ n := by have : 0 ≤ e * e := Int.mul_nonneg (by omega) (by omega); omega
      rw [Int.tmod_eq_emod_of_nonneg this]; exact h0
    · exact hasDiv_false k n (d + 1) (by omega) h.2 e (by omega) (by omega) h3
theorem primeB_prm {p : Int} (h : primeB p = true) : Prm p.toNat ∧ 2 ≤ p ∧ p ≤ 1000003 := by
  have h2 := prime_two h
  simp only [primeB, Bool.and_eq_true, Bool.not_eq_true', decide_eq_true_eq] at h
  have hf := hasDiv_false 999 p 2 (by omega) h.2
  refine ⟨⟨by omega, fun d hd1 hd2 hdv => ?_⟩, h2⟩
  obtain ⟨c, hc⟩ := hdv
  have hpc : p = (d : Int) * (c : Int) := by
    have : ((p.toNat : Nat) : Int) = ((d * c : Nat) : Int) := by rw [hc]
    rw [Int.natCast_mul] at this
    omega
  have hc1 : 2 ≤ c := by
    rcases Nat.lt_or_ge c 2 with e | e
    · have : c = 0 ∨ c = 1 := by omega
      rcases this with rfl | rfl
      · simp at hc; omega
      · simp at hc; omega
    · exact e
  -- the smaller of the two
  rcases Nat.le_total d c with e | e
  · have hdd : d * d ≤ d * c := Nat.mul_le_mul_left _ e
    have hle : ((d : Int)) * d ≤ p := by rw [hpc]; exact_mod_cast hdd
    refine hf d (by omega) ?_ hle ?_
    · rcases Nat.lt_or_ge d 1001 with g | g
      · omega
      · have : (1001 : Int) * 1001 ≤ (d : Int) * d := Int.mul_le_mul (by omega) (by omega) (by omega) (by omega)
        omega
    · rw [hpc]; exact Int.mul_emod_right _ _
  · have hdd : c * c ≤ d * c := Nat.mul_le_mul_right _ e
    have hle : ((c : Int)) * c ≤ p := by rw [hpc]; exact_mod_cast hdd
    refine hf c (by omega) ?_ hle ?_
    · rcases Nat.lt_or_ge c 1001 with g | g
      · omega
      · have : (1001 : Int) * 1001 ≤ (c : Int) * c := Int.mul_le_mul (by omega) (by omega) (by omega) (by omega)
        omega
    · rw [hpc]; exact Int.mul_emod_left _ _
end Go.Abs
/- Contracts: circuits: their check; bits; inverses; roots. -/
namespace Go.Abs
set_option linter.all false
set_option maxRecDepth 10000

theorem bitAnd_one {x : Int} (h0 : 0 ≤ x) (h1 : x ≤ 9223372036854775807) : bitAnd .i64 x 1 = x % 2 := by
  have e1 : (BitVec.ofInt (IntKind.bits .i64) x &&& BitVec.ofInt (IntKind.bits .i64) 1).toNat = x.toNat % 2 := by
    rw [BitVec.toNat_and]
    have a1 : (BitVec.ofInt (IntKind.bits .i64) x).toNat = x.toNat := by
      simp [IntKind.bits, BitVec.toNat_ofInt]
      omega
    have a2 : (BitVec.ofInt (IntKind.bits .i64) 1).toNat = 1 := by simp [IntKind.bits, BitVec.toNat_ofInt]
    rw [a1, a2, Nat.and_one_is_mod]
  unfold bitAnd
  rw [e1, wrap_id] <;> omega
theorem shlR_nat {x : Int} {n : Nat} (h0 : 0 ≤ x) (hn : n ≤ 64) : shlR .i64 x (n : Int) = x / (2 ^ n : Nat) := by
  unfold shlR
  have : min ((n : Int)).toNat (IntKind.bits .i64) = n := by simp [IntKind.bits]; omega
  rw [this, Int.fdiv_eq_ediv_of_nonneg _ (by exact_mod_cast Nat.zero_le _)]
  simp
theorem shlL_one {n : Nat} (hn : n ≤ 40) : shlL .i64 1 (n : Int) = ((2 ^ n : Nat) : Int) := by
  unfold shlL
  have : min ((n : Int)).toNat (IntKind.bits .i64) = n := by simp [IntKind.bits]; omega
  rw [this]
  have h : (2 : Int) ^ n = ((2 ^ n : Nat) : Int) := by simp
  have hle : 2 ^ n ≤ 2 ^ 40 := Nat.pow_le_pow_right (by omega) hn
  rw [Int.one_mul, h]
  generalize 2 ^ n = m at hle ⊢
  rw [wrap_id] <;> omega

/-- impl.rawInverse: a power modulo p -/
theorem c_irawInverse_0 {p : Int} (hp0 : 2 ≤ p) (hp : p ≤ 1000003) (H : AH) : ∀ (e : Nat) (x inv : Nat), (x : Int) < p → (inv : Int) < p → e ≤ 1000003 →
    R (.loop F.irawInverse 0) [isc p, isc (x : Int), isc (inv : Int), isc (e : Int)] H = some ⟨2, [isc ((inv * x ^ e % p.toNat : Nat) : Int)], H⟩ := by
  intro e
  induction e using Nat.strongRecOn with
  | ind e ih =>
    intro x inv hx hi he
    by_cases h0 : e = 0
    · subst h0
      rw [R_eq, e_irawInverse_0]
      have : inv % p.toNat = inv := Nat.mod_eq_of_lt (by omega)
      simp [this]
    · have hgt : decide ((e : Int) > 0) = true := decide_eq_true (by omega)
      have hz : (p == 0) = false := bf (by omega)
      have hb := bitAnd_one (x := (e : Int)) (by omega) (by omega)
      have hs := shlR_nat (x := (e : Int)) (n := 1) (by omega) (by omega)
      have hs' : shlR .i64 (e : Int) 1 = ((e / 2 : Nat) : Int) := by
        have : ((1 : Nat) : Int) = 1 := rfl
        rw [this] at hs; rw [hs]; simp
      have hmulx : ((x : Int)) * x ≤ 1000003 * 1000003 := Int.mul_le_mul (by omega) (by omega) (by omega) (by omega)
      have hmulx0 : 0 ≤ ((x : Int)) * x := Int.mul_nonneg (by omega) (by omega)
      have hmuli : ((inv : Int)) * x ≤ 1000003 * 1000003 := Int.mul_le_mul (by omega) (by omega) (by omega) (by omega)
      have hmuli0 : 0 ≤ ((inv : Int)) * x := Int.mul_nonneg (by omega) (by omega)
      have wx : Int.tmod (IntKind.wrap .i64 ((x : Int) * x)) p = ((x * x % p.toNat : Nat) : Int) := by
        rw [wrap_id (by omega) (by omega), Int.tmod_eq_emod_of_nonneg hmulx0]
        have : p = ((p.toNat : Nat) : Int) := by omega
        rw [this, Int.natCast_emod]; simp
      have wi : Int.tmod (IntKind.wrap .i64 ((inv : Int) * x)) p = ((inv * x % p.toNat : Nat) : Int) := by
        rw [wrap_id (by omega) (by omega), Int.tmod_eq_emod_of_nonneg hmuli0]
        have : p = ((p.toNat : Nat) : Int) := by omega
        rw [this, Int.natCast_emod]; simp
      have hlt1 : ((x * x % p.toNat : Nat) : Int) < p := by have := Nat.mod_lt (x * x) (show 0 < p.toNat by omega); omega
      have hlt2 : ((inv * x % p.toNat : Nat) : Int) < p := by have := Nat.mod_lt (inv * x) (show 0 < p.toNat by omega); omega
      have hpow : ∀ a : Nat, a * (x * x % p.toNat) ^ (e / 2) % p.toNat = a * (x * x) ^ (e / 2) % p.toNat := fun a => by
        rw [Nat.mul_mod, Nat.pow_mod, Nat.mod_mod, ← Nat.pow_mod, ← Nat.mul_mod]
      have hsq : (x * x) ^ (e / 2) = x ^ (2 * (e / 2)) := by rw [← Nat.pow_two, ← Nat.pow_mul]
      rw [R_eq, e_irawInverse_0, hgt, cond_true, hb, hz, hs', wx, wi]
      simp only [cond_false]
      rcases Nat.mod_two_eq_zero_or_one e with h2 | h2
      · have hbit : (((e : Int) % 2) == 1) = false := bf (by omega)
        rw [hbit, cond_false, ih (e / 2) (by omega) _ _ hlt1 hi (by omega), hpow, hsq]
        have : 2 * (e / 2) = e := by omega
        rw [this]
      · have hbit : (((e : Int) % 2) == 1) = true := by simp; omega
        rw [hbit, cond_true, ih (e / 2) (by omega) _ _ hlt1 hlt2 (by omega), hpow, hsq]
        have e3 : inv * x % p.toNat * x ^ (2 * (e / 2)) % p.toNat = inv * x ^ e % p.toNat := by
          rw [Nat.mod_mul_mod, Nat.mul_assoc]
          congr 2
          rw [← Nat.pow_succ']
          congr 1; omega
        rw [e3]
/-- the inverse of two -/
theorem c_irawInverse_two {p : Int} (hp : primeB p = true) (h2 : p > 2) (H : AH) : R (.fn F.irawInverse) [isc p, isc 2] H = some ⟨1, [isc ((p + 1) / 2)], H⟩ := by
  obtain ⟨hprm, h3, h4⟩ := primeB_prm hp
  have hw : IntKind.wrap .i64 (p - 2) = ((p.toNat - 2 : Nat) : Int) := by rw [wrap_id] <;> omega
  have := c_irawInverse_0 h3 h4 H (p.toNat - 2) 2 1 (by omega) (by omega) (by omega)
  rw [Nat.one_mul, hprm.half (by omega)] at this
  have e : (((p.toNat + 1) / 2 : Nat) : Int) = (p + 1) / 2 := by omega
  rw [e] at this
  have this : R (.loop F.irawInverse 0) [isc p, isc 2, isc 1, isc ((p.toNat - 2 : Nat) : Int)] H = _ := this
  rw [R_eq, e_irawInverse, hw, this]
  rfl

structure Gt where
  k : Int
  a : Int
  b : Int
def G3 (H : AH) (s : Sl) (gs : List Gt) : Prop := s.n = gs.length ∧ s.n ≤ s.c ∧ (gs = [] ∨ ∃ cs, rdB H s.b = some cs ∧ ∀ (i : Nat) g, gs[i]? = some g → cs[s.o + i * 3]? = some (.int .i64 g.k) ∧ cs[s.o + i * 3 + 1]? = some (.int .i64 g.a) ∧ cs[s.o + i * 3 + 1 + 1]? = some (.int .i64 g.b))
theorem G3.le {H H' : AH} (h : Le H H') {s : Sl} {gs : List Gt} (k : G3 H s gs) : G3 H' s gs := ⟨k.1, k.2.1, k.2.2.imp id fun ⟨cs, h1, h2⟩ => ⟨cs, h.rdB h1, h2⟩⟩
theorem G3.ld {H : AH} {s : Sl} {gs : List Gt} (h : G3 H s gs) {i : Nat} (hi : i < gs.length) {α : Type} (k : Int → Int → Int → Option α) :
    ((ixA s (i : Int) 3).bind fun o => (rdB H s.b).bind fun q => (intAt .i64 q o).bind fun x => (intAt .i64 q (o + 1)).bind fun y => (intAt .i64 q (o + 1 + 1)).bind fun z => k x y z) = k gs[i].k gs[i].a gs[i].b := by
  obtain ⟨h1, h2, e | ⟨cs, hc, hg⟩⟩ := h
  · rw [e] at hi; simp at hi
  · obtain ⟨g1, g2, g3⟩ := hg i _ (List.getElem?_eq_getElem hi)
    rw [ixA_nat (by omega)]
    simp only [Option.bind_some, hc, intAt_get g1, intAt_get g2, intAt_get g3]
def omega (p : Int) : Rg := ⟨8, p, 0⟩
theorem c_iomegaRing (p : Int) (H : AH) : R (.fn F.iomegaRing) [isc p] H = some ⟨1, [(omega p).pv], H⟩ := by rw [R_eq, e_iomegaRing]; rfl
theorem c_sl40Ring (p : Int) (H : AH) : R (.fn F.sl40Ring) [isc p] H = some ⟨1, [(omega p).pv], H⟩ := by rw [R_eq, e_sl40Ring]; rfl

end Go.Abs
/- Contracts: the matrices of gates. -/
namespace Go.Abs
set_option linter.all false
set_option maxRecDepth 10000

def rootE (p : Int) (n : Nat) : List Int := if n < 4 then (List.replicate 4 0).set n 1 else (List.replicate 4 0).set (n - 4) (p - 1)
theorem rootE_len (p : Int) (n : Nat) : (rootE p n).length = 4 := by unfold rootE; split <;> simp
@[reducible] def row4 (b : Nat) : Sl := ⟨b, 0, 4, 4, true⟩
/-- impl.rootElem -/
theorem c_irootElem {p : Int} (hp : 1 ≤ p ∧ p ≤ 1000003) {n : Nat} (hn : n < 8) (H : AH) : R (.fn F.irootElem) [isc p, isc (n : Int)] H = some ⟨1, [ssc (row4 H.length)], H ++ [⟨ics (rootE p n), .rw, 1⟩]⟩ := by
  have hm : mkB H 1 8 [.int .i64 0] 4 4 = some (⟨H.length, 0, 4, 4, true⟩, H ++ [⟨ics (List.replicate 4 0), .rw, 1⟩]) := mk_ints (n := 4) (by omega)
  rw [R_eq, e_irootElem, hm]
  simp only [Option.bind_some]
  unfold rootE
  by_cases h : n < 4
  · rw [if_pos h, decide_eq_true (show (n : Int) < 4 by omega), cond_true, st_own0 app_get h (by simp; omega), app_set]
  · have e : IntKind.wrap .i64 ((n : Int) - 4) = ((n - 4 : Nat) : Int) := by rw [wrap_id] <;> omega
    have e2 : IntKind.wrap .i64 (p - 1) = p - 1 := by rw [wrap_id] <;> omega
    rw [if_neg h, decide_eq_false (show ¬ (n : Int) < 4 by omega), cond_false, e, e2, st_own0 app_get (by omega) (by simp; omega), app_set]

def oG : List Int := [1, 0, 0, 0]
def zG : List Int := [0, 0, 0, 0]
def halfG (p : Int) : Int := (p + 1) / 2
def lastG (p k : Int) : List Int := if k = 2 ∨ k = 9 then [p - 1, 0, 0, 0] else if k = 3 then [0, 0, 1, 0] else if k = 4 then [0, 1, 0, 0] else if k = 6 then [0, 0, p - 1, 0] else if k = 7 then [0, 0, 0, p - 1] else oG
def matG (p k : Int) : List (List Int) :=
  if k = 1 then [zG, oG, oG, zG]
  else if k = 5 then [[0, halfG p, 0, p - halfG p], [0, halfG p, 0, p - halfG p], [0, halfG p, 0, p - halfG p], [0, p - halfG p, 0, halfG p]]
  else if k = 8 then [oG, zG, zG, zG, zG, oG, zG, zG, zG, zG, zG, oG, zG, zG, oG, zG]
  else if k = 9 then [oG, zG, zG, zG, zG, oG, zG, zG, zG, zG, oG, zG, zG, zG, zG, lastG p k]
  else [oG, zG, zG, lastG p k]

theorem i2_of {H : AH} {b n c : Nat} {x : Bool} {sls : List Sl} {ll : List (List Int)} (hb : H[b]? = some ⟨sls.map Sc.sl, .rw, 1⟩) (hn : n = ll.length) (hc : n ≤ c) (ha : All2 (fun s l => IS H s l) sls ll) : I2 H ⟨b, 0, n, c, x⟩ ll := by
  have key : ∀ {sls : List Sl} {ll : List (List Int)}, All2 (fun s l => IS H s l) sls ll → ∀ (i : Nat) l, ll[i]? = some l → ∃ a, sls[i]? = some a ∧ IS H a l := by
    intro sls ll h
    induction h with
    | nil => intro i l h; simp at h
    | cons a _ ih =>
      intro i l h
      cases i with
      | zero => simp at h; subst h; exact ⟨_, rfl, a⟩
      | succ i => exact ih i l (by simpa using h)
  refine ⟨hn, hc, .inr ⟨sls.map Sc.sl, by unfold rdB; rw [hb]; rfl, fun i l hi => ?_⟩⟩
  obtain ⟨a, h1, h2⟩ := key ha i l hi
  exact ⟨a, by rw [Nat.zero_add]; simp [h1], h2⟩
theorem getx (H X : AH) (j : Nat) : (H ++ X)[H.length + j]? = X[j]? := by rw [List.getElem?_append_right (by omega)]; simp
theorem rowx {H X : AH} {j : Nat} {l : List Int} (h : X[j]? = some ⟨ics l, .rw, 1⟩) (hl : l.length = 4) : IS (H ++ X) (row4 (H.length + j)) l := by
  have := IS.of_blk (H := H ++ X) (b := H.length + j) (l := l) (c := 4) (x := true) (by rw [getx, h]) (by omega)
  rw [hl] at this; exact this

end Go.Abs
/- Contracts: the matrices of gates (impl); the qubits of a gate; the tensor of a gate. -/
namespace Go.Abs
set_option linter.all false
set_option maxRecDepth 10000

/-- A row of cells is filled upwards. -/
theorem fill_upC {β : Type} {F : Nat → AH → β} {H : AH} {b n : Nat} (g : Nat → Sc) (hstep : ∀ i cs, i < n → cs.length = n → F i (H.set b ⟨cs, .rw, 1⟩) = F (i + 1) (H.set b ⟨cs.set i (g i), .rw, 1⟩)) :
    ∀ cs, cs.length = n → F 0 (H.set b ⟨cs, .rw, 1⟩) = F n (H.set b ⟨(List.range n).map g, .rw, 1⟩) := by
  have key : ∀ k i cs, i + k = n → cs.length = n → F i (H.set b ⟨cs, .rw, 1⟩) = F n (H.set b ⟨cs.take i ++ ((List.range n).map g).drop i, .rw, 1⟩) := by
    intro k
    induction k with
    | zero =>
      intro i cs hi hl
      obtain rfl : i = n := by omega
      rw [List.take_of_length_le (by omega), List.drop_eq_nil_of_le (by simp), List.append_nil]
    | succ k ih =>
      intro i cs hi hl
      rw [hstep i cs (by omega) hl, ih (i + 1) _ (by omega) (by simpa using hl)]
      congr 3
      have h1 : (cs.set i (g i)).take (i + 1) = cs.take i ++ [g i] := by
        rw [take_snoc_any (by simp; omega)]
        simp [List.take_set_of_le (Nat.le_refl i)]
      have h2 : ((List.range n).map g).drop i = g i :: ((List.range n).map g).drop (i + 1) := by
        rw [List.drop_eq_getElem_cons (by simp; omega)]
        simp
      rw [h1, h2]; simp
  intro cs hl
  have := key n 0 cs (by omega) hl
  simpa using this
theorem st_cell {H : AH} {b n c : Nat} {x : Bool} {cs : List Sc} (hb : H[b]? = some ⟨cs, .rw, 1⟩) {i : Nat} (hi : i < n) (hc : i < cs.length) (v : Sc) {α : Type} (k : AH → Option α) :
    ((ixA ⟨b, 0, n, c, x⟩ (i : Int) 1).bind fun o => (putR H b o [v]).bind k) = k (H.set b ⟨cs.set i v, .rw, 1⟩) := by
  rw [ixA_nat (by exact hi)]
  simp only [Option.bind_some, Nat.mul_one, Nat.zero_add]
  rw [putR_one hb hc]
  rfl
theorem mkAt_one {H : AH} : mkAt (reserve H 1) (H.length + 0) 1 8 [.int .i64 0] 4 4 = some (row4 H.length, H ++ [⟨ics zG, .rw, 1⟩]) := by
  have := mkAt_ints (H := reserve H 1) (i := H.length + 0) (n := 4) (by simp [isRes, reserve1, resB]) (by omega)
  have e : (reserve H 1).set (H.length + 0) ⟨ics (List.replicate 4 0), .rw, 1⟩ = H ++ [⟨ics zG, .rw, 1⟩] := by rw [reserve1, Nat.add_zero, app_set]; rfl
  rw [e] at this
  exact this
/-- noughts and one, side by side -/
theorem zero_one {p : Int} (hp : 1 ≤ p ∧ p ≤ 1000003) (H : AH) :
    R (.fn F.irootElem) [isc p, isc 0] ((H ++ [(⟨ics zG, .rw, 1⟩ : Blk)]).set (H.length + 0) deadB) = some ⟨1, [ssc (row4 (H.length + 1))], H ++ [deadB] ++ [⟨ics oG, .rw, 1⟩]⟩ ∧
    decide ((H ++ [deadB] ++ [(⟨ics oG, .rw, 1⟩ : Blk)]).length ≥ (H ++ [(⟨ics zG, .rw, 1⟩ : Blk)]).length) = true ∧
    restB (H ++ [⟨ics zG, .rw, 1⟩]) (H ++ [deadB] ++ [⟨ics oG, .rw, 1⟩]) (H.length + 0) = H ++ [⟨ics zG, .rw, 1⟩, ⟨ics oG, .rw, 1⟩] := by
  refine ⟨?_, ?_, ?_⟩
  · rw [Nat.add_zero, app_set]
    have := c_irootElem hp (n := 0) (by omega) (H ++ [deadB])
    have e : rootE p 0 = oG := rfl
    rw [e] at this
    simp only [List.length_append, List.length_cons, List.length_nil, Nat.zero_add] at this
    exact this
  · simp
  · unfold restB
    rw [Nat.add_zero]
    simp [deadB]

def idCells (n : Nat) (z o : Sl) : List Sc := (List.range (n * n)).map fun i => if i / n = i % n then Sc.sl o else Sc.sl z
/-- impl.gateMatrix: the unit matrix -/
theorem c_igateMatrix_0 {H : AH} {b n : Nat} {z o : Sl} (hn : 1 ≤ n) (hn4 : n ≤ 4) (hb : H[b]? = some ⟨List.replicate (n * n) (.sl ⟨0, 0, 0, 0, true⟩), .rw, 1⟩) :
    R (.loop F.igateMatrix 0) [isc (n : Int), ssc z, ssc o, ssc ⟨b, 0, n * n, n * n, true⟩, isc ((n * n : Nat) : Int), isc 0] H = some ⟨2, [], H.set b ⟨idCells n z o, .rw, 1⟩⟩ := by
  have hnn : n * n ≤ 16 := Nat.mul_le_mul hn4 hn4
  have := fill_upC (β := Option Out) (F := fun i Hc => R (.loop F.igateMatrix 0) [isc (n : Int), ssc z, ssc o, ssc ⟨b, 0, n * n, n * n, true⟩, isc ((n * n : Nat) : Int), isc (i : Int)] Hc) (H := H) (b := b) (n := n * n) (fun i => if i / n = i % n then Sc.sl o else Sc.sl z)
    (fun i cs hi hl => by
      have hz : ((n : Int) == 0) = false := bf (by omega)
      have e1 : IntKind.wrap .i64 (Int.tdiv (i : Int) n) = ((i / n : Nat) : Int) := by
        rw [Int.tdiv_eq_ediv_of_nonneg (by omega), ← Int.natCast_ediv]
        have := Nat.div_le_self i n
        generalize i / n = d at this ⊢
        rw [wrap_id] <;> omega
      have e2 : Int.tmod (i : Int) n = ((i % n : Nat) : Int) := by rw [Int.tmod_eq_emod_of_nonneg (by omega), ← Int.natCast_emod]
      rw [R_eq, e_igateMatrix_0, lt_true hi, w1 hi (by omega), cond_true, st_cell (set_get hb) hi (by omega), set_set, hz, e1, e2]
      simp only [cond_false]
      by_cases h : i / n = i % n
      · have hb1 : (((i / n : Nat) : Int) == ((i % n : Nat) : Int)) = true := by simp [h]
        rw [hb1, cond_true, st_cell (set_get hb) hi (by simp; omega), set_set, if_pos h]
        simp
      · have hb1 : (((i / n : Nat) : Int) == ((i % n : Nat) : Int)) = false := bf (by omega)
        rw [hb1, cond_false, if_neg h]) (List.replicate (n * n) (.sl ⟨0, 0, 0, 0, true⟩)) (by simp)
  rw [set_same hb] at this
  have this : R (.loop F.igateMatrix 0) [isc (n : Int), ssc z, ssc o, ssc ⟨b, 0, n * n, n * n, true⟩, isc ((n * n : Nat) : Int), isc 0] H = _ := this
  rw [this, R_eq, e_igateMatrix_0, lt_self]
  rfl
theorem mk_slices {H : AH} {n : Nat} (hn : n ≤ 1024) : mkB H 1 24 [.sl ⟨0, 0, 0, 0, true⟩] (n : Int) (n : Int) = some (⟨H.length, 0, n, n, true⟩, H ++ [⟨List.replicate n (.sl ⟨0, 0, 0, 0, true⟩), .rw, 1⟩]) := by
  unfold mkB
  have : (n : Int) * 24 ≤ most := by unfold most; omega
  rw [if_pos ⟨by omega, by omega, by omega, by omega, this⟩]
  simp [List.flatten_replicate_singleton]

def phaseN (k : Int) : Option Nat := if k = 2 ∨ k = 9 then some 4 else if k = 3 then some 2 else if k = 4 then some 1 else if k = 6 then some 6 else if k = 7 then some 7 else none
/-- impl.phaseOf -/
theorem c_iphaseOf (k : Int) (H : AH) : R (.fn F.iphaseOf) [isc k] H = some ⟨1, [isc (((phaseN k).getD 0 : Nat) : Int), bsc (phaseN k).isSome], H⟩ := by
  rw [R_eq, e_iphaseOf]
  unfold phaseN
  by_cases h2 : k = 2
  · subst h2; rfl
  by_cases h9 : k = 9
  · subst h9; rfl
  have h29 : ¬ (k = 2 ∨ k = 9) := by omega
  rw [if_neg h29, bf h2, bf h9]
  simp only [cond_false, Option.bind_some, Nat.beq, cond_true, nth_bool]
  by_cases h3 : k = 3
  · subst h3; rfl
  rw [if_neg h3, bf h3, cond_false]
  by_cases h4 : k = 4
  · subst h4; rfl
  rw [if_neg h4, bf h4, cond_false]
  by_cases h6 : k = 6
  · subst h6; rfl
  rw [if_neg h6, bf h6, cond_false]
  by_cases h7 : k = 7
  · subst h7; rfl
  rw [if_neg h7, bf h7, cond_false]
  rfl

/-- impl.gateMatrix -/
theorem c_igateMatrix {p k : Int} (hp : primeB p = true) (hp2 : p > 2) (hk : 1 ≤ k ∧ k ≤ 9) (H : AH) : ∃ s H', R (.fn F.igateMatrix) [isc p, isc k] H = some ⟨1, [ssc s], H'⟩ ∧ Le H H' ∧ I2 H' s (matG p k) := by
  have hpr : 1 ≤ p ∧ p ≤ 1000003 := by have := prime_two hp; omega
  obtain ⟨z1, z2, z3⟩ := zero_one hpr H
  have hh : 0 ≤ halfG p ∧ halfG p ≤ p := by unfold halfG; omega
  have w4 : IntKind.wrap .i64 (p - halfG p) = p - halfG p := by rw [wrap_id] <;> omega
  -- the part that all gates share, for a size
  have start : ∀ (n : Nat), (n = 2 ∨ n = 4) → (((cond (decide (k ≥ 8)) (some (⟨0, [.sc (.int .i64 4)], H⟩ : Out)) (some ⟨0, [.sc (.int .i64 2)], H⟩)) : Option Out)) = some ⟨0, [isc (n : Int)], H⟩ →
      R (.fn F.igateMatrix) [isc p, isc k] H =
        (R (.fn F.iphaseOf) [isc k] (H ++ [⟨ics zG, .rw, 1⟩, ⟨ics oG, .rw, 1⟩, ⟨idCells n (row4 H.length) (row4 (H.length + 1)), .rw, 1⟩])).bind fun r16 =>
     (lenP r16.vs 2).bind fun _ =>
     (nthP r16.vs 0).bind fun p17 =>
     p17.sc?.bind fun c18 =>
     (intAt .i64 [c18] 0).bind fun n19 =>
     (nthP r16.vs 1).bind fun p20 =>
     p20.sc?.bind fun c21 =>
     (boolAt [c21] 0).bind fun b22 =>
     cond b22
     ((R (.fn F.irootElem) [isc p, isc n19] r16.H).bind fun r23 =>
      (oneP r23.vs).bind fun p24 =>
      p24.sc?.bind fun c25 =>
      (slAt [c25] 0).bind fun s26 =>
      (ixA ⟨H.length + 2, 0, n * n, n * n, true⟩ ((n * n - 1 : Nat) : Int) 1).bind fun o27 =>
      (putR r23.H (H.length + 2) o27 [.sl s26]).bind fun H28 =>
      some ⟨1, [ssc ⟨H.length + 2, 0, n * n, n * n, true⟩], H28⟩)
     (cond (k == 1)
      ((newB r16.H 1 [.sl (row4 H.length), .sl (row4 (H.length + 1)), .sl (row4 (H.length + 1)), .sl (row4 H.length)]).bind fun h29 =>
       some ⟨1, [ssc ⟨h29.1, 0, 4, 4, true⟩], h29.2⟩)
      (cond (k == 5)
       ((R (.fn F.irawInverse) [isc p, isc 2] r16.H).bind fun r30 =>
        (oneP r30.vs).bind fun p31 =>
        p31.sc?.bind fun c32 =>
        (intAt .i64 [c32] 0).bind fun n33 =>
        (newB r30.H 1 [.int .i64 0, .int .i64 n33, .int .i64 0, .int .i64 (IntKind.wrap .i64 (p - n33))]).bind fun h34 =>
        (newB h34.2 1 [.int .i64 0, .int .i64 (IntKind.wrap .i64 (p - n33)), .int .i64 0, .int .i64 n33]).bind fun h35 =>
        (newB h35.2 1 [.sl ⟨h34.1, 0, 4, 4, true⟩, .sl ⟨h34.1, 0, 4, 4, true⟩, .sl ⟨h34.1, 0, 4, 4, true⟩, .sl ⟨h35.1, 0, 4, 4, true⟩]).bind fun h36 =>
        some ⟨1, [ssc ⟨h36.1, 0, 4, 4, true⟩], h36.2⟩)
       ((ixA ⟨H.length + 2, 0, n * n, n * n, true⟩ 10 1).bind fun o37 =>
        (putR r16.H (H.length + 2) o37 [.sl (row4 H.length)]).bind fun H38 =>
        (ixA ⟨H.length + 2, 0, n * n, n * n, true⟩ 11 1).bind fun o39 =>
        (putR H38 (H.length + 2) o39 [.sl (row4 (H.length + 1))]).bind fun H40 =>
        (ixA ⟨H.length + 2, 0, n * n, n * n, true⟩ 14 1).bind fun o41 =>
        (putR H40 (H.length + 2) o41 [.sl (row4 (H.length + 1))]).bind fun H42 =>
        (ixA ⟨H.length + 2, 0, n * n, n * n, true⟩ 15 1).bind fun o43 =>
        (putR H42 (H.length + 2) o43 [.sl (row4 H.length)]).bind fun H44 =>
        some ⟨1, [ssc ⟨H.length + 2, 0, n * n, n * n, true⟩], H44⟩))) := fun n hn hst => by
    have hnn : n * n ≤ 16 ∧ 1 ≤ n ∧ n ≤ 4 ∧ 1 ≤ n * n := by rcases hn with rfl | rfl <;> omega
    have hw : IntKind.wrap .i64 ((n : Int) * n) = ((n * n : Nat) : Int) := by rw [← Int.natCast_mul, wrap_id] <;> omega
    have hw2 : IntKind.wrap .i64 (((n * n : Nat) : Int) - 1) = ((n * n - 1 : Nat) : Int) := by rw [wrap_id] <;> omega
    have hb : (H ++ [⟨ics zG, .rw, 1⟩, ⟨ics oG, .rw, 1⟩, ⟨List.replicate (n * n) (.sl ⟨0, 0, 0, 0, true⟩), .rw, 1⟩] : AH)[H.length + 2]? = some ⟨List.replicate (n * n) (.sl ⟨0, 0, 0, 0, true⟩), .rw, 1⟩ := getx H _ 2
    have hloop := c_igateMatrix_0 (n := n) (z := row4 H.length) (o := row4 (H.length + 1)) hnn.2.1 hnn.2.2.1 hb
    have hset : (H ++ [⟨ics zG, .rw, 1⟩, ⟨ics oG, .rw, 1⟩, ⟨List.replicate (n * n) (.sl ⟨0, 0, 0, 0, true⟩), .rw, 1⟩] : AH).set (H.length + 2) ⟨idCells n (row4 H.length) (row4 (H.length + 1)), .rw, 1⟩ = H ++ [⟨ics zG, .rw, 1⟩, ⟨ics oG, .rw, 1⟩, ⟨idCells n (row4 H.length) (row4 (H.length + 1)), .rw, 1⟩] := by
      rw [List.set_append_right _ _ (by omega)]; simp
    rw [hset] at hloop
    rw [R_eq, e_igateMatrix, hst]
    simp only [Option.bind_some, Nat.beq, cond_true, nth_int]
    rw [mkAt_one]
    simp only [Option.bind_some]
    rw [z1]
    simp only [Option.bind_some, one_sl, z2, cond_true, z3, hw]
    rw [mk_slices (by omega)]
    simp only [Option.bind_some, hw2, List.append_assoc, List.cons_append, List.nil_append, List.length_append, List.length_cons, List.length_nil, Nat.zero_add]
    have hloop : R (.loop F.igateMatrix 0) [isc (n : Int), ssc (row4 H.length), ssc (row4 (H.length + 1)), ssc ⟨H.length + (0 + 1 + 1), 0, n * n, n * n, true⟩, isc ((n * n : Nat) : Int), isc 0] (H ++ [⟨ics zG, .rw, 1⟩, ⟨ics oG, .rw, 1⟩, ⟨List.replicate (n * n) (.sl ⟨0, 0, 0, 0, true⟩), .rw, 1⟩]) = _ := hloop
    simp only [Nat.zero_add] at hloop
    rw [hloop]
    rfl
  have zr : ∀ X : AH, IS (H ++ ⟨ics zG, .rw, 1⟩ :: ⟨ics oG, .rw, 1⟩ :: X) (row4 H.length) zG := fun X => rowx (X := ⟨ics zG, .rw, 1⟩ :: ⟨ics oG, .rw, 1⟩ :: X) (j := 0) rfl rfl
  have or : ∀ X : AH, IS (H ++ ⟨ics zG, .rw, 1⟩ :: ⟨ics oG, .rw, 1⟩ :: X) (row4 (H.length + 1)) oG := fun X => rowx (X := ⟨ics zG, .rw, 1⟩ :: ⟨ics oG, .rw, 1⟩ :: X) (j := 1) rfl rfl
  have kcases : k = 1 ∨ k = 2 ∨ k = 3 ∨ k = 4 ∨ k = 5 ∨ k = 6 ∨ k = 7 ∨ k = 8 ∨ k = 9 := by omega
  -- gates with a phase, two by two
  have phase2 : ∀ j : Nat, j < 8 → k < 8 → phaseN k = some j → matG p k = [oG, zG, zG, rootE p j] → ∃ s H', R (.fn F.igateMatrix) [isc p, isc k] H = some ⟨1, [ssc s], H'⟩ ∧ Le H H' ∧ I2 H' s (matG p k) := fun j hj hk8 hph hm => by
    rw [start 2 (.inl rfl) (by rw [decide_eq_false (show ¬ k ≥ 8 by omega)]; rfl), c_iphaseOf, hph]
    simp only [Option.bind_some, Option.getD_some, Option.isSome_some, t_i_b, cond_true]
    rw [c_irootElem hpr hj]
    simp only [Option.bind_some, one_sl]
    rw [st_cell (i := 2 * 2 - 1) (cs := idCells 2 (row4 H.length) (row4 (H.length + 1))) (by rw [List.append_assoc]; exact getx H _ 2) (by omega) (by simp [idCells])]
    refine ⟨_, _, rfl, ((Le.app _ _).trans (Le.app _ _)).set (by omega), ?_⟩
    rw [hm, List.append_assoc, List.set_append_right _ _ (by omega)]
    simp only [Nat.add_sub_cancel_left, List.cons_append, List.nil_append, List.set_cons_succ, List.set_cons_zero]
    refine i2_of (sls := [row4 (H.length + 1), row4 H.length, row4 H.length, row4 (H.length + 3)]) ((getx H _ 2).trans (by simp [idCells, List.range, List.range.loop])) rfl (by omega) (.cons (or _) (.cons (zr _) (.cons (zr _) (.cons (rowx (j := 3) (l := rootE p j) (by simp) (rootE_len _ _)) .nil))))
  rcases kcases with rfl | rfl | rfl | rfl | rfl | rfl | rfl | rfl | rfl
  · rw [start 2 (.inl rfl) rfl, c_iphaseOf]
    have : phaseN 1 = none := rfl
    rw [this]
    simp only [Option.bind_some, Option.getD_none, Option.isSome_none, t_i_b, cond_false, newB_one]
    refine ⟨_, _, rfl, (Le.app _ _).trans (Le.app _ _), ?_⟩
    rw [List.append_assoc]
    simp only [List.length_append, List.length_cons, List.length_nil]
    exact i2_of (sls := [row4 H.length, row4 (H.length + 1), row4 (H.length + 1), row4 H.length]) (getx H _ 3) rfl (by omega) (.cons (zr _) (.cons (or _) (.cons (or _) (.cons (zr _) .nil))))
  · exact phase2 4 (by omega) (by omega) rfl rfl
  · exact phase2 2 (by omega) (by omega) rfl rfl
  · exact phase2 1 (by omega) (by omega) rfl rfl
  · rw [start 2 (.inl rfl) rfl, c_iphaseOf]
    have : phaseN 5 = none := rfl
    rw [this]
    simp only [Option.bind_some, Option.getD_none, Option.isSome_none, t_i_b, cond_false]
    have e1 : ((5 : Int) == 1) = false := rfl
    have e2 : ((5 : Int) == 5) = true := rfl
    rw [e1, e2, cond_false, cond_true, c_irawInverse_two hp hp2]
    have hhalf : (p + 1) / 2 = halfG p := rfl
    simp only [Option.bind_some, one_int, hhalf, w4, newB_one]
    refine ⟨_, _, rfl, ((Le.app _ _).trans (Le.app _ _)).trans ((Le.app _ _).trans (Le.app _ _)), ?_⟩
    simp only [List.append_assoc, List.cons_append, List.nil_append, List.length_append, List.length_cons, List.length_nil]
    exact i2_of (sls := [row4 (H.length + 3), row4 (H.length + 3), row4 (H.length + 3), row4 (H.length + 4)]) (getx H _ 5) rfl (by omega) (.cons (rowx (j := 3) rfl rfl) (.cons (rowx (j := 3) rfl rfl) (.cons (rowx (j := 3) rfl rfl) (.cons (rowx (j := 4) rfl rfl) .nil))))
  · exact phase2 6 (by omega) (by omega) rfl rfl
  · exact phase2 7 (by omega) (by omega) rfl rfl
  · rw [start 4 (.inr rfl) rfl, c_iphaseOf]
    have : phaseN 8 = none := rfl
    rw [this]
    simp only [Option.bind_some, Option.getD_none, Option.isSome_none, t_i_b, cond_false]
    have e1 : ((8 : Int) == 1) = false := rfl
    have e2 : ((8 : Int) == 5) = false := rfl
    have hlen : (idCells 4 (row4 H.length) (row4 (H.length + 1))).length = 16 := by simp [idCells]
    rw [e1, e2, cond_false, cond_false]
    have s1 := fun (k : AH → Option Out) => st_cell (H := H ++ [⟨ics zG, .rw, 1⟩, ⟨ics oG, .rw, 1⟩, ⟨idCells 4 (row4 H.length) (row4 (H.length + 1)), .rw, 1⟩]) (b := H.length + 2) (n := 4 * 4) (c := 4 * 4) (x := true) (i := 10) (getx H _ 2) (by omega) (by omega) (Sc.sl (row4 H.length)) k
    have hb0 := getx H [⟨ics zG, .rw, 1⟩, ⟨ics oG, .rw, 1⟩, ⟨idCells 4 (row4 H.length) (row4 (H.length + 1)), .rw, 1⟩] 2
    rw [show ((10 : Int)) = ((10 : Nat) : Int) from rfl, show ((11 : Int)) = ((11 : Nat) : Int) from rfl, show ((14 : Int)) = ((14 : Nat) : Int) from rfl, show ((15 : Int)) = ((15 : Nat) : Int) from rfl]
    rw [st_cell hb0 (by omega) (by omega), st_cell (set_get hb0) (by omega) (by simp; omega), set_set, st_cell (set_get hb0) (by omega) (by simp; omega), set_set, st_cell (set_get hb0) (by omega) (by simp; omega), set_set]
    refine ⟨_, _, rfl, (Le.app _ _).set (by omega), ?_⟩
    rw [List.set_append_right _ _ (by omega)]
    simp only [Nat.add_sub_cancel_left, List.set_cons_succ, List.set_cons_zero]
    have o := or [⟨([row4 (H.length + 1), row4 H.length, row4 H.length, row4 H.length, row4 H.length, row4 (H.length + 1), row4 H.length, row4 H.length, row4 H.length, row4 H.length, row4 H.length, row4 (H.length + 1), row4 H.length, row4 H.length, row4 (H.length + 1), row4 H.length]).map Sc.sl, .rw, 1⟩]
    have z := zr [⟨([row4 (H.length + 1), row4 H.length, row4 H.length, row4 H.length, row4 H.length, row4 (H.length + 1), row4 H.length, row4 H.length, row4 H.length, row4 H.length, row4 H.length, row4 (H.length + 1), row4 H.length, row4 H.length, row4 (H.length + 1), row4 H.length]).map Sc.sl, .rw, 1⟩]
    refine i2_of (sls := [row4 (H.length + 1), row4 H.length, row4 H.length, row4 H.length, row4 H.length, row4 (H.length + 1), row4 H.length, row4 H.length, row4 H.length, row4 H.length, row4 H.length, row4 (H.length + 1), row4 H.length, row4 H.length, row4 (H.length + 1), row4 H.length]) ((getx H _ 2).trans (by simp [idCells, List.range, List.range.loop])) rfl (by omega) ?_
    exact (.cons o (.cons z (.cons z (.cons z (.cons z (.cons o (.cons z (.cons z (.cons z (.cons z (.cons z (.cons o (.cons z (.cons z (.cons o (.cons z .nil))))))))))))))))
  · rw [start 4 (.inr rfl) rfl, c_iphaseOf]
    have : phaseN 9 = some 4 := rfl
    rw [this]
    simp only [Option.bind_some, Option.getD_some, Option.isSome_some, t_i_b, cond_true]
    rw [c_irootElem hpr (n := 4) (by omega)]
    simp only [Option.bind_some, one_sl]
    rw [st_cell (i := 4 * 4 - 1) (cs := idCells 4 (row4 H.length) (row4 (H.length + 1))) (by rw [List.append_assoc]; exact getx H _ 2) (by omega) (by simp [idCells])]
    refine ⟨_, _, rfl, ((Le.app _ _).trans (Le.app _ _)).set (by omega), ?_⟩
    rw [List.append_assoc, List.set_append_right _ _ (by omega)]
    simp only [Nat.add_sub_cancel_left, List.cons_append, List.nil_append, List.set_cons_succ, List.set_cons_zero, List.length_append, List.length_cons, List.length_nil, Nat.zero_add]
    have hr : rootE p 4 = lastG p 9 := rfl
    rw [hr]
    have o := or [⟨([row4 (H.length + 1), row4 H.length, row4 H.length, row4 H.length, row4 H.length, row4 (H.length + 1), row4 H.length, row4 H.length, row4 H.length, row4 H.length, row4 (H.length + 1), row4 H.length, row4 H.length, row4 H.length, row4 H.length, row4 (H.length + 3)]).map Sc.sl, .rw, 1⟩, ⟨ics (lastG p 9), .rw, 1⟩]
    have z := zr [⟨([row4 (H.length + 1), row4 H.length, row4 H.length, row4 H.length, row4 H.length, row4 (H.length + 1), row4 H.length, row4 H.length, row4 H.length, row4 H.length, row4 (H.length + 1), row4 H.length, row4 H.length, row4 H.length, row4 H.length, row4 (H.length + 3)]).map Sc.sl, .rw, 1⟩, ⟨ics (lastG p 9), .rw, 1⟩]
    refine i2_of (sls := [row4 (H.length + 1), row4 H.length, row4 H.length, row4 H.length, row4 H.length, row4 (H.length + 1), row4 H.length, row4 H.length, row4 H.length, row4 H.length, row4 (H.length + 1), row4 H.length, row4 H.length, row4 H.length, row4 H.length, row4 (H.length + 3)]) ((getx H _ 2).trans (by simp [idCells, List.range, List.range.loop])) rfl (by omega) ?_
    exact (.cons o (.cons z (.cons z (.cons z (.cons z (.cons o (.cons z (.cons z (.cons z (.cons z (.cons o (.cons z (.cons z (.cons z (.cons z (.cons (rowx (X := [⟨ics zG, .rw, 1⟩, ⟨ics oG, .rw, 1⟩, ⟨_, .rw, 1⟩, ⟨ics (lastG p 9), .rw, 1⟩]) (j := 3) rfl rfl) .nil))))))))))))))))
end Go.Abs
/- Contracts: small parts of circuits' networks. -/
namespace Go.Abs
set_option linter.all false
set_option maxRecDepth 10000

structure NetR (H0 H : AH) (s : Sl) (xs : List Tri) (ts : List Tn) (rs : List Row) : Prop where
  fr : Fr H0 H (rowsT xs ts ++ rs)
  len : xs.length = ts.length
  out : OOut H0.length H s xs
theorem NetS.r {H0 H : AH} {s : Sl} {xs : List Tri} {ts : List Tn} (h : NetS H0 H s xs ts) : NetR H0 H s xs ts [] := ⟨by simpa using h.fr, h.len, h.out⟩
theorem NetR.ext {H0 H H' : AH} {s : Sl} {xs : List Tri} {ts : List Tn} {rs : List Row} (h : NetR H0 H s xs ts rs) (hl : Le H H') : NetR H0 H' s xs ts rs := ⟨h.fr.ext hl, h.len, h.out.le hl⟩
/-- What other rows may be while the tensors stay. -/
theorem NetR.rest {H0 H H' : AH} {s : Sl} {xs : List Tri} {ts : List Tn} {rs qs : List Row} (h : NetR H0 H s xs ts rs) (hF : Fr H0 H' (rowsT xs ts ++ qs)) (hf : ∀ d, d < H.length → (∀ p ∈ rs, p.2 = [] ∨ d ≠ p.1.b) → H'[d]? = H[d]?) : NetR H0 H' s xs ts qs :=
  ⟨hF, h.len, h.out.keep fun hx => hf _ (h.out.lt hx) fun p hp => by
    by_cases e : p.2 = []
    · exact .inl e
    · exact .inr (Ne.symm (h.out.ne hx (h.fr.rows.own p (by simp [hp])) e))⟩
theorem NetR.push {H0 H H1 : AH} {s a b c : Sl} {xs : List Tri} {ts : List Tn} {rs : List Row} {t : Tn} (h : NetR H0 H s xs ts rs) (hl : ts.length ≤ 1048576) (ht : NewT (H ++ [resB]) H1 a b c t) :
    ∃ s' xs' H', (∀ {α : Type} (k : Sl × AH → Option α), ((newAt H1 (H.length + 0) 3 [.sl a, .sl b, .sl c]).bind fun h => (rng h.2 h.1 0 (1 * 3)).bind fun l => (appB h.2 3 72 s l 1).bind k) = k (s', H')) ∧
      NetR H0 H' s' xs' (ts ++ [t]) rs := by
  obtain ⟨s', H', e, F, O, l, f⟩ := push_tensor h.fr h.out (by rw [h.len]; exact hl) ht
  exact ⟨s', xs ++ [(a, b, c)], H', e, F.snocT h.len, by simp [h.len], O⟩
theorem Fr.low {H H0 H' : AH} {rs : List Row} (h : Fr H0 H' rs) (hl : Le H H0) : Fr H H' rs := ⟨hl.trans h.le, h.rows.low hl.len⟩
theorem OOut.low {n0 n1 : Nat} {H : AH} {s : Sl} {xs : List Tri} (h : OOut n0 H s xs) (hn : n1 ≤ n0) : OOut n1 H s xs := ⟨h.o, h.n, h.c, h.blk.imp id fun ⟨a, b, c⟩ => ⟨a, Nat.le_trans hn b, c⟩⟩
theorem NetR.low {H H0 H' : AH} {s : Sl} {xs : List Tri} {ts : List Tn} {rs : List Row} (h : NetR H0 H' s xs ts rs) (hl : Le H H0) : NetR H H' s xs ts rs := ⟨h.fr.low hl, h.len, h.out.low hl.len⟩
/-- A frame beside a row of tensors of its own. -/
structure FrN (H0 H : AH) (rs : List Row) (o : Sl) (xo : List Tri) : Prop where
  fr : Fr H0 H rs
  out : OOut H0.length H o xo
theorem Fr.n {H0 H : AH} {rs : List Row} (h : Fr H0 H rs) (b : Nat) : FrN H0 H rs ⟨b, 0, 0, 0, true⟩ [] := ⟨h, OOut.nil _ _ _⟩
section
variable {H0 H H' : AH} {rs : List Row} {o : Sl} {xo : List Tri}
theorem FrN.own (h : FrN H0 H rs o xo) {s : Sl} {l : List Int} (hp : (s, l) ∈ rs) : Own H0.length H s l := h.fr.own hp
theorem FrN.is (h : FrN H0 H rs o xo) {s : Sl} {l : List Int} (hp : (s, l) ∈ rs) : IS H s l := h.fr.is hp
theorem FrN.ext (h : FrN H0 H rs o xo) (k : Le H H') : FrN H0 H' rs o xo := ⟨h.fr.ext k, h.out.le k⟩
theorem FrN.perm (h : FrN H0 H rs o xo) {qs : List Row} (hp : qs.Perm rs) : FrN H0 H qs o xo := ⟨h.fr.perm hp, h.out⟩
theorem FrN.sub (h : FrN H0 H rs o xo) {qs : List Row} (hp : qs.Sublist rs) : FrN H0 H qs o xo := ⟨h.fr.sub hp, h.out⟩
theorem FrN.new (h : FrN H0 H rs o xo) {s : Sl} {l : List Int} (hle : Le H H') (ho : Own H.length H' s l) : FrN H0 H' ((s, l) :: rs) o xo := ⟨h.fr.new hle ho, h.out.le hle⟩
theorem FrN.newN (h : FrN H0 H rs o xo) {s : Sl} {l : List Int} (k : New H H' s l) : FrN H0 H' ((s, l) :: rs) o xo := h.new k.le k.own
theorem FrN.newT (h : FrN H0 H rs o xo) {a b c : Sl} {t : Tn} (k : NewT H H' a b c t) : FrN H0 H' ((a, t.L) :: (b, t.D) :: (c, t.X) :: rs) o xo := ⟨h.fr.newT k, h.out.le k.le⟩
theorem FrN.empty (h : FrN H0 H rs o xo) (b : Nat) : FrN H0 H ((⟨b, 0, 0, 0, true⟩, []) :: rs) o xo := ⟨h.fr.empty b, h.out⟩
theorem FrN.mut (xs : List Row) {ys : List Row} {s : Sl} {l l' : List Int} (h : FrN H0 H (xs ++ (s, l) :: ys) o xo) (m : Mut H0.length H H' s l l') (he : l = [] → l' = []) : FrN H0 H' (xs ++ (s, l') :: ys) o xo :=
  ⟨h.fr.mut xs m he, h.out.keep fun hx => m.fr _ (by
    by_cases e : l = []
    · exact .inr e
    · exact .inl (Ne.symm (h.out.ne hx (h.fr.own (s := s) (l := l) (by simp)) e)))⟩
theorem FrN.app (xs : List Row) {ys : List Row} {s : Sl} {l m : List Int} (h : FrN H0 H (xs ++ (s, l) :: ys) o xo) (hl : l.length + m.length ≤ 134217728) :
    ∃ s' H', appB H 1 8 s (ics m) m.length = some (s', H') ∧ FrN H0 H' (xs ++ (s', l ++ m) :: ys) o xo ∧ H.length ≤ H'.length := by
  obtain ⟨s', H', e, F, l1⟩ := h.fr.app xs hl
  obtain ⟨s2, H2, e', o2, l2, f2, g2, g3⟩ := app_own h.fr.le.len (h.fr.own (s := s) (l := l) (by simp)) hl
  rw [e] at e'; cases e'
  exact ⟨s', H', e, ⟨F, h.out.keep fun hx => f2 _ (h.out.lt hx) (by
    by_cases e : l = []
    · exact .inr e
    · exact .inl (Ne.symm (h.out.ne hx (h.fr.own (s := s) (l := l) (by simp)) e)))⟩, l1⟩
theorem FrN.push (xs : List Row) {ys : List Row} {s : Sl} {l : List Int} (h : FrN H0 H (xs ++ (s, l) :: ys) o xo) (hl : l.length < 134217728) (v : Int) :
    ∃ s' H', (∀ {α : Type} (k : Sl × AH → Option α), ((newB H 1 [.int .i64 v]).bind fun h => (rng h.2 h.1 0 (1 * 1)).bind fun q => (appB h.2 1 8 s q 1).bind k) = k (s', H')) ∧ FrN H0 H' (xs ++ (s', l ++ [v]) :: ys) o xo := by
  obtain ⟨s', H', e, o1, l1, f, f3⟩ := push_own h.fr.le.len (h.fr.own (s := s) (l := l) (by simp)) hl v
  obtain ⟨s2, H2, e2, F2⟩ := h.fr.push xs hl v
  have hs : (s', H') = (s2, H2) := Option.some.inj ((e some).symm.trans (e2 some))
  cases hs
  exact ⟨s', H', e, ⟨F2, h.out.keep fun hx => f _ (h.out.lt hx) (by
    by_cases e : l = []
    · exact .inr e
    · exact .inl (Ne.symm (h.out.ne hx (h.fr.own (s := s) (l := l) (by simp)) e)))⟩⟩
end
/-- impl.firstLabels -/
theorem c_ifirstLabels (n : Nat) (hn : n ≤ 1048576) (H : AH) : R (.fn F.ifirstLabels) [isc (n : Int)] H = some ⟨1, [ssc (rowAt H.length ((List.range n).map fun i : Nat => (i : Int)))], H ++ [⟨ics ((List.range n).map fun i : Nat => (i : Int)), .rw, 1⟩]⟩ := by
  rw [R_eq, e_ifirstLabels, mk_ints (by omega)]
  simp only [Option.bind_some]
  have := fill_up (β := Option Out) (F := fun i Hc => R (.loop F.ifirstLabels 0) [ssc ⟨H.length, 0, n, n, true⟩, isc (n : Int), isc (i : Int)] Hc) (H := H ++ [⟨ics (List.replicate n 0), .rw, 1⟩]) (b := H.length) (n := n) (fun i => (i : Int))
    (fun i cs hi hl => by
      rw [R_eq, e_ifirstLabels_0, lt_true hi, w1 hi (by omega), cond_true, st_own0 (set_get app_get) hi (by omega), set_set]) (List.replicate n 0) (by simp)
  rw [app_set] at this
  have this : R (.loop F.ifirstLabels 0) [ssc ⟨H.length, 0, n, n, true⟩, isc (n : Int), isc 0] (H ++ [⟨ics (List.replicate n 0), .rw, 1⟩]) = _ := this
  rw [this, R_eq, e_ifirstLabels_0, lt_self, app_set]
  simp

end Go.Abs
/- Words: rows of cells of their own; the state of an order that is followed. -/
namespace Go.Abs
set_option linter.all false
set_option maxRecDepth 10000

/-- A row of cells of its own, elements of a size. -/
structure CO (z n0 : Nat) (H : AH) (s : Sl) (cells : List Sc) : Prop where
  o : s.o = 0
  n : s.n * z = cells.length
  c : s.c = s.n
  blk : (cells = [] ∧ s.x = true ∧ s.n = 0) ∨ (cells ≠ [] ∧ n0 ≤ s.b ∧ H[s.b]? = some ⟨cells, .rw, z⟩)
theorem CO.nil (z n0 : Nat) (H : AH) (b : Nat) : CO z n0 H ⟨b, 0, 0, 0, true⟩ [] := ⟨rfl, by simp, rfl, .inl ⟨rfl, rfl, rfl⟩⟩
theorem CO.keep {z n0 : Nat} {H H' : AH} {s : Sl} {cells : List Sc} (h : CO z n0 H s cells) (hb : cells ≠ [] → H'[s.b]? = H[s.b]?) : CO z n0 H' s cells :=
  ⟨h.o, h.n, h.c, h.blk.imp id fun ⟨h1, h2, h3⟩ => ⟨h1, h2, (hb h1).trans h3⟩⟩
theorem CO.lt {z n0 : Nat} {H : AH} {s : Sl} {cells : List Sc} (h : CO z n0 H s cells) (hc : cells ≠ []) : s.b < H.length := by
  rcases h.blk with ⟨e, _⟩ | ⟨_, _, e⟩
  · exact absurd e hc
  · exact (List.getElem?_eq_some_iff.1 e).1
theorem CO.le {z n0 : Nat} {H H' : AH} {s : Sl} {cells : List Sc} (h : CO z n0 H s cells) (hl : Le H H') : CO z n0 H' s cells := h.keep fun hc => hl.get _ (h.lt hc)
theorem CO.ne {z n0 n1 : Nat} {H : AH} {s u : Sl} {cells : List Sc} {l : List Int} (h : CO z n0 H s cells) (hc : cells ≠ []) (hz : z ≠ 1) (ho : Own n1 H u l) (hl : l ≠ []) : u.b ≠ s.b := fun e => by
  have h1 := ho.blk' hl
  rcases h.blk with ⟨e', _⟩ | ⟨_, _, h2⟩
  · exact absurd e' hc
  · rw [e, h2] at h1
    have := congrArg (fun o : Option Blk => o.map (·.z)) h1
    simp at this
    exact hz this
/-- An element is put at the end. -/
theorem CO.push {z by_ n0 : Nat} {H : AH} {s : Sl} {cells new : List Sc} (h : CO z n0 H s cells) (hn0 : n0 ≤ H.length) (hz : z ≠ 0) (hb : by_ ≠ 0) (hn : new.length = z) (hm : (s.n + 1) * by_ ≤ most) :
    ∃ s' H', appB H z by_ s new 1 = some (s', H') ∧ CO z n0 H' s' (cells ++ new) ∧ s'.n = s.n + 1 ∧ H.length ≤ H'.length ∧ (∀ d, d < H.length → (d ≠ s.b ∨ cells = []) → H'[d]? = H[d]?) := by
  have hrng : rng H s.b s.o (s.n * z) = some cells := by
    unfold rng
    rcases h.blk with ⟨e, _, e0⟩ | ⟨e, _, h2⟩
    · subst e; rw [if_pos (by rw [e0]; simp)]
    · have : cells.length ≠ 0 := fun h => e (List.length_eq_zero_iff.1 h)
      rw [if_neg (by rw [h.n]; exact this)]
      have hr : rdB H s.b = some cells := by unfold rdB; rw [h2]; rfl
      rw [hr]
      simp only [Option.bind_some]
      rw [if_pos (by rw [h.o, h.n]; omega), h.o]
      simp only [List.drop_zero]
      rw [List.take_of_length_le (by rw [h.n]; exact Nat.le_refl _)]
  have hne : cells ++ new ≠ [] := fun e => by
    have := (List.append_eq_nil_iff.1 e).2
    rw [this] at hn; simp at hn; omega
  unfold appB
  rw [if_neg (by rw [h.c]; omega), if_pos ⟨hz, hb, hm⟩, hrng]
  simp only [Option.bind_some]
  by_cases hx : s.x = true
  · simp only [hx]
    refine ⟨_, _, rfl, ⟨rfl, ?_, rfl, .inr ⟨hne, hn0, by simp⟩⟩, rfl, by simp, fun d hd _ => List.getElem?_append_left hd⟩
    rw [List.length_append, hn, Nat.add_mul, h.n]; omega
  · have hx' : s.x = false := by cases e : s.x <;> simp_all
    simp only [hx']
    have hb' : cells ≠ [] ∧ n0 ≤ s.b ∧ H[s.b]? = some ⟨cells, .rw, z⟩ := by
      rcases h.blk with ⟨_, e, _⟩ | h
      · exact absurd e hx
      · exact h
    have hrw : rwB H s.b z = some cells := by unfold rwB; rw [hb'.2.2]; simp
    simp only [hrw, Option.bind_some]
    have hk : (killB H s.b).length = H.length := by simp [killB]
    refine ⟨_, _, rfl, ⟨rfl, ?_, rfl, .inr ⟨hne, hn0, ?_⟩⟩, rfl, by simp [hk], fun d hd h => ?_⟩
    · rw [List.length_append, hn, Nat.add_mul, h.n]; omega
    · have : H.length = (killB H s.b).length := hk.symm
      show (killB H s.b ++ _)[H.length]? = _
      rw [this]; simp
    · rcases h with h | h
      · rw [List.getElem?_append_left (by omega)]
        unfold killB
        rw [List.getElem?_modify]
        have : ¬ s.b = d := fun e => h e.symm
        simp [this]
      · exact absurd h hb'.1

/-- A tensor that is there: its number, its labels. -/
structure LE where
  n : Int
  s : Sl
  l : List Int
def lcells (v : List LE) : List Sc := v.flatMap fun x => [.int .i64 x.n, .sl x.s]
def lrows (v : List LE) : List Row := v.map fun x => (x.s, x.l)
theorem lcells_get : ∀ (v : List LE) (i : Nat) (x : LE), v[i]? = some x → (lcells v)[i * 2]? = some (.int .i64 x.n) ∧ (lcells v)[i * 2 + 1]? = some (.sl x.s)
  | [], i, x, h => by simp at h
  | y :: v, 0, x, h => by simp at h; subst h; simp [lcells]
  | y :: v, i + 1, x, h => by
    have := lcells_get v i x (by simpa using h)
    have e : (i + 1) * 2 = i * 2 + 2 := by omega
    have e2 : lcells (y :: v) = [Sc.int .i64 y.n, Sc.sl y.s] ++ lcells v := rfl
    have e3 : i * 2 + 2 + 1 = (i * 2 + 1) + 2 := by omega
    rw [e2, e, e3]
    refine ⟨?_, ?_⟩
    · rw [List.getElem?_append_right (by simp)]; simpa using this.1
    · rw [List.getElem?_append_right (by simp)]; simpa using this.2
/-- A row of such tensors reads so. -/
structure LR (H : AH) (s : Sl) (v : List LE) : Prop where
  n : s.n = v.length
  o : s.o = 0
  rd : v = [] ∨ rdB H s.b = some (lcells v)
theorem LR.ld {H : AH} {s : Sl} {v : List LE} (h : LR H s v) {i : Nat} (hi : i < v.length) {α : Type} (k : Int → Sl → Option α) :
    ((ixA s (i : Int) 2).bind fun o => (rdB H s.b).bind fun q => (intAt .i64 q o).bind fun x => (slAt q (o + 1)).bind fun y => k x y) = k v[i].n v[i].s := by
  obtain ⟨g1, g2⟩ := lcells_get v i _ (List.getElem?_eq_getElem hi)
  rcases h.rd with e | hc
  · rw [e] at hi; simp at hi
  · rw [ixA_nat (by rw [h.n]; exact hi), h.o, Nat.zero_add]
    simp only [Option.bind_some, hc, intAt_get g1, slAt_get g2]
/-- impl.joinLabels -/
def joinL (a b : List Int) : List Int := a ++ colF (fun _ x => if (a.any fun y => x == y) then none else some x) b 0
structure OS (H0 H : AH) (bs : Nat) (D op : List Int) (so sl : Sl) (next : Nat) (v : List LE) : Prop where
  fr : Fr H0 H (lrows v)
  out : CO 2 H0.length H sl (lcells v)
  blk : H[bs]? = some ⟨ics D ++ [.sl so, .sl sl, .int .i64 (next : Int)], .rw, 103⟩
  lo : H0.length ≤ bs
  dl : D.length = 100
  op : IS H0 so op
theorem OS.rd {H0 H : AH} {bs : Nat} {D op : List Int} {so sl : Sl} {next : Nat} {v : List LE} (h : OS H0 H bs D op so sl next v) : rdB H bs = some (ics D ++ [.sl so, .sl sl, .int .i64 (next : Int)]) := by unfold rdB; rw [h.blk]; rfl
end Go.Abs
/- Contracts: an order is followed: a step. -/
namespace Go.Abs
set_option linter.all false
set_option maxRecDepth 10000

/-- Has another tensor the label? -/
def keptF (x : Int) (i j : Nat) : List LE → Nat → Bool
  | [], _ => false
  | t :: v, k => (k != i && k != j && t.l.any fun y => x == y) || keptF x i j v (k + 1)
def resL (op : List Int) (v : List LE) (i j : Nat) : List Int :=
  colF (fun _ x => if (op.any fun y => x == y) || keptF x i j v 0 then some x else none) (joinL (v.getD i ⟨0, ⟨0, 0, 0, 0, true⟩, []⟩).l (v.getD j ⟨0, ⟨0, 0, 0, 0, true⟩, []⟩).l) 0
def dropF (i j : Nat) : List LE → Nat → List LE
  | [], _ => []
  | t :: v, k => if k != i && k != j then t :: dropF i j v (k + 1) else dropF i j v (k + 1)
theorem dropF_sub (i j : Nat) : ∀ (v : List LE) (k : Nat), (dropF i j v k).Sublist v
  | [], _ => .slnil
  | t :: v, k => by
    unfold dropF
    split
    · exact .cons₂ _ (dropF_sub i j v (k + 1))
    · exact .cons _ (dropF_sub i j v (k + 1))
theorem getD_le {v : List LE} {i : Nat} (h : i < v.length) (d : LE) : v.getD i d = v[i] := by simp [List.getD_eq_getElem?_getD, h]
theorem OS.ext {H0 H H' : AH} {bs : Nat} {D op : List Int} {so sl : Sl} {next : Nat} {v : List LE} (h : OS H0 H bs D op so sl next v) (hl : Le H H') : OS H0 H' bs D op so sl next v :=
  ⟨h.fr.ext hl, h.out.le hl, by rw [hl.get _ (List.getElem?_eq_some_iff.1 h.blk).1]; exact h.blk, h.lo, h.dl, h.op⟩
/-- The state behind a step. -/
def stepV (op : List Int) (v : List LE) (next i j : Nat) (s : Sl) : List LE := dropF i j v 0 ++ [⟨(next : Int), s, resL op v i j⟩]
end Go.Abs
/- Contracts: orders (impl). -/
namespace Go.Abs
set_option linter.all false
set_option maxRecDepth 10000

structure Sp where
  a : Int
  b : Int
def S2 (H : AH) (s : Sl) (ps : List Sp) : Prop := s.n = ps.length ∧ s.n ≤ s.c ∧ (ps = [] ∨ ∃ cs, rdB H s.b = some cs ∧ ∀ (i : Nat) g, ps[i]? = some g → cs[s.o + i * 2]? = some (.int .i64 g.a) ∧ cs[s.o + i * 2 + 1]? = some (.int .i64 g.b))
theorem S2.le {H H' : AH} (h : Go.Abs.Le H H') {s : Sl} {ps : List Sp} (k : S2 H s ps) : S2 H' s ps := ⟨k.1, k.2.1, k.2.2.imp id fun ⟨cs, h1, h2⟩ => ⟨cs, h.rdB h1, h2⟩⟩
theorem S2.ld {H : AH} {s : Sl} {ps : List Sp} (h : S2 H s ps) {i : Nat} (hi : i < ps.length) {α : Type} (k : Int → Int → Option α) :
    ((ixA s (i : Int) 2).bind fun o => (rdB H s.b).bind fun q => (intAt .i64 q o).bind fun x => (intAt .i64 q (o + 1)).bind fun y => k x y) = k ps[i].a ps[i].b := by
  obtain ⟨h1, h2, e | ⟨cs, hc, hg⟩⟩ := h
  · rw [e] at hi; simp at hi
  · obtain ⟨g1, g2⟩ := hg i _ (List.getElem?_eq_getElem hi)
    rw [ixA_nat (by omega)]
    simp only [Option.bind_some, hc, intAt_get g1, intAt_get g2]

end Go.Abs
/- Contracts: orders: the start (impl); the reference's check; they agree. -/
namespace Go.Abs
set_option linter.all false
set_option maxRecDepth 10000

end Go.Abs
/- Contracts: orders (spec): the same answer. -/
namespace Go.Abs
set_option linter.all false
set_option maxRecDepth 10000

end Go.Abs
/- Pure: slices of tensors: how many places have a digit zero; steps of offsets. -/
namespace Go.Abs
set_option linter.all false

def cnt (p : Nat → Bool) : Nat → Nat
  | 0 => 0
  | n + 1 => cnt p n + if p n then 1 else 0
/-- The step of each axis, the last axis first. -/
def strR : Int → List Int → List Int
  | _, [] => []
  | s, d :: r => s :: strR (s * d) r
def dotL : List Int → List Int → Int
  | a :: l, b :: m => a * b + dotL l m
  | _, _ => 0
theorem strR_len : ∀ (s : Int) (r : List Int), (strR s r).length = r.length
  | _, [] => rfl
  | s, d :: r => by simp [strR, strR_len]
theorem dot_strR : ∀ {r x : List Int} (s : Int), x.length = r.length → dotL (strR s r) x = s * offR r x
  | [], [], s, _ => by simp [dotL, strR, offR]
  | d :: r, x :: xs, s, h => by
    simp only [strR, dotL, offR]
    rw [dot_strR (s * d) (by simpa using h), Int.mul_add, Int.mul_comm (offR r xs) d, Int.mul_assoc]
    omega
  | [], _ :: _, _, h => by simp at h
  | _ :: _, [], _, h => by simp at h
theorem dot_app : ∀ {a b c d : List Int}, a.length = b.length → dotL (a ++ c) (b ++ d) = dotL a b + dotL c d
  | [], [], c, d, _ => by simp [dotL]
  | x :: a, y :: b, c, d, h => by
    simp only [List.cons_append, dotL]
    rw [dot_app (by simpa using h)]; omega
  | [], _ :: _, _, _, h => by simp at h
  | _ :: _, [], _, _, h => by simp at h
theorem dot_rev : ∀ {a b : List Int}, a.length = b.length → dotL a.reverse b.reverse = dotL a b
  | [], [], _ => rfl
  | x :: a, y :: b, h => by
    have hl : a.length = b.length := by simpa using h
    rw [List.reverse_cons, List.reverse_cons, dot_app (by simpa using hl), dot_rev hl]
    simp only [dotL]; omega
  | [], _ :: _, h => by simp at h
  | _ :: _, [], h => by simp at h
def strF (D : List Int) : List Int := (strR 1 D.reverse).reverse
theorem strF_len (D : List Int) : (strF D).length = D.length := by simp [strF, strR_len]
theorem dot_strF {D I : List Int} (h : I.length = D.length) : dotL (strF D) I = offF D I := by
  have : dotL (strF D) I = dotL (strR 1 D.reverse) I.reverse := by
    rw [← dot_rev (a := strR 1 D.reverse) (b := I.reverse) (by simp [strR_len, h])]
    simp [strF]
  rw [this, dot_strR 1 (by simp [h])]
  simp [offF]
end Go.Abs
/- Pure: orders followed by numbers, what each step costs. -/
namespace Go.Abs
set_option linter.all false

end Go.Abs
/- Contracts: labels of a network, slices. -/
namespace Go.Abs
set_option linter.all false
set_option maxRecDepth 10000

end Go.Abs
/- Contracts: slice counts, jobs and sessions. -/
namespace Go.Abs
set_option linter.all false
set_option maxRecDepth 10000

/-- impl.equalInts -/
theorem c_iequalInts {H : AH} {a b : Sl} {l m : List Int} (ha : IS H a l) (hb : IS H b m) (hl : l.length ≤ 1048576) : R (.fn F.iequalInts) [ssc a, ssc b] H = some ⟨1, [bsc (l == m)], H⟩ := by
  rw [R_eq, e_iequalInts, ha.n, hb.n]
  by_cases he : l.length = m.length
  · rw [he, ne_i]
    simp only [cond_false]
    have := loopG (F := fun i : Nat => R (.loop F.iequalInts 0) [ssc a, ssc b, isc (l.length : Int), isc (i : Int)] H) (l := l) (fun r i => if (r == m.drop i) then some ⟨2, [], H⟩ else some ⟨1, [bsc false], H⟩)
      (by rw [R_eq, e_iequalInts_0, lt_self]; rw [he, List.drop_eq_nil_of_le (Nat.le_refl _)]; rfl) (fun i hi r hr => by
        have hi2 : i < m.length := by omega
        rw [R_eq, e_iequalInts_0, lt_true hi, w1 hi (by omega), cond_true, ha.ldk hi, hb.ldk hi2]
        rw [List.drop_eq_getElem_cons hi2]
        by_cases hx : l[i] = m[i]
        · rw [hx, ne_i]
          simp only [cond_false, List.cons_beq_cons, BEq.rfl, Bool.true_and]
          exact hr
        · have hx' : (l[i] != m[i]) = true := bne_iff_ne.2 hx
          have hx2 : (l[i] == m[i]) = false := by simp [hx]
          simp only [hx', cond_true, List.cons_beq_cons, hx2, Bool.false_and, Bool.false_eq_true, if_false])
    have this : R (.loop F.iequalInts 0) [ssc a, ssc b, isc (l.length : Int), isc 0] H = if (l == m) then some ⟨2, [], H⟩ else some ⟨1, [bsc false], H⟩ := this
    rw [← he, this]
    cases l == m <;> rfl
  · have h1 : (((l.length : Nat) : Int) != ((m.length : Nat) : Int)) = true := bne_iff_ne.2 (by omega)
    have h2 : (l == m) = false := by
      rw [Bool.eq_false_iff]
      intro e
      exact he (by rw [eq_of_beq e])
    rw [h1, h2]; rfl
/-- spec.l06Equal -/
theorem c_sl06Equal {H : AH} {a b : Sl} {l m : List Int} (ha : IS H a l) (hb : IS H b m) (hl : l.length ≤ 1048576) : R (.fn F.sl06Equal) [ssc a, ssc b] H = some ⟨1, [bsc (l == m)], H⟩ := by
  rw [R_eq, e_sl06Equal, ha.n, hb.n]
  have := loopG (F := fun i : Nat => R (.loop F.sl06Equal 0) [ssc b, ssc a, isc (l.length : Int), isc (i : Int)] H) (l := l) (fun r i => if (r == (m.drop i).take (l.length - i)) then some ⟨2, [], H⟩ else some ⟨1, [bsc false], H⟩)
    (by rw [R_eq, e_sl06Equal_0, lt_self]; simp) (fun i hi r hr => by
      rw [R_eq, e_sl06Equal_0, lt_true hi, w1 hi (by omega), cond_true, ha.ldk hi, hb.n]
      by_cases hi2 : i < m.length
      · rw [decide_eq_false (by omega), cond_false, hb.ldk hi2, List.drop_eq_getElem_cons hi2, show l.length - i = (l.length - (i + 1)) + 1 by omega, List.take_succ_cons]
        by_cases hx : l[i] = m[i]
        · rw [hx, ne_i]
          simp only [cond_false, List.cons_beq_cons, BEq.rfl, Bool.true_and]
          exact hr
        · have hx' : (m[i] != l[i]) = true := bne_iff_ne.2 (Ne.symm hx)
          have hx2 : (l[i] == m[i]) = false := by simp [hx]
          simp only [hx', cond_true, List.cons_beq_cons, hx2, Bool.false_and, Bool.false_eq_true, if_false]
      · rw [decide_eq_true (by omega), List.drop_eq_nil_of_le (by omega)]
        simp only [cond_true, List.take_nil]
        rfl)
  have this : R (.loop F.sl06Equal 0) [ssc b, ssc a, isc (l.length : Int), isc 0] H = if (l == m.take l.length) then some ⟨2, [], H⟩ else some ⟨1, [bsc false], H⟩ := this
  rw [this]
  by_cases he : l = m
  · subst he
    rw [List.take_length, if_pos (by simp)]
    simp [oneP, nthP]
    rfl
  · have h2 : (l == m) = false := by rw [Bool.eq_false_iff]; intro e; exact he (eq_of_beq e)
    rw [h2]
    by_cases hp : l == m.take l.length
    · rw [if_pos hp]
      have hp := eq_of_beq hp
      have hlen : ¬ l.length = m.length := fun e => he (by rw [e, List.take_length] at hp; exact hp)
      have : (((l.length : Nat) : Int) == ((m.length : Nat) : Int)) = false := by simp; omega
      simp only [Option.bind_some, Nat.beq, cond_true, cond_false, this]
    · rw [if_neg hp]; rfl
end Go.Abs
/- Contracts: jobs and sessions. -/
namespace Go.Abs
set_option linter.all false
set_option maxRecDepth 10000

structure JB where
  sl : List Int
  ps : List Sp
  nx : Int
  t : Tn
structure JS (H : AH) (v sp a b c : Sl) (j : JB) : Prop where
  v : IS H v j.sl
  ps : S2 H sp j.ps
  t : TS H a b c j.t
theorem JS.le {H H' : AH} (h : Go.Abs.Le H H') {v sp a b c : Sl} {j : JB} (k : JS H v sp a b c j) : JS H' v sp a b c j := ⟨k.v.le h, k.ps.le h, k.t.le h⟩
structure SB where
  n : Nw
  ps : List Sp
  j : JB
structure SS (H : AH) (s u sp v jp a b c : Sl) (g : SB) : Prop where
  n : NS H s u g.n
  ps : S2 H sp g.ps
  j : JS H v jp a b c g.j
theorem SS.le {H H' : AH} (h : Go.Abs.Le H H') {s u sp v jp a b c : Sl} {g : SB} (k : SS H s u sp v jp a b c g) : SS H' s u sp v jp a b c g := ⟨k.n.le h, k.ps.le h, k.j.le h⟩
end Go.Abs
/- What the results of calls are taken apart to. Printed by clgen.py. -/
namespace Go.Abs
set_option linter.all false
end Go.Abs
/- Contracts: the law's own helpers for tensors, networks, steps, jobs and sessions. -/
namespace Go.Abs
set_option linter.all false
set_option maxRecDepth 10000

theorem maxLen_le : maxLen ≤ 9223372036854775807 := by decide
theorem z_ints {H : AH} {s : Sl} {l : List Int} (h : IS H s l) (hm : l.length ≤ maxLen) {left : Int} (h0 : 0 ≤ left) (h1 : left ≤ 1048576) :
    ∃ v, R (.fn F.wszIntS) [ssc s, isc left] H = some ⟨1, [isc v], H⟩ ∧ (v < 0 ∨ (0 ≤ v ∧ v ≤ 1048576 ∧ l.length ≤ 1048576)) := by
  have hx := maxLen_le
  have hn := h.n
  refine ⟨_, c_wszIntS s left h0 h1 (by omega) H, ?_⟩
  by_cases hg : left - (s.n : Int) < 0
  · rw [if_pos hg]; exact .inl (by omega)
  · rw [if_neg hg]; exact .inr ⟨by omega, by omega, by omega⟩
def TnMax (t : Tn) : Prop := t.L.length ≤ maxLen ∧ t.D.length ≤ maxLen ∧ t.X.length ≤ maxLen
theorem z_tensor {H : AH} {a b c : Sl} {t : Tn} (h : TS H a b c t) (hm : TnMax t) {left : Int} (h0 : 0 ≤ left) (h1 : left ≤ 1048576) :
    ∃ v, R (.fn F.wszTensor) [tpv a b c, isc left] H = some ⟨1, [isc v], H⟩ ∧ (v < 0 ∨ (0 ≤ v ∧ v ≤ 1048576 ∧ TnSmall t)) := by
  rw [R_eq, e_wszTensor]
  obtain ⟨v1, e1, g1 | ⟨g1, k1, m1⟩⟩ := z_ints h.L hm.1 h0 h1
  · exact ⟨-1, by rw [e1]; simp only [Option.bind_some, one_int, decide_eq_true g1, cond_true], .inl (by omega)⟩
  obtain ⟨v2, e2, g2 | ⟨g2, k2, m2⟩⟩ := z_ints h.D hm.2.1 g1 k1
  · exact ⟨-1, by rw [e1]; simp only [Option.bind_some, one_int, decide_eq_false (Int.not_lt.2 g1), cond_false]; rw [e2]; simp only [Option.bind_some, one_int, decide_eq_true g2, cond_true], .inl (by omega)⟩
  obtain ⟨v3, e3, g3 | ⟨g3, k3, m3⟩⟩ := z_ints h.X hm.2.2 g2 k2
  · exact ⟨-1, by rw [e1]; simp only [Option.bind_some, one_int, decide_eq_false (Int.not_lt.2 g1), cond_false]; rw [e2]; simp only [Option.bind_some, one_int, decide_eq_false (Int.not_lt.2 g2), cond_false]; rw [e3]; simp only [Option.bind_some, one_int, decide_eq_true g3, cond_true], .inl (by omega)⟩
  · exact ⟨v3, by rw [e1]; simp only [Option.bind_some, one_int, decide_eq_false (Int.not_lt.2 g1), cond_false]; rw [e2]; simp only [Option.bind_some, one_int, decide_eq_false (Int.not_lt.2 g2), cond_false]; rw [e3]; simp only [Option.bind_some, one_int, decide_eq_false (Int.not_lt.2 g3), cond_false], .inr ⟨g3, k3, m1, m2, m3⟩⟩
theorem TS.set {H : AH} {a b c : Sl} {t : Tn} (h : TS H a b c t) {q : Nat} {k : Blk} (h1 : a.b ≠ q) (h2 : b.b ≠ q) (h3 : c.b ≠ q) : TS (H.set q k) a b c t := ⟨h.L.set fun _ => h1, h.D.set fun _ => h2, h.X.set fun _ => h3⟩
end Go.Abs
/- Plans: small contracts. -/
namespace Go.Abs
set_option linter.all false
set_option maxRecDepth 10000

/-- The sizes of a state's labels. -/
structure DmOk (D : List Int) (dm : Int → Int) : Prop where
  len : D.length = 100
  get : ∀ y : Int, 0 ≤ y → y ≤ 99 → D.getD y.toNat 0 = dm y
/-- Labels whose sizes are known. -/
def LabsOk (dm : Int → Int) (l : List Int) : Prop := ∀ x ∈ l, 0 ≤ x ∧ x ≤ 99 ∧ 1 ≤ dm x ∧ dm x ≤ 8
end Go.Abs
/- Plans: what an order costs (impl). -/
namespace Go.Abs
set_option linter.all false
set_option maxRecDepth 10000

def LvOk (dm : Int → Int) (v : List LE) : Prop := ∀ t ∈ v, LabsOk dm t.l
theorem LabsOk.join {dm : Int → Int} {a b : List Int} (ha : LabsOk dm a) (hb : LabsOk dm b) : LabsOk dm (joinL a b) := fun x hx => by
  unfold joinL at hx
  rcases List.mem_append.1 hx with h | h
  · exact ha x h
  · obtain ⟨j, y, hy, e⟩ := colF_mem h
    split at e
    · cases e
    · cases e; exact hb _ hy
theorem resL_sub {op : List Int} {v : List LE} {i j : Nat} (hi : i < v.length) (hj : j < v.length) : ∀ x ∈ resL op v i j, x ∈ joinL v[i].l v[j].l := fun x hx => by
  unfold resL at hx
  rw [getD_le hi, getD_le hj] at hx
  obtain ⟨k, y, hy, e⟩ := colF_mem hx
  split at e
  · cases e; exact hy
  · cases e
theorem LvOk.step {dm : Int → Int} {op : List Int} {v : List LE} {next i j : Nat} {s : Sl} (h : LvOk dm v) (hi : i < v.length) (hj : j < v.length) : LvOk dm (stepV op v next i j s) := fun t ht => by
  unfold stepV at ht
  rcases List.mem_append.1 ht with h1 | h1
  · exact h t ((dropF_sub i j v 0).subset h1)
  · simp at h1; subst h1
    exact fun x hx => (LabsOk.join (h _ (List.getElem_mem hi)) (h _ (List.getElem_mem hj))) x (resL_sub hi hj x hx)
end Go.Abs
/- Plans: peak and cost of an order (impl). -/
namespace Go.Abs
set_option linter.all false
set_option maxRecDepth 10000

theorem OS.keep {H0 H H' : AH} {bs : Nat} {D op : List Int} {so sl : Sl} {next : Nat} {v : List LE} (h : OS H0 H bs D op so sl next v) (hl : Go.Abs.Le H0 H') (hr : ∀ t ∈ v, t.l ≠ [] → H'[t.s.b]? = H[t.s.b]?) (hs : lcells v ≠ [] → H'[sl.b]? = H[sl.b]?) (hb : H'[bs]? = H[bs]?) : OS H0 H' bs D op so sl next v :=
  ⟨⟨hl, h.fr.rows.frame fun p hp hne => by
    obtain ⟨t, ht, rfl⟩ := List.mem_map.1 hp
    exact hr t ht hne⟩, h.out.keep hs, by rw [hb]; exact h.blk, h.lo, h.dl, h.op⟩
end Go.Abs
/- Plans: the cost of an order; copies of steps. -/
namespace Go.Abs
set_option linter.all false
set_option maxRecDepth 10000

end Go.Abs
/- Pure: steps of the axes that are left. -/
namespace Go.Abs
set_option linter.all false

def updS (m S : List Int) (l step : Int) : List Int := (m.zip S).map fun x => if x.1 == l then step else x.2
theorem updS_len {m S : List Int} (h : S.length = m.length) (l step : Int) : (updS m S l step).length = m.length := by simp [updS, h]
def strG (m : List Int) : List Int → List Int → Int → List Int → List Int
  | l :: Lr, d :: Dr, step, S => strG m Lr Dr (step * d) (updS m S l step)
  | _, _, _, S => S
def valS (x : Int) : List Int → List Int → Int → Int → Int
  | l :: Lr, d :: Dr, step, s => valS x Lr Dr (step * d) (if x == l then step else s)
  | _, _, _, s => s
theorem strG_val (m : List Int) : ∀ (Lr Dr : List Int) (step : Int) (S : List Int), S.length = m.length → strG m Lr Dr step S = (m.zip S).map fun x => valS x.1 Lr Dr step x.2
  | [], Dr, step, S, h => by
    simp only [strG, valS]
    exact (List.map_snd_zip (by omega)).symm
  | l :: Lr, [], step, S, h => by
    simp only [strG, valS]
    exact (List.map_snd_zip (by omega)).symm
  | l :: Lr, d :: Dr, step, S, h => by
    simp only [strG, valS]
    rw [strG_val m Lr Dr (step * d) (updS m S l step) (updS_len h l step)]
    refine List.ext_getElem (by simp [updS, h]) fun i h1 h2 => ?_
    simp [updS]
theorem valS_none {x : Int} : ∀ {Lr Dr : List Int} {step s : Int}, x ∉ Lr → valS x Lr Dr step s = s
  | [], _, _, _, _ => rfl
  | l :: Lr, [], _, _, _ => rfl
  | l :: Lr, d :: Dr, step, s, h => by
    have h1 : (x == l) = false := by simp; intro e; exact h (by simp [e])
    simp only [valS, h1, Bool.false_eq_true, if_false]
    exact valS_none fun e => h (by simp [e])
theorem valS_at {x : Int} : ∀ {Lr Dr : List Int} {step s : Int} {q : Nat}, Lr.Nodup → Lr.length = Dr.length → Lr[q]? = some x → (strR step Dr)[q]? = some (valS x Lr Dr step s)
  | [], _, _, _, q, _, _, h => by simp at h
  | l :: Lr, [], _, _, _, _, h, _ => by simp at h
  | l :: Lr, d :: Dr, step, s, 0, hd, hl, h => by
    simp at h; subst h
    simp only [strR, valS, List.getElem?_cons_zero, BEq.rfl, if_true]
    rw [valS_none (List.nodup_cons.1 hd).1]
  | l :: Lr, d :: Dr, step, s, q + 1, hd, hl, h => by
    simp only [strR, valS, List.getElem?_cons_succ] at h ⊢
    exact valS_at (List.nodup_cons.1 hd).2 (by simpa using hl) h
theorem str_full {L D : List Int} (hd : L.Nodup) (hl : L.length = D.length) : (L.map fun x => valS x L.reverse D.reverse 1 0) = strF D := by
  refine List.ext_getElem? fun i => ?_
  rcases Nat.lt_or_ge i L.length with hi | hi
  · have hr : L.reverse[L.length - 1 - i]? = some L[i] := by
      rw [List.getElem?_reverse (by omega), show L.length - 1 - (L.length - 1 - i) = i by omega]
      exact List.getElem?_eq_getElem hi
    have := valS_at (x := L[i]) (Lr := L.reverse) (Dr := D.reverse) (step := 1) (s := 0) (List.pairwise_reverse.2 (List.Pairwise.imp Ne.symm hd)) (by simpa using hl) hr
    unfold strF
    rw [List.getElem?_reverse (by rw [strR_len]; simp; omega), strR_len, List.length_reverse, ← hl, this, List.getElem?_map, List.getElem?_eq_getElem hi]
    rfl
  · rw [List.getElem?_eq_none (by simpa using hi), List.getElem?_eq_none (by rw [strF_len]; omega)]
theorem findF_at : ∀ {l : List Int} {x : Int} {k i : Nat}, findF l x k = (i : Int) → k ≤ i ∧ ∃ h : i - k < l.length, l[i - k] = x
  | [], x, k, i, h => by simp only [findF] at h; omega
  | y :: l, x, k, i, h => by
    unfold findF at h
    split at h
    · rename_i e
      have : i = k := by omega
      subst this
      exact ⟨Nat.le_refl _, by simp, by simpa using e⟩
    · have hh := findF_lo l x (k + 1)
      obtain ⟨h1, h2, h3⟩ := findF_at h
      refine ⟨by omega, by simp; omega, ?_⟩
      rw [List.getElem_cons, dif_neg (by omega)]
      rw [← h3]
      congr 1
theorem dist_nodup : ∀ {l : List Int}, distI l → l.Nodup
  | [], _ => List.nodup_nil
  | x :: l, h => List.nodup_cons.2 ⟨h.1, dist_nodup h.2⟩
end Go.Abs
/- Plans: steps of axes. -/
namespace Go.Abs
set_option linter.all false
set_option maxRecDepth 10000

end Go.Abs
/- Plans: a slice of a tensor at 0 (impl). -/
namespace Go.Abs
set_option linter.all false
set_option maxRecDepth 10000

theorem c_irawElem' {r : Rg} {H : AH} {a b c : Sl} {n w : Nat} (hw : widthR r = (w : Int)) (hn : (n + 1) * w ≤ c.c) (hc : (n + 1) * w ≤ 4611686018427387904) (hn2 : n ≤ 4611686018427387904) (hw2 : w ≤ 6) :
    R (.fn F.irawElem) [r.pv, tpv a b c, isc (n : Int)] H = some ⟨1, [ssc (partAt c w n)], H⟩ := by
  rw [R_eq, e_irawElem, c_irawWidth, hw]
  simp only [Option.bind_some, one_int]
  have h0 : n * w ≤ (n + 1) * w := Nat.mul_le_mul_right _ (by omega)
  have e0 : IntKind.wrap .i64 ((n : Int) + 1) = ((n + 1 : Nat) : Int) := by rw [wrap_id] <;> omega
  have e1 : IntKind.wrap .i64 ((n : Int) * (w : Int)) = ((n * w : Nat) : Int) := by
    rw [← Int.natCast_mul, wrap_id] <;> omega
  have e2 : IntKind.wrap .i64 (((n + 1 : Nat) : Int) * (w : Int)) = (((n + 1) * w : Nat) : Int) := by
    rw [← Int.natCast_mul, wrap_id] <;> omega
  rw [e0, e1, e2, slB_mid h0 hn]
  have e3 : (n + 1) * w - n * w = w := by rw [Nat.succ_mul]; omega
  simp only [Option.bind_some, e3]
end Go.Abs
/- Plans: a slice of a tensor at 0 (impl), whole. -/
namespace Go.Abs
set_option linter.all false
set_option maxRecDepth 10000

theorem prodC_min (lim : Int) : ∀ (l : List Int) (a : Int), 1 ≤ a → a ≤ lim + 1 → (∀ d ∈ l, 1 ≤ d) → prodC lim a l = min (a * prd l) (lim + 1)
  | [], a, h1, h2, _ => by simp only [prodC, prd]; omega
  | d :: l, a, h1, h2, hd => by
    have hd1 := hd d List.mem_cons_self
    have hp := prd_pos (a := l) fun x hx => hd x (List.mem_cons_of_mem _ hx)
    have h3 : a * 1 ≤ a * d := Int.mul_le_mul_of_nonneg_left hd1 (by omega)
    have e : a * prd (d :: l) = a * d * prd l := by simp only [prd]; rw [Int.mul_assoc]
    simp only [prodC]
    by_cases hc : lim + 1 < a * d
    · rw [if_pos hc, prodC_min lim l _ (by omega) (by omega) fun x hx => hd x (List.mem_cons_of_mem _ hx), e]
      have h4 : (lim + 1) * 1 ≤ (lim + 1) * prd l := Int.mul_le_mul_of_nonneg_left hp (by omega)
      have h5 : a * d * 1 ≤ a * d * prd l := Int.mul_le_mul_of_nonneg_left hp (by omega)
      omega
    · rw [if_neg hc, prodC_min lim l _ (by omega) (by omega) fun x hx => hd x (List.mem_cons_of_mem _ hx), e]
structure TOk (r : Rg) (t : Tn) : Prop where
  rg : ringB r = true
  ax : axesB t.L t.D = true
  d : DimsOk t.D
  len : (t.X.length : Int) = prd t.D * widthR r
  all : t.X.all (fun x => inB x 0 (topR r)) = true
theorem tensor_ok {r : Rg} {t : Tn} (h : tensorB r t = true) : TOk r t := by
  have hax := (tensor_dims h).2.2
  have hd := axes_dims hax
  simp only [tensorB, Bool.and_eq_true, decide_eq_true_eq] at h
  obtain ⟨⟨⟨h1, h2⟩, h3⟩, h4⟩ := h
  have hge : ∀ d ∈ t.D, 1 ≤ d := fun d hx => (hd.2.2 d hx).1
  have hp := prodC_min 4096 t.D 1 (by omega) (by omega) hge
  rw [Int.one_mul] at hp
  have hpos := prd_pos hge
  unfold sizeB at h2 h3
  rw [if_pos hax] at h2 h3
  by_cases hc : prodC 4096 1 t.D > 4096
  · rw [if_pos hc] at h2; exact absurd rfl h2
  · rw [if_neg hc] at h3
    have he : prodC 4096 1 t.D = prd t.D := by omega
    rw [he] at h3
    exact ⟨h1, hax, ⟨by have := hd.1; have := hd.2.1; omega, hd.2.2, by omega⟩, h3, h4⟩
theorem tensor_mk {r : Rg} {t : Tn} (h : TOk r t) : tensorB r t = true := by
  have hp : prodC 4096 1 t.D = prd t.D := by rw [prodC_eq (by omega) h.d.ge (by have := h.d.2.2; omega), Int.one_mul]
  have hs : sizeB t.L t.D = prd t.D := by
    unfold sizeB
    rw [if_pos h.ax, hp, if_neg (by have := h.d.2.2; omega)]
  have hpos := prd_pos h.d.ge
  simp only [tensorB, Bool.and_eq_true, decide_eq_true_eq, hs]
  exact ⟨⟨⟨h.rg, by omega⟩, h.len⟩, h.all⟩
end Go.Abs
/- Plans: a slice of a tensor, the call. -/
namespace Go.Abs
set_option linter.all false
set_option maxRecDepth 10000

end Go.Abs
/- Pure: a network sliced at a label. -/
namespace Go.Abs
set_option linter.all false

def slSh (x : Int) (L D : List Int) : List Int × List Int := if 0 ≤ findF L x 0 then (L.eraseIdx (findF L x 0).toNat, D.eraseIdx (findF L x 0).toNat) else (L, D)
structure SlT (r : Rg) (x : Int) (t t' : Tn) : Prop where
  sh : (t'.L, t'.D) = slSh x t.L t.D
  ok : tensorB r t' = true
inductive SlL (r : Rg) (x : Int) : List Tn → List Tn → Prop where
  | nil : SlL r x [] []
  | cons {t t' : Tn} {ts ts' : List Tn} : SlT r x t t' → SlL r x ts ts' → SlL r x (t :: ts) (t' :: ts')
theorem SlL.app {r : Rg} {x : Int} {a a' b b' : List Tn} (h : SlL r x a a') (k : SlL r x b b') : SlL r x (a ++ b) (a' ++ b') := by
  induction h with
  | nil => exact k
  | cons h1 _ ih => exact .cons h1 ih
theorem SlL.len {r : Rg} {x : Int} {a a' : List Tn} (h : SlL r x a a') : a'.length = a.length := by
  induction h with
  | nil => rfl
  | cons _ _ ih => simp [ih]
theorem SlL.ok {r : Rg} {x : Int} {a a' : List Tn} (h : SlL r x a a') : ∀ t ∈ a', tensorB r t = true := by
  induction h with
  | nil => intro t ht; simp at ht
  | cons h1 _ ih =>
    intro t ht
    rcases List.mem_cons.1 ht with rfl | ht
    · exact h1.ok
    · exact ih t ht
def lk : List Int → List Int → Int → Option Int
  | a :: L, d :: D, y => if a == y then some d else lk L D y
  | _, _, _ => none
theorem lk_erase : ∀ {L D : List Int} {j : Nat} {y : Int} (hj : j < L.length), L[j] ≠ y → lk (L.eraseIdx j) (D.eraseIdx j) y = lk L D y
  | [], _, _, _, hj, _ => by simp at hj
  | a :: L, [], 0, y, hj, h => by
    simp only [List.eraseIdx_cons_zero, List.eraseIdx_nil]
    cases L <;> rfl
  | a :: L, [], j + 1, y, hj, h => by simp [lk]
  | a :: L, d :: D, 0, y, hj, h => by
    have e : (a == y) = false := by simpa using h
    simp [lk, e]
  | a :: L, d :: D, j + 1, y, hj, h => by
    simp only [List.eraseIdx_cons_succ, lk]
    rw [lk_erase (by simpa using hj) (by simpa using h)]
theorem SlT.lk {r : Rg} {x : Int} {t t' : Tn} (h : SlT r x t t') {y : Int} (hy : y ≠ x) : lk t'.L t'.D y = lk t.L t.D y := by
  have hs := h.sh
  unfold slSh at hs
  by_cases hf : 0 ≤ findF t.L x 0
  · rw [if_pos hf] at hs
    obtain ⟨j, hj⟩ : ∃ j : Nat, findF t.L x 0 = (j : Int) := ⟨(findF t.L x 0).toNat, by omega⟩
    rw [hj, Int.toNat_natCast] at hs
    obtain ⟨_, hjl, hjx⟩ := findF_at hj
    simp only [Nat.sub_zero] at hjl hjx
    have h1 := congrArg Prod.fst hs
    have h2 := congrArg Prod.snd hs
    simp only at h1 h2
    rw [h1, h2]
    exact lk_erase hjl (by rw [hjx]; exact Ne.symm hy)
  · rw [if_neg hf] at hs
    have h1 := congrArg Prod.fst hs
    have h2 := congrArg Prod.snd hs
    simp only at h1 h2
    rw [h1, h2]
structure SlN (x : Int) (n n' : Nw) : Prop where
  r : n'.r = n.r
  op : n'.op = n.op
  ts : SlL n.r x n.ts n'.ts
end Go.Abs
/- Plans: a slice of a network at 0 (impl). -/
namespace Go.Abs
set_option linter.all false
set_option maxRecDepth 10000

/-- impl.copyTensor, made anew -/
theorem n_icopyTensor {H : AH} {a b c : Sl} {t : Tn} (h : TS H a b c t) (hs : TnSmall t) :
    ∃ a' b' c' H', R (.fn F.icopyTensor) [tpv a b c] H = some ⟨1, [tpv a' b' c'], H'⟩ ∧ NewT H H' a' b' c' t := by
  obtain ⟨a', H1, e1, l1, o1⟩ := c_icopyInts h.L (by have := hs.1; omega)
  obtain ⟨b', H2, e2, l2, o2⟩ := c_icopyInts (h.D.le l1) (by have := hs.2.1; omega)
  obtain ⟨c', H3, e3, l3, o3⟩ := c_icopyInts (h.X.le (l1.trans l2)) (by have := hs.2.2; omega)
  have F3 := (((Fr.start H).new l1 o1).new l2 o2).new l3 o3
  refine ⟨a', b', c', H3, ?_, ⟨F3.le, F3.rows.perm (List.reverse_perm [(c', t.X), (b', t.D), (a', t.L)])⟩⟩
  rw [R_eq, e_icopyTensor, e1]
  simp only [Option.bind_some, one_sl]
  rw [e2]
  simp only [Option.bind_some, one_sl]
  rw [e3]
  simp only [Option.bind_some, one_sl]
theorem agg3z {α : Type} (a b c : Sl) (k : Sl → Sl → Sl → Option α) : (((nthP [tpv a b c] 0).bind PV.agg?).bind fun l30 => cond (decide (l30.length = 3)) ((slAt l30 0).bind fun s31 => (slAt l30 1).bind fun s32 => (slAt l30 2).bind fun s33 => k s31 s32 s33) none) = k a b c := rfl
theorem ok_small {r : Rg} {t : Tn} (h : tensorB r t = true) : TnSmall t := by
  have hT := tensor_ok h
  obtain ⟨w1, w2⟩ := width_range hT.rg
  have h1 := hT.d.1
  have h2 := (tensor_dims h).1
  have h3 := hT.d.2.2
  have h4 := prd_pos hT.d.ge
  have h5 := hT.len
  have h6 : prd t.D * widthR r ≤ 4096 * 6 := Int.mul_le_mul h3 w2 (by omega) (by omega)
  exact ⟨by omega, by omega, by omega⟩
end Go.Abs
/- Plans: a network sliced at labels (impl). -/
namespace Go.Abs
set_option linter.all false
set_option maxRecDepth 10000

end Go.Abs
/- Plans: a plan is made (impl). -/
namespace Go.Abs
set_option linter.all false
set_option maxRecDepth 10000

def scs (ps : List Sp) : List Sc := (ps.map fun g => [Sc.int .i64 g.a, Sc.int .i64 g.b]).flatten
theorem scs_len : ∀ ps : List Sp, (scs ps).length = ps.length * 2
  | [] => rfl
  | g :: ps => by
    have := scs_len ps
    simp only [scs, List.map_cons, List.flatten_cons, List.length_append, List.length_cons, List.length_nil] at this ⊢
    omega
theorem scs_get : ∀ (ps : List Sp) (i : Nat) (g : Sp), ps[i]? = some g → (scs ps)[i * 2]? = some (.int .i64 g.a) ∧ (scs ps)[i * 2 + 1]? = some (.int .i64 g.b)
  | [], i, g, h => by simp at h
  | x :: ps, 0, g, h => by simp at h; subst h; simp [scs]
  | x :: ps, i + 1, g, h => by
    have := scs_get ps i g (by simpa using h)
    have e : (i + 1) * 2 = i * 2 + 2 := by omega
    have e2 : scs (x :: ps) = [Sc.int .i64 x.a, Sc.int .i64 x.b] ++ scs ps := rfl
    have e3 : i * 2 + 2 + 1 = (i * 2 + 1) + 2 := by omega
    rw [e2, e, e3]
    refine ⟨?_, ?_⟩
    · rw [List.getElem?_append_right (by simp)]; simpa using this.1
    · rw [List.getElem?_append_right (by simp)]; simpa using this.2
theorem S2.rng {H : AH} {s : Sl} {ps : List Sp} (h : S2 H s ps) : rng H s.b s.o (s.n * 2) = some (scs ps) := by
  unfold Go.Abs.rng
  obtain ⟨h1, h2, h3⟩ := h
  by_cases he : ps = []
  · subst he
    rw [if_pos (by rw [h1]; rfl)]; rfl
  · rcases h3 with e | ⟨cs, hc, hg⟩
    · exact absurd e he
    · have hl : 0 < ps.length := List.length_pos_iff.2 he
      rw [if_neg (by omega), hc]
      simp only [Option.bind_some]
      have hlast := (hg (ps.length - 1) _ (List.getElem?_eq_getElem (show ps.length - 1 < ps.length by omega))).2
      have hb := (List.getElem?_eq_some_iff.1 hlast).1
      rw [if_pos (by rw [h1]; omega)]
      congr 1
      refine List.ext_getElem? fun i => ?_
      rw [List.getElem?_take, List.getElem?_drop]
      by_cases hi : i < s.n * 2
      · rw [if_pos hi]
        have hq : i / 2 < ps.length := by omega
        have g1 := hg (i / 2) _ (List.getElem?_eq_getElem hq)
        have g2 := scs_get ps (i / 2) _ (List.getElem?_eq_getElem hq)
        rcases Nat.mod_two_eq_zero_or_one i with hm | hm
        · have e : i = i / 2 * 2 := by omega
          have e' : s.o + i = s.o + i / 2 * 2 := by omega
          rw [e', g1.1]
          conv => rhs; rw [e]
          exact g2.1.symm
        · have e : i = i / 2 * 2 + 1 := by omega
          have e' : s.o + i = s.o + i / 2 * 2 + 1 := by omega
          rw [e', g1.2]
          conv => rhs; rw [e]
          exact g2.2.symm
      · rw [if_neg hi, List.getElem?_eq_none (by rw [scs_len]; omega)]
/-- A row of steps of its own. -/
structure SOwn (n0 : Nat) (H : AH) (s : Sl) (ps : List Sp) : Prop where
  o : s.o = 0
  n : s.n = ps.length
  c : s.c = ps.length
  blk : (ps = [] ∧ s.x = true) ∨ (ps ≠ [] ∧ n0 ≤ s.b ∧ H[s.b]? = some ⟨scs ps, .rw, 2⟩)
theorem SOwn.s2 {n0 : Nat} {H : AH} {s : Sl} {ps : List Sp} (h : SOwn n0 H s ps) : S2 H s ps := by
  refine ⟨h.n, by rw [h.n, h.c]; exact Nat.le_refl _, ?_⟩
  rcases h.blk with ⟨e, _⟩ | ⟨_, _, e⟩
  · exact .inl e
  · exact .inr ⟨scs ps, by unfold rdB; rw [e]; rfl, fun i g hi => by rw [h.o, Nat.zero_add]; exact scs_get ps i g hi⟩
theorem SOwn.le {n0 : Nat} {H H' : AH} {s : Sl} {ps : List Sp} (h : SOwn n0 H s ps) (hl : Go.Abs.Le H H') : SOwn n0 H' s ps :=
  ⟨h.o, h.n, h.c, h.blk.imp id fun ⟨a, b, c⟩ => ⟨a, b, by rw [hl.get _ (List.getElem?_eq_some_iff.1 c).1]; exact c⟩⟩
end Go.Abs
/- Plans: a slice of a tensor at 0 (spec). -/
namespace Go.Abs
set_option linter.all false
set_option maxRecDepth 10000

/-- spec.l05Copy -/
theorem n_sl05Copy {H : AH} {a b c : Sl} {t : Tn} (h : TS H a b c t) (hs : TnSmall t) :
    ∃ a' b' c' H', R (.fn F.sl05Copy) [tpv a b c] H = some ⟨1, [tpv a' b' c'], H'⟩ ∧ NewT H H' a' b' c' t := by
  obtain ⟨a', H1, e1, l1, o1⟩ := c_sl05Ints h.L (by have := hs.1; omega)
  obtain ⟨b', H2, e2, l2, o2⟩ := c_sl05Ints (h.D.le l1) (by have := hs.2.1; omega)
  obtain ⟨c', H3, e3, l3, o3⟩ := c_sl05Ints (h.X.le (l1.trans l2)) (by have := hs.2.2; omega)
  have F3 := (((Fr.start H).new l1 o1).new l2 o2).new l3 o3
  refine ⟨a', b', c', H3, ?_, ⟨F3.le, F3.rows.perm (List.reverse_perm [(c', t.X), (b', t.D), (a', t.L)])⟩⟩
  rw [R_eq, e_sl05Copy, e1]
  simp only [Option.bind_some, one_sl]
  rw [e2]
  simp only [Option.bind_some, one_sl]
  rw [e3]
  simp only [Option.bind_some, one_sl]
/-- spec.l05Get -/
theorem c_sl05Get {r : Rg} {H : AH} {a b c : Sl} {X : List Int} {n w : Nat} (hX : IS H c X) (hw : widthR r = (w : Int)) (hw1 : 1 ≤ w) (hw6 : w ≤ 6) (hn : n * w + w ≤ X.length) (hb : n * w + w ≤ 1048576) (hn2 : n ≤ 1048576) :
    ∃ s' H', R (.fn F.sl05Get) [r.pv, tpv a b c, isc (n : Int)] H = some ⟨1, [ssc s'], H'⟩ ∧ Go.Abs.Le H H' ∧ Own H.length H' s' ((X.drop (n * w)).take w) := by
  have hcn : X.length ≤ c.c := by have := hX.n; have := hX.c; omega
  have e1 : IntKind.wrap .i64 ((n : Int) * (w : Int)) = ((n * w : Nat) : Int) := by
    rw [← Int.natCast_mul, wrap_id] <;> omega
  have e2 : IntKind.wrap .i64 (((n * w : Nat) : Int) + (w : Int)) = ((n * w + w : Nat) : Int) := by
    rw [wrap_id] <;> omega
  have l1 := Go.Abs.Le.app H [⟨[], .rw, 1⟩]
  have hpart := (hX.le l1).part (o := n * w) (m := w) hn
  have hml : ((X.drop (n * w)).take w).length = w := by simp; omega
  have hne : (X.drop (n * w)).take w ≠ [] := fun e => by rw [e] at hml; simp at hml; omega
  have hap := app_nil (H := H ++ [⟨[], .rw, 1⟩]) (b := H.length) (l := (X.drop (n * w)).take w) (by omega)
  rw [hml, if_neg hne] at hap
  refine ⟨⟨(H ++ [⟨[], .rw, 1⟩] : AH).length, 0, w, w, false⟩, (H ++ [⟨[], .rw, 1⟩]) ++ [⟨ics ((X.drop (n * w)).take w), .rw, 1⟩], ?_, l1.trans (Go.Abs.Le.app _ _), ?_⟩
  rotate_left
  · have := Own.new (n0 := H.length) (H := H ++ [⟨[], .rw, 1⟩]) (l := (X.drop (n * w)).take w) (x := false) (by simp) (fun e => absurd e hne)
    rw [hml] at this
    exact this
  · rw [R_eq, e_sl05Get, c_sl02Width, hw]
    simp only [Option.bind_some, one_int]
    have hnb : newB H 1 [] = some (H.length, H ++ [⟨[], .rw, 1⟩]) := rfl
    rw [hnb]
    simp only [Option.bind_some]
    rw [e1, e2, slB_mid (by omega) (by omega)]
    simp only [Option.bind_some, show n * w + w - n * w = w by omega]
    rw [hpart.rng]
    simp only [Option.bind_some]
    rw [hap]
    rfl
end Go.Abs
/- Plans: a network sliced at labels (spec). -/
namespace Go.Abs
set_option linter.all false
set_option maxRecDepth 10000

theorem NewT.ext {H H1 H2 : AH} {a b c : Sl} {t : Tn} (h : NewT H H1 a b c t) (k : Go.Abs.Le H1 H2) : NewT H H2 a b c t := ⟨h.le.trans k, h.rows.le k⟩
end Go.Abs
/- Plans: joins and what is kept (spec). -/
namespace Go.Abs
set_option linter.all false
set_option maxRecDepth 10000

end Go.Abs
