/- Part of the proof of FnExactSessionOk: that for every input the law answers true and leaves what it reads as it was. Conditions: none beyond the given statement. -/
import Derived.Test.YtabkpkhjpfjpeaaLabAevToCtr
import Derived.Test.YtabkpkhjpfjpeaaLabEq
set_option linter.all false
/- Contracts: words, and small functions. -/
namespace Go.Abs
set_option linter.unusedVariables false
set_option linter.unusedSimpArgs false

noncomputable abbrev R : Oracle := run P T
theorem R_eq (p : Proc) (xs : List PV) (H : AH) : R p xs H = (procM P T R p xs H).run := run_eq T p xs H

@[reducible] def isc (x : Int) : PV := .sc (.int .i64 x)
@[reducible] def bsc (b : Bool) : PV := .sc (.bool b)
@[reducible] def ssc (s : Sl) : PV := .sc (.sl s)
theorem one_int (x : Int) {α : Type} (k : Int → Option α) : ((oneP [.sc (.int .i64 x)]).bind fun p => p.sc?.bind fun c => (intAt .i64 [c] 0).bind k) = k x := rfl
theorem one_bool (x : Bool) {α : Type} (k : Bool → Option α) : ((oneP [.sc (.bool x)]).bind fun p => p.sc?.bind fun c => (boolAt [c] 0).bind k) = k x := rfl
theorem one_sl (x : Sl) {α : Type} (k : Sl → Option α) : ((oneP [.sc (.sl x)]).bind fun p => p.sc?.bind fun c => (slAt [c] 0).bind k) = k x := rfl
theorem nth_int (x : Int) {α : Type} (k : Int → Option α) : ((nthP [.sc (.int .i64 x)] 0).bind fun p => p.sc?.bind fun c => (intAt .i64 [c] 0).bind k) = k x := rfl
theorem nth_bool (x : Bool) {α : Type} (k : Bool → Option α) : ((nthP [.sc (.bool x)] 0).bind fun p => p.sc?.bind fun c => (boolAt [c] 0).bind k) = k x := rfl
theorem nth_sl (x : Sl) {α : Type} (k : Sl → Option α) : ((nthP [.sc (.sl x)] 0).bind fun p => p.sc?.bind fun c => (slAt [c] 0).bind k) = k x := rfl

/-- A walk over a row. -/
theorem loopG {α β : Type} {F : Nat → β} {l : List α} (g : List α → Nat → β) (hend : F l.length = g [] l.length) (hstep : ∀ i (h : i < l.length) r, F (i + 1) = g r (i + 1) → F i = g (l[i] :: r) i) : F 0 = g l 0 := by
  have key : ∀ k i, i + k = l.length → F i = g (l.drop i) i := by
    intro k
    induction k with
    | zero =>
      intro i hi
      obtain rfl : i = l.length := by omega
      rw [List.drop_eq_nil_of_le (Nat.le_refl _)]; exact hend
    | succ k ih =>
      intro i hi
      have hlt : i < l.length := by omega
      rw [List.drop_eq_getElem_cons hlt]
      exact hstep i hlt _ (ih (i + 1) (by omega))
  have := key l.length 0 (by omega)
  rwa [List.drop_zero] at this
/-- A walk over a row with a state, of which something holds at each place. -/
theorem loopS {σ α β : Type} {F : σ → Nat → β} {l : List α} (Inv : σ → Nat → Prop) (g : σ → List α → Nat → β) (hend : ∀ s, Inv s l.length → F s l.length = g s [] l.length)
    (hstep : ∀ s i (h : i < l.length) r, Inv s i → (∀ s', Inv s' (i + 1) → F s' (i + 1) = g s' r (i + 1)) → F s i = g s (l[i] :: r) i) : ∀ s, Inv s 0 → F s 0 = g s l 0 := by
  have key : ∀ k i, i + k = l.length → ∀ s, Inv s i → F s i = g s (l.drop i) i := by
    intro k
    induction k with
    | zero =>
      intro i hi s hs
      obtain rfl : i = l.length := by omega
      rw [List.drop_eq_nil_of_le (Nat.le_refl _)]; exact hend s hs
    | succ k ih =>
      intro i hi s hs
      have hlt : i < l.length := by omega
      rw [List.drop_eq_getElem_cons hlt]
      exact hstep s i hlt _ hs fun s' h' => ih (i + 1) (by omega) s' h'
  intro s hs
  have := key l.length 0 (by omega) s hs
  rwa [List.drop_zero] at this
/-- The common walk: over a row, out at the first that is of a kind. -/
theorem loop_any {α β : Type} {F : Nat → β} {l : List α} (p : α → Bool) (b fin : β) (hend : F l.length = fin) (hstep : ∀ i (h : i < l.length), F i = if p l[i] then b else F (i + 1)) : F 0 = if l.any p then b else fin :=
  loopG (F := F) (l := l) (fun l _ => if l.any p then b else fin) hend fun i h r hr => by
    rw [hstep i h, hr]
    simp only [List.any_cons]
    rcases Bool.eq_false_or_eq_true (p l[i]) with h | h <;> simp [h]

theorem bf {a b : Int} (h : ¬ a = b) : (a == b) = false := by simp [h]
theorem w1 {i n : Nat} (h : i < n) (hn : n ≤ 4194304) : IntKind.wrap .i64 ((i : Int) + 1) = ((i + 1 : Nat) : Int) := by rw [wrap_id] <;> omega
theorem lt_true {i n : Nat} (h : i < n) : decide ((i : Int) < (n : Int)) = true := by simp; omega
theorem lt_self (n : Nat) : decide ((n : Int) < (n : Int)) = false := by simp

def inB (n lo hi : Int) : Bool := decide (n ≥ lo) && decide (n ≤ hi)
/-- spec.l01In -/
theorem c_sl01In (a b c : Int) (H : AH) : R (.fn F.sl01In) [isc a, isc b, isc c] H = some ⟨1, [bsc (inB a b c)], H⟩ := by
  rw [R_eq, e_sl01In]
  unfold inB
  cases decide (a ≥ b) <;> rfl

/-- spec.l05Find: the place of a number, from a place on. -/
def findF : List Int → Int → Nat → Int
  | [], _, _ => -1
  | x :: l, n, i => if x == n then (i : Int) else findF l n (i + 1)
theorem findF_lo : ∀ (l : List Int) (n : Int) (i : Nat), findF l n i = -1 ∨ (i : Int) ≤ findF l n i
  | [], n, i => .inl rfl
  | x :: l, n, i => by
    unfold findF
    split
    · exact .inr (Int.le_refl _)
    · rcases findF_lo l n (i + 1) with h | h
      · exact .inl h
      · exact .inr (by omega)
theorem findF_mem : ∀ (l : List Int) (n : Int) (i : Nat), (0 ≤ findF l n i) ↔ n ∈ l
  | [], n, i => by simp [findF]
  | x :: l, n, i => by
    unfold findF
    split
    · rename_i h; simp at h; subst h; simp
    · rename_i h; simp at h; rw [findF_mem l n (i + 1)]; simp [Ne.symm h]
theorem c_sl05Find {H : AH} {s : Sl} {l : List Int} (h : IS H s l) (hm : l.length ≤ 1048576) (n : Int) : R (.fn F.sl05Find) [ssc s, isc n] H = some ⟨1, [isc (findF l n 0)], H⟩ := by
  rw [R_eq, e_sl05Find, h.1]
  have := loopG (F := fun i : Nat => R (.loop F.sl05Find 0) [isc n, ssc s, isc (l.length : Int), isc (i : Int)] H) (l := l) (fun l i => if findF l n i = -1 then some ⟨2, [], H⟩ else some ⟨1, [isc (findF l n i)], H⟩)
    (by rw [R_eq, e_sl05Find_0, lt_self]; rfl) (fun i hi r hr => by
      rw [R_eq, e_sl05Find_0, h.ldk hi, lt_true hi, w1 hi (by omega)]
      unfold findF
      rcases Bool.eq_false_or_eq_true (l[i] == n) with hb | hb
      · simp only [hb, cond_true, if_true]
        rw [if_neg (by omega)]
      · simp only [hb, cond_true, cond_false, Bool.false_eq_true, if_false]
        exact hr)
  rw [show ((0 : Int)) = ((0 : Nat) : Int) from rfl, this]
  split
  · rename_i e; rw [e]; rfl
  · rfl

/-- impl.hasInt -/
theorem c_ihasInt {H : AH} {s : Sl} {l : List Int} (h : IS H s l) (hm : l.length ≤ 1048576) (n : Int) : R (.fn F.ihasInt) [ssc s, isc n] H = some ⟨1, [bsc (l.any fun x => n == x)], H⟩ := by
  rw [R_eq, e_ihasInt, h.1]
  have := loop_any (F := fun i : Nat => R (.loop F.ihasInt 0) [isc n, ssc s, isc (l.length : Int), isc (i : Int)] H) (l := l) (fun x => n == x) (some ⟨1, [bsc true], H⟩) (some ⟨2, [], H⟩)
    (by rw [R_eq, e_ihasInt_0, lt_self]; rfl) (fun i hi => by
      rw [R_eq, e_ihasInt_0, h.ldk hi, lt_true hi, w1 hi (by omega)]
      cases hb : n == l[i] <;> rfl)
  rw [show ((0 : Int)) = ((0 : Nat) : Int) from rfl, this]
  cases l.any fun x => n == x <;> rfl

/- Rings. -/
structure Rg where
  k : Int
  p : Int
  n : Int
@[reducible] def Rg.pv (r : Rg) : PV := .agg [.int .i64 r.k, .int .i64 r.p, .int .i64 r.n]

def widthR (r : Rg) : Int := if r.k = 7 then r.n else if r.k = 8 then 4 else 1
theorem c_sl02Width (r : Rg) (H : AH) : R (.fn F.sl02Width) [r.pv] H = some ⟨1, [isc (widthR r)], H⟩ := by
  rw [R_eq, e_sl02Width]
  unfold widthR
  by_cases h : r.k = 7
  · simp [h]
  by_cases h' : r.k = 8
  · simp [h']
  · simp [h, h', bf h, bf h']
theorem c_irawWidth (r : Rg) (H : AH) : R (.fn F.irawWidth) [r.pv] H = some ⟨1, [isc (widthR r)], H⟩ := by
  rw [R_eq, e_irawWidth]
  unfold widthR
  by_cases h : r.k = 7
  · simp [h]
  by_cases h' : r.k = 8
  · simp [h']
  · simp [h, h', bf h, bf h']

/-- The top number of a ring's coefficients. -/
def topR (r : Rg) : Int := if r.k = 1 then 1 else if r.k = 3 ∨ r.k = 4 ∨ r.k = 5 then r.p else if r.k = 6 then IntKind.wrap .i64 (shlL .i64 1 r.n - 1) else IntKind.wrap .i64 (r.p - 1)
theorem c_sl02Top (r : Rg) (hr : r.k = 6 → 0 ≤ r.n) (H : AH) : R (.fn F.sl02Top) [r.pv] H = some ⟨1, [isc (topR r)], H⟩ := by
  rw [R_eq, e_sl02Top]
  unfold topR
  by_cases h1 : r.k = 1
  · simp [h1]
  by_cases h3 : r.k = 3
  · simp [h3, nthP, PV.sc?, boolAt]
  by_cases h4 : r.k = 4
  · simp [h4, nthP, PV.sc?, boolAt]
  by_cases h5 : r.k = 5
  · simp [h5, nthP, PV.sc?, boolAt]
  by_cases h6 : r.k = 6
  · have : ¬ r.n < 0 := by have := hr h6; omega
    simp [h6, nthP, PV.sc?, boolAt, this]
  · simp [h1, h3, h4, h5, h6, bf h1, bf h3, bf h4, bf h5, bf h6, nthP, PV.sc?, boolAt]
theorem c_irawTop (r : Rg) (hr : r.k = 6 → 0 ≤ r.n) (H : AH) : R (.fn F.irawTop) [r.pv] H = some ⟨1, [isc (topR r)], H⟩ := by
  rw [R_eq, e_irawTop]
  unfold topR
  by_cases h1 : r.k = 1
  · simp [h1]
  by_cases h3 : r.k = 3
  · simp [h3, nthP, PV.sc?, boolAt]
  by_cases h4 : r.k = 4
  · simp [h4, nthP, PV.sc?, boolAt]
  by_cases h5 : r.k = 5
  · simp [h5, nthP, PV.sc?, boolAt]
  by_cases h6 : r.k = 6
  · have : ¬ r.n < 0 := by have := hr h6; omega
    simp [h6, nthP, PV.sc?, boolAt, this]
  · simp [h1, h3, h4, h5, h6, bf h1, bf h3, bf h4, bf h5, bf h6, nthP, PV.sc?, boolAt]

/-- Has a number a divisor from here on? -/
def hasDiv : Nat → Int → Int → Bool
  | 0, _, _ => false
  | k + 1, n, d => if d * d ≤ n then (n.tmod d == 0) || hasDiv k n (d + 1) else false
def primeB (n : Int) : Bool := decide (2 ≤ n) && decide (n ≤ 1000003) && !hasDiv 999 n 2

theorem div_step {n d : Int} {k : Nat} (hn : n ≤ 1000003) (hd : 2 ≤ d) (hk : d + (k : Int) = 1001) : d * d ≤ n → k ≠ 0 := fun h hk0 => by
  subst hk0
  have : d = 1001 := by omega
  subst this
  omega
theorem sq_wrap {d : Int} (h0 : 2 ≤ d) (h : d ≤ 1001) : IntKind.wrap .i64 (d * d) = d * d := by
  have h1 : d * d ≤ 1001 * 1001 := Int.mul_le_mul h h (by omega) (by omega)
  have h2 : 0 ≤ d * d := Int.mul_nonneg (by omega) (by omega)
  rw [wrap_id] <;> omega
theorem c_iIsPrime_0 {n : Int} (hn : n ≤ 1000003) (H : AH) : ∀ (k : Nat) (d : Int), 2 ≤ d → d + (k : Int) = 1001 → R (.loop F.iIsPrime 0) [isc n, isc d] H = if hasDiv k n d then some ⟨1, [bsc false], H⟩ else some ⟨2, [], H⟩ := by
  intro k
  induction k with
  | zero =>
    intro d hd hk
    have hs := sq_wrap hd (by omega)
    rw [R_eq, e_iIsPrime_0, hs]
    have : ¬ d * d ≤ n := fun h => div_step hn hd hk h rfl
    simp [this, hasDiv]
  | succ k ih =>
    intro d hd hk
    have hs := sq_wrap hd (by omega)
    rw [R_eq, e_iIsPrime_0, hs]
    unfold hasDiv
    by_cases h : d * d ≤ n
    · have h0 : (d == 0) = false := by simp; omega
      have hw : IntKind.wrap .i64 (d + 1) = d + 1 := by rw [wrap_id] <;> omega
      simp only [h, decide_true, cond_true, if_true, h0, cond_false, hw]
      cases hm : n.tmod d == 0 with
      | true => simp
      | false => simp only [cond_false, Bool.false_or]; exact ih (d + 1) (by omega) (by omega)
    · simp [h]
theorem c_iIsPrime (n : Int) (H : AH) : R (.fn F.iIsPrime) [isc n] H = some ⟨1, [bsc (primeB n)], H⟩ := by
  rw [R_eq, e_iIsPrime]
  unfold primeB
  by_cases h2 : n < 2
  · have : ¬ 2 ≤ n := by omega
    simp [h2, this]
  by_cases hm : n > 1000003
  · have : ¬ n ≤ 1000003 := by omega
    simp [h2, hm, this]
  have h2' : 2 ≤ n := by omega
  have hm' : n ≤ 1000003 := by omega
  have := c_iIsPrime_0 hm' H 999 2 (by omega) (by omega)
  simp only [h2, decide_false, cond_false, hm, this, h2', hm', decide_true, Bool.true_and]
  cases hasDiv 999 n 2 <;> rfl
theorem c_sIsPrime_0 {n : Int} (hn : n ≤ 1000003) (H : AH) : ∀ (k : Nat) (d : Int), 2 ≤ d → d + (k : Int) = 1001 → R (.loop F.sIsPrime 0) [isc n, isc d] H = if hasDiv k n d then some ⟨1, [bsc false], H⟩ else some ⟨2, [], H⟩ := by
  intro k
  induction k with
  | zero =>
    intro d hd hk
    have hs := sq_wrap hd (by omega)
    rw [R_eq, e_sIsPrime_0, hs]
    have : ¬ d * d ≤ n := fun h => div_step hn hd hk h rfl
    simp [this, hasDiv]
  | succ k ih =>
    intro d hd hk
    have hs := sq_wrap hd (by omega)
    rw [R_eq, e_sIsPrime_0, hs]
    unfold hasDiv
    by_cases h : d * d ≤ n
    · have h0 : (d == 0) = false := by simp; omega
      have hw : IntKind.wrap .i64 (d + 1) = d + 1 := by rw [wrap_id] <;> omega
      simp only [h, hn, decide_true, cond_true, if_true, h0, cond_false, hw]
      cases hm : n.tmod d == 0 with
      | true => simp
      | false => simp only [cond_false, Bool.false_or]; exact ih (d + 1) (by omega) (by omega)
    · simp [h]
theorem c_sIsPrime (n : Int) (H : AH) : R (.fn F.sIsPrime) [isc n] H = some ⟨1, [bsc (primeB n)], H⟩ := by
  rw [R_eq, e_sIsPrime]
  unfold primeB
  by_cases hm : n ≤ 1000003
  · have := c_sIsPrime_0 hm H 999 2 (by omega) (by omega)
    rw [this]
    by_cases h2 : 2 ≤ n
    · cases hasDiv 999 n 2 with
      | true => simp [nthP, PV.sc?, boolAt]
      | false =>
        simp only [Bool.false_eq_true, if_false, Option.bind_some, Nat.beq]
        rw [show R (.fn F.sl01In) [.sc (.int .i64 n), .sc (.int .i64 2), .sc (.int .i64 1000003)] H = _ from c_sl01In n 2 1000003 H]
        simp [oneP, PV.sc?, boolAt, inB, h2, hm]
    · have : hasDiv 999 n 2 = false := by
        unfold hasDiv; rw [if_neg (by omega)]
      rw [this]
      simp only [Bool.false_eq_true, if_false, Option.bind_some, Nat.beq]
      rw [show R (.fn F.sl01In) [.sc (.int .i64 n), .sc (.int .i64 2), .sc (.int .i64 1000003)] H = _ from c_sl01In n 2 1000003 H]
      simp [oneP, PV.sc?, boolAt, inB, h2, hm]
  · have e0 : R (.loop F.sIsPrime 0) [.sc (.int .i64 n), .sc (.int .i64 2)] H = some ⟨2, [], H⟩ := by
      rw [R_eq, e_sIsPrime_0]
      simp only [hm, decide_false, cond_false]
      cases decide (IntKind.wrap .i64 (2 * 2) ≤ n) <;> rfl
    rw [e0]
    simp only [Option.bind_some, Nat.beq]
    rw [show R (.fn F.sl01In) [.sc (.int .i64 n), .sc (.int .i64 2), .sc (.int .i64 1000003)] H = _ from c_sl01In n 2 1000003 H]
    simp [oneP, PV.sc?, boolAt, inB, hm]
end Go.Abs
/- Contracts: rings, sizes, tensors. -/
namespace Go.Abs
set_option linter.unusedVariables false
set_option linter.unusedSimpArgs false

def ringB (r : Rg) : Bool :=
  if r.k = 1 then r.p == 0 && r.n == 0
  else if r.k = 2 then primeB r.p && r.n == 0
  else if r.k = 3 ∨ r.k = 4 ∨ r.k = 5 then inB r.p 1 1000000 && r.n == 0
  else if r.k = 6 then r.p == 0 && inB r.n 1 20
  else if r.k = 7 then primeB r.p && inB r.n 1 6
  else if r.k = 8 then primeB r.p && decide (r.p > 2) && r.n == 0
  else false
theorem cond_and (a b : Bool) (H : AH) : (cond a (some (⟨1, [.sc (.bool b)], H⟩ : Out)) (some ⟨1, [.sc (.bool false)], H⟩)) = some ⟨1, [bsc (a && b)], H⟩ := by cases a <;> rfl
theorem c_sRingOk (r : Rg) (H : AH) : R (.fn F.sRingOk) [r.pv] H = some ⟨1, [bsc (ringB r)], H⟩ := by
  rw [R_eq, e_sRingOk]
  unfold ringB
  by_cases h1 : r.k = 1
  · simp only [h1, beq_self_eq_true, cond_true, if_true]
    exact cond_and _ _ _
  by_cases h2 : r.k = 2
  · simp only [h2, bf (show ¬ (2 : Int) = 1 by omega), beq_self_eq_true, cond_true, cond_false, if_true, show ¬ (2 : Int) = 1 by omega, if_false, c_sIsPrime, Option.bind_some, one_bool]
    exact cond_and _ _ _
  by_cases h3 : r.k = 3 ∨ r.k = 4 ∨ r.k = 5
  · have e : (((cond (r.k == 3) (some (⟨0, [.sc (.bool (r.k == 3))], H⟩ : Out)) (cond (r.k == 4) (some ⟨0, [.sc (.bool (r.k == 4))], H⟩) (some ⟨0, [.sc (.bool (r.k == 5))], H⟩))) : Option Out)) = some ⟨0, [.sc (.bool true)], H⟩ := by
      rcases h3 with h | h | h <;> simp [h]
    simp only [bf h1, bf h2, cond_false, e, Option.bind_some, Nat.beq, cond_true, nth_bool, c_sl01In, one_bool, if_neg h1, if_neg h2, if_pos h3]
    exact cond_and _ _ _
  have e : (((cond (r.k == 3) (some (⟨0, [.sc (.bool (r.k == 3))], H⟩ : Out)) (cond (r.k == 4) (some ⟨0, [.sc (.bool (r.k == 4))], H⟩) (some ⟨0, [.sc (.bool (r.k == 5))], H⟩))) : Option Out)) = some ⟨0, [.sc (.bool false)], H⟩ := by
    have h3' : ¬ r.k = 3 := fun h => h3 (.inl h)
    have h4' : ¬ r.k = 4 := fun h => h3 (.inr (.inl h))
    have h5' : ¬ r.k = 5 := fun h => h3 (.inr (.inr h))
    simp [bf h3', bf h4', bf h5']
  simp only [bf h1, bf h2, cond_false, e, Option.bind_some, Nat.beq, cond_true, nth_bool, if_neg h1, if_neg h2, if_neg h3]
  by_cases h6 : r.k = 6
  · simp only [h6, beq_self_eq_true, cond_true, if_true, c_sl01In, Option.bind_some, one_bool]
    exact cond_and _ _ _
  by_cases h7 : r.k = 7
  · simp only [h7, bf (show ¬ (7 : Int) = 6 by omega), beq_self_eq_true, cond_true, cond_false, if_true, show ¬ (7 : Int) = 6 by omega, if_false, c_sIsPrime, c_sl01In, Option.bind_some, one_bool]
    exact cond_and _ _ _
  by_cases h8 : r.k = 8
  · simp only [h8, bf (show ¬ (8 : Int) = 6 by omega), bf (show ¬ (8 : Int) = 7 by omega), beq_self_eq_true, cond_true, cond_false, if_true, show ¬ (8 : Int) = 6 by omega, show ¬ (8 : Int) = 7 by omega, if_false, c_sIsPrime, Option.bind_some, one_bool]
    cases primeB r.p <;> cases decide (r.p > 2) <;> rfl
  · simp only [bf h6, bf h7, bf h8, cond_false, if_neg h6, if_neg h7, if_neg h8]
theorem prime_two {p : Int} (h : primeB p = true) : 2 ≤ p ∧ p ≤ 1000003 := by
  unfold primeB at h
  simp only [Bool.and_eq_true, decide_eq_true_eq] at h
  exact ⟨h.1.1, h.1.2⟩
theorem c_iRingOk (r : Rg) (H : AH) : R (.fn F.iRingOk) [r.pv] H = some ⟨1, [bsc (ringB r)], H⟩ := by
  rw [R_eq, e_iRingOk]
  unfold ringB
  by_cases h1 : r.k = 1
  · simp only [h1, beq_self_eq_true, cond_true, if_true]
    exact cond_and _ _ _
  by_cases h2 : r.k = 2
  · simp only [h2, bf (show ¬ (2 : Int) = 1 by omega), beq_self_eq_true, cond_true, cond_false, if_true, show ¬ (2 : Int) = 1 by omega, if_false, c_iIsPrime, Option.bind_some, one_bool]
    exact cond_and _ _ _
  by_cases h3 : r.k = 3 ∨ r.k = 4 ∨ r.k = 5
  · have e : (((cond (r.k == 3) (some (⟨0, [.sc (.bool (r.k == 3))], H⟩ : Out)) (cond (r.k == 4) (some ⟨0, [.sc (.bool (r.k == 4))], H⟩) (some ⟨0, [.sc (.bool (r.k == 5))], H⟩))) : Option Out)) = some ⟨0, [.sc (.bool true)], H⟩ := by
      rcases h3 with h | h | h <;> simp [h]
    simp only [bf h1, bf h2, cond_false, e, Option.bind_some, Nat.beq, cond_true, nth_bool, if_neg h1, if_neg h2, if_pos h3, inB]
    cases decide (r.p ≥ 1) <;> cases decide (r.p ≤ 1000000) <;> rfl
  have e : (((cond (r.k == 3) (some (⟨0, [.sc (.bool (r.k == 3))], H⟩ : Out)) (cond (r.k == 4) (some ⟨0, [.sc (.bool (r.k == 4))], H⟩) (some ⟨0, [.sc (.bool (r.k == 5))], H⟩))) : Option Out)) = some ⟨0, [.sc (.bool false)], H⟩ := by
    have h3' : ¬ r.k = 3 := fun h => h3 (.inl h)
    have h4' : ¬ r.k = 4 := fun h => h3 (.inr (.inl h))
    have h5' : ¬ r.k = 5 := fun h => h3 (.inr (.inr h))
    simp [bf h3', bf h4', bf h5']
  simp only [bf h1, bf h2, cond_false, e, Option.bind_some, Nat.beq, cond_true, nth_bool, if_neg h1, if_neg h2, if_neg h3]
  by_cases h6 : r.k = 6
  · simp only [h6, beq_self_eq_true, cond_true, if_true, inB]
    cases r.p == 0 <;> cases decide (r.n ≥ 1) <;> rfl
  by_cases h7 : r.k = 7
  · simp only [h7, bf (show ¬ (7 : Int) = 6 by omega), beq_self_eq_true, cond_true, cond_false, if_true, show ¬ (7 : Int) = 6 by omega, if_false, c_iIsPrime, Option.bind_some, one_bool, inB]
    cases primeB r.p <;> cases decide (r.n ≥ 1) <;> rfl
  by_cases h8 : r.k = 8
  · simp only [h8, bf (show ¬ (8 : Int) = 6 by omega), bf (show ¬ (8 : Int) = 7 by omega), beq_self_eq_true, cond_true, cond_false, if_true, show ¬ (8 : Int) = 6 by omega, show ¬ (8 : Int) = 7 by omega, if_false, c_iIsPrime, Option.bind_some, one_bool]
    cases hp : primeB r.p with
    | false => rfl
    | true =>
      have := prime_two hp
      have e2 : (r.p != 2) = decide (r.p > 2) := by
        by_cases h : r.p = 2
        · simp [h]
        · have : r.p > 2 := by omega
          simp [h, this]
      rw [e2]
      cases decide (r.p > 2) <;> rfl
  · simp only [bf h6, bf h7, bf h8, cond_false, if_neg h6, if_neg h7, if_neg h8]
theorem ring6 {r : Rg} (h : ringB r = true) : r.k = 6 → 1 ≤ r.n ∧ r.n ≤ 20 := fun e => by
  unfold ringB at h
  simp [e, inB] at h
  omega

/-- spec.l05Product: a product, cut above a limit. -/
def prodC (lim : Int) : Int → List Int → Int
  | a, [] => a
  | a, d :: l => prodC lim (if lim + 1 < a * d then lim + 1 else a * d) l
theorem c_sl05Product {H : AH} {s : Sl} {l : List Int} (h : IS H s l) (hm : l.length ≤ 1048576) (hd : ∀ d ∈ l, 0 ≤ d ∧ d ≤ 1048576) : R (.fn F.sl05Product) [ssc s, isc 4096] H = some ⟨1, [isc (prodC 4096 1 l)], H⟩ := by
  rw [R_eq, e_sl05Product, h.1]
  have := loopS (F := fun (a : Int) (i : Nat) => R (.loop F.sl05Product 0) [isc 4096, isc a, ssc s, isc (l.length : Int), isc (i : Int)] H) (l := l) (fun a _ => 0 ≤ a ∧ a ≤ 4097) (fun a l _ => some ⟨2, [isc (prodC 4096 a l)], H⟩)
    (fun a _ => by rw [R_eq, e_sl05Product_0, lt_self]; rfl) (fun a i hi r ha ih => by
      rw [R_eq, e_sl05Product_0, h.ldk hi, lt_true hi, w1 hi (by omega)]
      have hdi := hd l[i] (List.getElem_mem hi)
      have h1 : 0 ≤ a * l[i] := Int.mul_nonneg ha.1 hdi.1
      have h2 : a * l[i] ≤ 4097 * 1048576 := Int.mul_le_mul ha.2 hdi.2 hdi.1 (by omega)
      have e1 : IntKind.wrap .i64 (a * l[i]) = a * l[i] := by rw [wrap_id] <;> omega
      have e2 : IntKind.wrap .i64 ((4096 : Int) + 1) = 4097 := by rw [wrap_id] <;> omega
      simp only [cond_true, e1, e2, prodC]
      exact ih _ (by split <;> omega)) 1 (by omega)
  rw [show ((0 : Int)) = ((0 : Nat) : Int) from rfl, this]
  rfl
end Go.Abs
/- Contracts: the size of a tensor, and whether it is one. -/
namespace Go.Abs
set_option linter.unusedVariables false
set_option linter.unusedSimpArgs false

def axesG : List Int → List Int → List Int → Bool
  | pre, n :: ls, d :: ds => inB n 0 99 && inB d 1 8 && !(pre.any fun x => n == x) && axesG (pre ++ [n]) ls ds
  | _, [], _ => true
  | _, _, _ => false
def axesB (ls ds : List Int) : Bool := decide (ls.length ≤ 12) && decide (ls.length = ds.length) && axesG [] ls ds

theorem find_any (l : List Int) (n : Int) : decide (findF l n 0 ≥ 0) = l.any fun x => n == x := by
  have := findF_mem l n 0
  by_cases h : n ∈ l
  · have h1 : findF l n 0 ≥ 0 := this.2 h
    simp only [h1, decide_true]
    exact (List.any_eq_true.2 ⟨n, h, by simp⟩).symm
  · have h1 : ¬ findF l n 0 ≥ 0 := fun e => h (this.1 e)
    simp only [h1, decide_false]
    symm
    rw [Bool.eq_false_iff]
    intro e
    obtain ⟨x, h2, h3⟩ := List.any_eq_true.1 e
    simp at h3; subst h3
    exact h h2

theorem take_snoc {l : List Int} {i : Nat} (h : i < l.length) : l.take (i + 1) = l.take i ++ [l[i]] := by
  rw [List.take_succ, List.getElem?_eq_getElem h]; rfl

/-- spec.l05Axes -/
theorem c_sl05Axes {H : AH} {a b : Sl} {ls ds : List Int} (ha : IS H a ls) (hb : IS H b ds) : R (.fn F.sl05Axes) [ssc a, ssc b] H = some ⟨1, [bsc (axesB ls ds)], H⟩ := by
  rw [R_eq, e_sl05Axes, ha.n, hb.n]
  unfold axesB
  by_cases h1 : (ls.length : Int) > 12
  · have : ¬ ls.length ≤ 12 := by omega
    simp [h1, this]
  by_cases h2 : ls.length = ds.length
  · have h1' : ls.length ≤ 12 := by omega
    have := loopG (F := fun i : Nat => R (.loop F.sl05Axes 0) [ssc a, ssc b, ssc a, isc (ls.length : Int), isc (i : Int)] H) (l := ls) (fun r i => if axesG (ls.take i) r (ds.drop i) then some ⟨2, [], H⟩ else some ⟨1, [bsc false], H⟩)
      (by rw [R_eq, e_sl05Axes_0, lt_self]; rw [List.drop_eq_nil_of_le (by omega)]; rfl) (fun i hi r hr => by
        rw [R_eq, e_sl05Axes_0, ha.ldk hi, lt_true hi, w1 hi (by omega)]
        have hi2 : i < ds.length := by omega
        rw [List.drop_eq_getElem_cons hi2]
        unfold axesG
        simp only [cond_true, c_sl01In, Option.bind_some, one_bool]
        cases hA : inB ls[i] 0 99 with
        | false => simp
        | true =>
          simp only [Bool.not_true, cond_false, Bool.true_and]
          rw [hb.ldk hi2]
          cases hB : inB ds[i] 1 8 with
          | false => simp
          | true =>
            simp only [Bool.not_true, cond_false, Bool.true_and]
            rw [slB_take (by have := ha.c; rw [ha.n] at this; omega)]
            simp only [Option.bind_some]
            rw [c_sl05Find (ha.take (Nat.le_of_lt hi)) (by simp; omega)]
            simp only [Option.bind_some, one_int, find_any]
            cases hC : (List.take i ls).any fun x => ls[i] == x with
            | true => simp
            | false =>
              simp only [cond_false, Bool.not_false, Bool.true_and]
              rw [← take_snoc hi]
              exact hr)
    simp only [List.take_zero, List.drop_zero] at this
    have h3 : ((ls.length : Int) != (ds.length : Int)) = false := by rw [h2]; simp
    simp only [h1, decide_false, cond_false, h3]
    rw [show ((0 : Int)) = ((0 : Nat) : Int) from rfl, this]
    have h4 : decide (ls.length ≤ 12) = true := by simpa using h1'
    have h5 : decide (ls.length = ds.length) = true := by simpa using h2
    rw [h4, h5]
    cases axesG [] ls ds <;> rfl
  · have h3 : ((ls.length : Int) != (ds.length : Int)) = true := by simp; omega
    simp [h1, h2, h3]

def sizeB (ls ds : List Int) : Int := if axesB ls ds then (if prodC 4096 1 ds > 4096 then -1 else prodC 4096 1 ds) else -1

theorem axesG_dims : ∀ {pre ls ds : List Int}, axesG pre ls ds = true → ls.length = ds.length → ∀ d ∈ ds, 1 ≤ d ∧ d ≤ 8
  | pre, n :: ls, d :: ds, h, hl, x, hx => by
    simp only [axesG, Bool.and_eq_true] at h
    rcases List.mem_cons.1 hx with rfl | hx
    · have := h.1.1.2
      simp only [inB, Bool.and_eq_true, decide_eq_true_eq] at this
      omega
    · exact axesG_dims h.2 (by simpa using hl) x hx
  | pre, [], [], _, _, x, hx => by simp at hx
  | pre, [], d :: ds, _, hl, _, _ => by simp at hl
  | pre, n :: ls, [], _, hl, _, _ => by simp at hl
theorem axes_dims {ls ds : List Int} (h : axesB ls ds = true) : ls.length ≤ 12 ∧ ls.length = ds.length ∧ ∀ d ∈ ds, 1 ≤ d ∧ d ≤ 8 := by
  simp only [axesB, Bool.and_eq_true, decide_eq_true_eq] at h
  exact ⟨h.1.1, h.1.2, axesG_dims h.2 h.1.2⟩

theorem c_sTensorSize {H : AH} {a b c : Sl} {ls ds : List Int} (ha : IS H a ls) (hb : IS H b ds) : R (.fn F.sTensorSize) [.agg [.sl a, .sl b, .sl c]] H = some ⟨1, [isc (sizeB ls ds)], H⟩ := by
  rw [R_eq, e_sTensorSize, c_sl05Axes ha hb]
  unfold sizeB
  simp only [Option.bind_some, one_bool]
  cases h : axesB ls ds with
  | false => rfl
  | true =>
    obtain ⟨h1, h2, h3⟩ := axes_dims h
    rw [c_sl05Product hb (by omega) fun d hd => by have := h3 d hd; omega]
    simp only [Option.bind_some, one_int, Bool.not_true, cond_false, if_true]
    by_cases h4 : prodC 4096 1 ds > 4096
    · simp [h4]
    · simp [h4]

def sizeG : Int → List Int → List Int → List Int → Int
  | a, pre, n :: ls, d :: ds => if n < 0 ∨ n > 99 then -1 else if (pre.any fun x => n == x) = true then -1 else if d < 1 ∨ d > 8 then -1 else if a * d > 4096 then -1 else sizeG (a * d) (pre ++ [n]) ls ds
  | a, _, _, _ => a

theorem prodC_top : ∀ {ds : List Int}, (∀ d ∈ ds, 1 ≤ d) → prodC 4096 4097 ds = 4097
  | [], _ => rfl
  | d :: ds, h => by
    have hd := h d List.mem_cons_self
    unfold prodC
    have : (if (4096 : Int) + 1 < 4097 * d then (4096 : Int) + 1 else 4097 * d) = 4097 := by
      split <;> omega
    rw [this]
    exact prodC_top fun x hx => h x (List.mem_cons_of_mem _ hx)

theorem sizeG_eq : ∀ {ls ds pre : List Int} {a : Int}, 1 ≤ a → a ≤ 4096 → ls.length = ds.length → sizeG a pre ls ds = if axesG pre ls ds then (if prodC 4096 a ds > 4096 then -1 else prodC 4096 a ds) else -1
  | [], [], pre, a, h1, h2, _ => by
    have : ¬ a > 4096 := by omega
    simp [sizeG, axesG, prodC, this]
  | [], _ :: _, _, _, _, _, h => by simp at h
  | _ :: _, [], _, _, _, _, h => by simp at h
  | n :: ls, d :: ds, pre, a, h1, h2, h => by
    unfold sizeG axesG
    by_cases hA : n < 0 ∨ n > 99
    · have : inB n 0 99 = false := by simp [inB]; omega
      simp [hA, this]
    have hA' : inB n 0 99 = true := by simp [inB]; omega
    by_cases hB : d < 1 ∨ d > 8
    · have : inB d 1 8 = false := by simp [inB]; omega
      simp [hA, hB, this]
    have hB' : inB d 1 8 = true := by simp [inB]; omega
    rcases Bool.eq_false_or_eq_true (pre.any fun x => n == x) with hC | hC
    · simp [hA, hC]
    simp only [hA, if_false, hC, Bool.false_eq_true, hB, hA', hB', Bool.true_and, Bool.not_false]
    have had : 1 ≤ a * d := by
      have : 1 * 1 ≤ a * d := Int.mul_le_mul h1 (by omega) (by omega) (by omega)
      omega
    unfold prodC
    by_cases hD : a * d > 4096
    · rw [if_pos hD]
      have e : (if (4096 : Int) + 1 < a * d then (4096 : Int) + 1 else a * d) = 4097 := by split <;> omega
      rw [e]
      cases hx : axesG (pre ++ [n]) ls ds with
      | false => rfl
      | true =>
        rw [prodC_top fun x hx' => (axesG_dims hx (by simpa using h) x hx').1]
        rfl
    · rw [if_neg hD, sizeG_eq had (by omega) (by simpa using h)]
      have e : (if (4096 : Int) + 1 < a * d then (4096 : Int) + 1 else a * d) = a * d := by split <;> omega
      rw [e]
theorem sizeG_pos : ∀ {ls ds pre : List Int} {a : Int}, 1 ≤ a → sizeG a pre ls ds = -1 ∨ 1 ≤ sizeG a pre ls ds
  | [], _, _, _, h => by simp [sizeG]; omega
  | _ :: _, [], _, _, h => by simp [sizeG]; omega
  | n :: ls, d :: ds, pre, a, h => by
    unfold sizeG
    split
    · exact .inl rfl
    split
    · exact .inl rfl
    split
    · exact .inl rfl
    split
    · exact .inl rfl
    · have : 1 * 1 ≤ a * d := Int.mul_le_mul h (by omega) (by omega) (by omega)
      exact sizeG_pos (by omega)

/-- impl.TensorSize -/
theorem c_iTensorSize {H : AH} {a b c : Sl} {ls ds : List Int} (ha : IS H a ls) (hb : IS H b ds) : R (.fn F.iTensorSize) [.agg [.sl a, .sl b, .sl c]] H = some ⟨1, [isc (sizeB ls ds)], H⟩ := by
  rw [R_eq, e_iTensorSize, ha.n, hb.n]
  unfold sizeB axesB
  by_cases h1 : (ls.length : Int) > 12
  · have : ¬ ls.length ≤ 12 := by omega
    simp [h1, this]
  by_cases h2 : ls.length = ds.length
  · have h1' : ls.length ≤ 12 := by omega
    have := loopS (F := fun (v : Int) (i : Nat) => R (.loop F.iTensorSize 0) [isc v, ssc a, isc (ls.length : Int), isc (i : Int), .agg [.sl a, .sl b, .sl c]] H) (l := ls) (fun v _ => 1 ≤ v ∧ v ≤ 4096)
      (fun v r i => if sizeG v (ls.take i) r (ds.drop i) = -1 then some ⟨1, [isc (-1)], H⟩ else some ⟨2, [isc (sizeG v (ls.take i) r (ds.drop i))], H⟩)
      (fun v hv => by
        rw [R_eq, e_iTensorSize_0, lt_self, List.drop_eq_nil_of_le (by omega)]
        have e : sizeG v (List.take ls.length ls) [] [] = v := rfl
        rw [if_neg (by rw [e]; omega), e]; rfl) (fun v i hi r hv ih => by
        rw [R_eq, e_iTensorSize_0, ha.ldk hi, lt_true hi, w1 hi (by omega)]
        have hi2 : i < ds.length := by omega
        rw [List.drop_eq_getElem_cons hi2]
        unfold sizeG
        simp only [cond_true]
        by_cases hA : ls[i] < 0
        · simp [hA]
        by_cases hA2 : ls[i] > 99
        · simp [hA, hA2]
        have hA3 : ¬ (ls[i] < 0 ∨ ls[i] > 99) := by omega
        rw [slB_take (by have := ha.c; rw [ha.n] at this; omega)]
        simp only [hA, decide_false, cond_false, hA2, Option.bind_some, hA3, if_false]
        rw [c_ihasInt (ha.take (Nat.le_of_lt hi)) (by simp; omega)]
        simp only [Option.bind_some, one_bool]
        rcases Bool.eq_false_or_eq_true ((List.take i ls).any fun x => ls[i] == x) with hC | hC
        · simp [hC]
        simp only [hC, cond_false, Bool.false_eq_true, if_false]
        rw [hb.ldk hi2]
        by_cases hB : ds[i] < 1
        · simp [hB]
        by_cases hB2 : ds[i] > 8
        · simp [hB, hB2]
        have hB3 : ¬ (ds[i] < 1 ∨ ds[i] > 8) := by omega
        have hm : 1 * 1 ≤ v * ds[i] := Int.mul_le_mul hv.1 (by omega) (by omega) (by omega)
        have hm2 : v * ds[i] ≤ 4096 * 8 := Int.mul_le_mul hv.2 (by omega) (by omega) (by omega)
        have hw : IntKind.wrap .i64 (v * ds[i]) = v * ds[i] := by rw [wrap_id] <;> omega
        simp only [hB, decide_false, cond_false, hB2, hB3, if_false, hw]
        by_cases hD : v * ds[i] > 4096
        · simp [hD]
        simp only [hD, decide_false, cond_false, if_false]
        rw [← take_snoc hi]
        exact ih _ ⟨by omega, by omega⟩) 1 (by omega)
    simp only [List.take_zero, List.drop_zero] at this
    have h3 : ((ls.length : Int) != (ds.length : Int)) = false := by rw [h2]; simp
    simp only [h1, decide_false, cond_false, h3]
    rw [show ((0 : Int)) = ((0 : Nat) : Int) from rfl, this]
    have hg := sizeG_eq (pre := []) (a := 1) (by omega) (by omega) h2
    have h4 : decide (ls.length ≤ 12) = true := by simpa using h1'
    have h5 : decide (ls.length = ds.length) = true := by simpa using h2
    rw [h4, h5, Bool.true_and, Bool.true_and, ← hg]
    split
    · rename_i e; rw [e]; rfl
    · rfl
  · have h3 : ((ls.length : Int) != (ds.length : Int)) = true := by simp; omega
    simp [h1, h2, h3]
theorem prodC_le : ∀ {ds : List Int} {a : Int}, 0 ≤ a → a ≤ 4097 → (∀ d ∈ ds, 0 ≤ d) → 0 ≤ prodC 4096 a ds ∧ prodC 4096 a ds ≤ 4097
  | [], a, h0, h1, _ => by simp [prodC]; omega
  | d :: ds, a, h0, h1, h => by
    unfold prodC
    have := Int.mul_nonneg h0 (h d List.mem_cons_self)
    exact prodC_le (by split <;> omega) (by split <;> omega) fun x hx => h x (List.mem_cons_of_mem _ hx)
theorem sizeB_range (ls ds : List Int) : sizeB ls ds = -1 ∨ (0 ≤ sizeB ls ds ∧ sizeB ls ds ≤ 4096) := by
  unfold sizeB
  split
  · rename_i h
    split
    · exact .inl rfl
    · have := (prodC_le (ds := ds) (a := 1) (by omega) (by omega) fun d hd => by have := (axes_dims h).2.2 d hd; omega)
      exact .inr (by omega)
  · exact .inl rfl
end Go.Abs
/- Contracts: tensors. -/
namespace Go.Abs
set_option linter.unusedVariables false
set_option linter.unusedSimpArgs false

structure Tn where
  L : List Int
  D : List Int
  X : List Int
structure TS (H : AH) (a b c : Sl) (t : Tn) : Prop where
  L : IS H a t.L
  D : IS H b t.D
  X : IS H c t.X
theorem TS.le {H H' : AH} (h : Le H H') {a b c : Sl} {t : Tn} (k : TS H a b c t) : TS H' a b c t := ⟨k.L.le h, k.D.le h, k.X.le h⟩
@[reducible] def tpv (a b c : Sl) : PV := .agg [.sl a, .sl b, .sl c]

def tensorB (r : Rg) (t : Tn) : Bool := ringB r && decide (sizeB t.L t.D ≠ -1) && decide ((t.X.length : Int) = sizeB t.L t.D * widthR r) && t.X.all fun x => inB x 0 (topR r)

theorem width_range {r : Rg} (h : ringB r = true) : 1 ≤ widthR r ∧ widthR r ≤ 6 := by
  unfold ringB at h
  unfold widthR
  by_cases h7 : r.k = 7
  · simp [h7, inB] at h
    rw [if_pos h7]; omega
  · rw [if_neg h7]
    split <;> omega

theorem all_not {l : List Int} {p : Int → Bool} : (l.any fun x => !p x) = !(l.all p) := by
  induction l with
  | nil => rfl
  | cons x l ih => simp only [List.any_cons, List.all_cons, ih, Bool.not_and]

/-- spec.TensorOk -/
theorem c_sTensorOk (r : Rg) {H : AH} {a b c : Sl} {t : Tn} (h : TS H a b c t) : R (.fn F.sTensorOk) [r.pv, tpv a b c] H = some ⟨1, [bsc (tensorB r t)], H⟩ := by
  rw [R_eq, e_sTensorOk, c_sTensorSize h.L h.D]
  unfold tensorB
  simp only [Option.bind_some, one_int, c_sRingOk, one_bool]
  cases hr : ringB r with
  | false => rfl
  | true =>
    have hw := width_range hr
    simp only [Bool.not_true, cond_false, Bool.true_and]
    rcases sizeB_range t.L t.D with hs | hs
    · simp [hs]
    · have h1 : ¬ sizeB t.L t.D < 0 := by omega
      have h2 : sizeB t.L t.D ≠ -1 := by omega
      have hm0 : 0 ≤ sizeB t.L t.D * widthR r := Int.mul_nonneg hs.1 (by omega)
      have hm : sizeB t.L t.D * widthR r ≤ 4096 * 6 := Int.mul_le_mul hs.2 hw.2 (by omega) (by omega)
      have hwr : IntKind.wrap .i64 (sizeB t.L t.D * widthR r) = sizeB t.L t.D * widthR r := by rw [wrap_id] <;> omega
      simp only [h1, decide_false, cond_false, c_sl02Width, Option.bind_some, one_int, hwr, h2, ne_eq, not_false_eq_true, decide_true, Bool.true_and, h.X.n]
      by_cases h3 : (t.X.length : Int) = sizeB t.L t.D * widthR r
      · have e : ((t.X.length : Int) != sizeB t.L t.D * widthR r) = false := by rw [h3]; simp
        have := loop_any (F := fun i : Nat => R (.loop F.sTensorOk 0) [ssc c, isc (t.X.length : Int), isc (i : Int), r.pv] H) (l := t.X) (fun x => !inB x 0 (topR r)) (some ⟨1, [bsc false], H⟩) (some ⟨2, [], H⟩)
          (by rw [R_eq, e_sTensorOk_0, lt_self]; rfl) (fun i hi => by
            rw [R_eq, e_sTensorOk_0, h.X.ldk hi, lt_true hi, w1 hi (by omega)]
            simp only [cond_true, c_sl02Top r (fun e => by have := ring6 hr e; omega), Option.bind_some, one_int, c_sl01In, one_bool]
            cases inB t.X[i] 0 (topR r) <;> rfl)
        rw [show ((0 : Int)) = ((0 : Nat) : Int) from rfl, this, all_not, e]
        simp only [h3, decide_true, Bool.true_and, cond_false]
        cases t.X.all fun x => inB x ((0 : Nat) : Int) (topR r) <;> rfl
      · have e : ((t.X.length : Int) != sizeB t.L t.D * widthR r) = true := by simp [h3]
        simp [e, h3]

/-- impl.inRing -/
theorem c_iinRing (r : Rg) (hr : ringB r = true) {H : AH} {s : Sl} {l : List Int} (h : IS H s l) (hm : l.length ≤ 1048576) : R (.fn F.iinRing) [r.pv, ssc s] H = some ⟨1, [bsc (l.all fun x => inB x 0 (topR r))], H⟩ := by
  rw [R_eq, e_iinRing, c_irawTop r (fun e => by have := ring6 hr e; omega), h.n]
  have := loop_any (F := fun i : Nat => R (.loop F.iinRing 0) [isc (topR r), ssc s, isc (l.length : Int), isc (i : Int)] H) (l := l) (fun x => !inB x 0 (topR r)) (some ⟨1, [bsc false], H⟩) (some ⟨2, [], H⟩)
    (by rw [R_eq, e_iinRing_0, lt_self]; rfl) (fun i hi => by
      rw [R_eq, e_iinRing_0, h.ldk hi, lt_true hi, w1 hi (by omega)]
      simp only [cond_true, inB]
      by_cases h1 : l[i] < 0
      · have : ¬ l[i] ≥ 0 := by omega
        simp [h1, this]
      · have h1' : l[i] ≥ 0 := by omega
        by_cases h2 : l[i] > topR r
        · have : ¬ l[i] ≤ topR r := by omega
          simp [h1, h1', h2, this]
        · have h2' : l[i] ≤ topR r := by omega
          simp [h1, h1', h2, h2'])
  simp only [Option.bind_some, one_int]
  rw [show ((0 : Int)) = ((0 : Nat) : Int) from rfl, this, all_not]
  cases l.all fun x => inB x ((0 : Nat) : Int) (topR r) <;> rfl

/-- impl.TensorOk -/
theorem c_iTensorOk (r : Rg) {H : AH} {a b c : Sl} {t : Tn} (h : TS H a b c t) : R (.fn F.iTensorOk) [r.pv, tpv a b c] H = some ⟨1, [bsc (tensorB r t)], H⟩ := by
  rw [R_eq, e_iTensorOk, c_iRingOk]
  unfold tensorB
  simp only [Option.bind_some, one_bool]
  cases hr : ringB r with
  | false => rfl
  | true =>
    have hw := width_range hr
    simp only [Bool.not_true, cond_false, Bool.true_and]
    rw [c_iTensorSize h.L h.D]
    simp only [Option.bind_some, one_int]
    rcases sizeB_range t.L t.D with hs | hs
    · simp [hs]
    · have h2 : sizeB t.L t.D ≠ -1 := by omega
      have h2' : (sizeB t.L t.D != -1) = true := by simp [h2]
      have hm0 : 0 ≤ sizeB t.L t.D * widthR r := Int.mul_nonneg hs.1 (by omega)
      have hm : sizeB t.L t.D * widthR r ≤ 4096 * 6 := Int.mul_le_mul hs.2 hw.2 (by omega) (by omega)
      have hwr : IntKind.wrap .i64 (sizeB t.L t.D * widthR r) = sizeB t.L t.D * widthR r := by rw [wrap_id] <;> omega
      simp only [h2', cond_true, c_irawWidth, Option.bind_some, one_int, hwr, h2, ne_eq, not_false_eq_true, decide_true, Bool.true_and, h.X.n]
      by_cases h3 : (t.X.length : Int) = sizeB t.L t.D * widthR r
      · rw [c_iinRing r hr h.X (by omega)]
        simp only [h3, beq_self_eq_true, cond_true, Option.bind_some, one_bool, decide_true, Bool.true_and]
      · simp only [bf h3, cond_false, h3, decide_false, Bool.false_and]

/- Rows of tensors. -/
def T3 (H : AH) (s : Sl) (ts : List Tn) : Prop := s.n = ts.length ∧ s.n ≤ s.c ∧ (ts = [] ∨ ∃ cs, rdB H s.b = some cs ∧ ∀ (i : Nat) t, ts[i]? = some t → ∃ a b c, cs[s.o + i * 3]? = some (.sl a) ∧ cs[s.o + i * 3 + 1]? = some (.sl b) ∧ cs[s.o + i * 3 + 1 + 1]? = some (.sl c) ∧ TS H a b c t)
theorem T3.le {H H' : AH} (h : Le H H') {s : Sl} {ts : List Tn} (k : T3 H s ts) : T3 H' s ts :=
  ⟨k.1, k.2.1, k.2.2.imp id fun ⟨cs, h1, h2⟩ => ⟨cs, h.rdB h1, fun i t hi => let ⟨a, b, c, e1, e2, e3, e4⟩ := h2 i t hi; ⟨a, b, c, e1, e2, e3, e4.le h⟩⟩⟩
theorem slAt_get {l : List Sc} {i : Nat} {x : Sl} (h : l[i]? = some (.sl x)) : slAt l i = some x := by
  unfold slAt; rw [h]
theorem T3.ld {H : AH} {s : Sl} {ts : List Tn} (h : T3 H s ts) {i : Nat} (hi : i < ts.length) : ∃ a b c, TS H a b c ts[i] ∧ ∀ {α : Type} (k : Sl → Sl → Sl → Option α),
    ((ixA s (i : Int) 3).bind fun o => (rdB H s.b).bind fun q => (slAt q o).bind fun x => (slAt q (o + 1)).bind fun y => (slAt q (o + 1 + 1)).bind fun z => k x y z) = k a b c := by
  obtain ⟨hn, _, rfl | ⟨cs, h1, h2⟩⟩ := h
  · simp at hi
  · obtain ⟨a, b, c, e1, e2, e3, e4⟩ := h2 i _ (List.getElem?_eq_getElem hi)
    refine ⟨a, b, c, e4, fun k => ?_⟩
    rw [ixA_nat (by omega)]
    simp only [Option.bind_some, h1, slAt_get e1, slAt_get e2, slAt_get e3]
theorem T3.take {H : AH} {s : Sl} {ts : List Tn} (h : T3 H s ts) {i : Nat} (hi : i ≤ ts.length) : T3 H ⟨s.b, s.o, i, s.c, s.x⟩ (ts.take i) := by
  refine ⟨by simp; omega, by have := h.1; have := h.2.1; show i ≤ s.c; omega, ?_⟩
  rcases h.2.2 with rfl | ⟨cs, h1, h2⟩
  · exact .inl (by simp)
  · refine .inr ⟨cs, h1, fun j x hj => h2 j x ?_⟩
    rw [List.getElem?_take] at hj
    split at hj
    · exact hj
    · cases hj

/-- spec.l12Dim: the size of a label's axis. -/
def dimF : List Tn → Int → Int
  | [], _ => 0
  | t :: ts, x => if 0 ≤ findF t.L x 0 then t.D.getD (findF t.L x 0).toNat 0 else dimF ts x
end Go.Abs
/- Contracts: rows that grow. -/
namespace Go.Abs
set_option linter.unusedVariables false
set_option linter.unusedSimpArgs false

/-- Heaps that agree below a place. -/
structure Lo (n0 : Nat) (H H' : AH) : Prop where
  len : H.length ≤ H'.length
  get : ∀ b, b < n0 → H'[b]? = H[b]?
theorem Lo.refl (n0 : Nat) (H : AH) : Lo n0 H H := ⟨Nat.le_refl _, fun _ _ => rfl⟩
theorem Lo.trans {n0 : Nat} {a b c : AH} (h : Lo n0 a b) (k : Lo n0 b c) : Lo n0 a c := ⟨Nat.le_trans h.len k.len, fun i hi => (k.get i hi).trans (h.get i hi)⟩
theorem Le.lo {H H' : AH} (h : Le H H') {n0 : Nat} (hn : n0 ≤ H.length) : Lo n0 H H' := ⟨h.len, fun b hb => h.get b (by omega)⟩
theorem Le.lo_trans {H0 H H' : AH} (h : Le H0 H) (k : Lo H0.length H H') : Le H0 H' := ⟨Nat.le_trans h.len k.len, fun b hb => (k.get b hb).trans (h.get b hb)⟩
theorem Lo.low {n0 n1 : Nat} {H H' : AH} (h : Lo n0 H H') (hn : n1 ≤ n0) : Lo n1 H H' := ⟨h.len, fun b hb => h.get b (by omega)⟩

/-- A row of its own grows. -/
theorem app_own {n0 : Nat} {H : AH} {s : Sl} {l m : List Int} (hn : n0 ≤ H.length) (h : Own n0 H s l) (hl : l.length + m.length ≤ 134217728) :
    ∃ s' H', appB H 1 8 s (ics m) m.length = some (s', H') ∧ Own n0 H' s' (l ++ m) ∧ H.length ≤ H'.length ∧ (∀ b, b < H.length → (b ≠ s.b ∨ l = []) → H'[b]? = H[b]?) ∧ (m = [] → s' = s ∧ H' = H) ∧ (m ≠ [] → H.length ≤ s'.b) := by
  by_cases hm : m = []
  · subst hm
    refine ⟨s, H, ?_, by rw [List.append_nil]; exact h, Nat.le_refl _, fun _ _ _ => rfl, fun _ => ⟨rfl, rfl⟩, fun h => absurd rfl h⟩
    unfold appB
    rw [if_pos (by rw [h.n, h.c]; simp)]
    simp [putR]
  · have hm0 : m.length ≠ 0 := fun e => hm (List.length_eq_zero_iff.1 e)
    have hmost : (s.n + m.length) * 8 ≤ most := by rw [h.n]; exact most_ok hl
    unfold appB
    rw [if_neg (by rw [h.n, h.c]; omega), if_pos ⟨by omega, by omega, hmost⟩, h.is.rng]
    simp only [Option.bind_some]
    have hcells : ics l ++ ics m = ics (l ++ m) := by simp
    by_cases hx : s.x = true
    · simp only [hx, hcells]
      refine ⟨_, _, rfl, ?_, by simp, fun b hb _ => List.getElem?_append_left hb, fun e => absurd e hm, fun _ => Nat.le_refl _⟩
      have := Own.new (n0 := n0) (H := H) (l := l ++ m) (x := false) hn (fun e => by simp at e; exact absurd e.2 hm)
      rw [h.n]; simpa using this
    · have hx' : s.x = false := by cases e : s.x <;> simp_all
      have hlb : l ≠ [] ∧ H[s.b]? = some ⟨ics l, .rw, 1⟩ := by
        rcases h.blk with ⟨_, e⟩ | hb
        · exact absurd e hx
        · exact hb
      have hrw : rwB H s.b 1 = some (ics l) := by unfold rwB; rw [hlb.2]; rfl
      simp only [hx', hrw, Option.bind_some, hcells]
      refine ⟨_, _, rfl, ?_, by simp [killB], fun b hb hne => ?_, fun e => absurd e hm, fun _ => Nat.le_refl _⟩
      · have hk : (killB H s.b).length = H.length := by simp [killB]
        have := Own.new (n0 := n0) (H := killB H s.b) (l := l ++ m) (x := false) (by rw [hk]; exact hn) (fun e => by simp at e; exact absurd e.2 hm)
        rw [h.n]
        rw [hk] at this
        simpa using this
      · rw [List.getElem?_append_left (by simp [killB]; exact hb)]
        rcases hne with hne | hne
        · unfold killB
          rw [List.getElem?_modify]
          have : ¬ s.b = b := fun e => hne e.symm
          simp [this]
        · exact absurd hne hlb.1

/-- One number more. -/
theorem push_own {n0 : Nat} {H : AH} {s : Sl} {l : List Int} (hn : n0 ≤ H.length) (h : Own n0 H s l) (hl : l.length < 134217728) (v : Int) :
    ∃ s' H', (∀ {α : Type} (k : Sl × AH → Option α), ((newB H 1 [.int .i64 v]).bind fun h => (rng h.2 h.1 0 (1 * 1)).bind fun q => (appB h.2 1 8 s q 1).bind k) = k (s', H')) ∧ Own n0 H' s' (l ++ [v]) ∧ H.length ≤ H'.length ∧
      (∀ b, b < H.length → (b ≠ s.b ∨ l = []) → H'[b]? = H[b]?) ∧ H.length ≤ s'.b := by
  have hle := Le.app H [⟨[.int .i64 v], .rw, 1⟩]
  obtain ⟨s', H', e, h1, h2, h3, _, h5⟩ := app_own (m := [v]) (H := H ++ [⟨[.int .i64 v], .rw, 1⟩]) (by simp; omega) (h.le hle) (by simp; omega)
  refine ⟨s', H', fun k => ?_, h1, by simp at h2; omega, fun b hb hne => ?_, by have := h5 (by simp); simp at this; omega⟩
  · have hr : rng (H ++ [⟨[.int .i64 v], .rw, 1⟩]) H.length 0 (1 * 1) = some [.int .i64 v] := by
      unfold rng
      have : rdB (H ++ [⟨[Sc.int .i64 v], BS.rw, 1⟩]) H.length = some [.int .i64 v] := by unfold rdB; simp
      rw [this]; rfl
    have hnb : newB H 1 [.int .i64 v] = some (H.length, H ++ [⟨[.int .i64 v], .rw, 1⟩]) := rfl
    rw [hnb]
    simp only [Option.bind_some, hr]
    have : appB (H ++ [⟨[Sc.int .i64 v], BS.rw, 1⟩]) 1 8 s [.int .i64 v] 1 = some (s', H') := e
    rw [this]; rfl
  · rw [h3 b (by simp; omega) hne]
    exact List.getElem?_append_left hb
theorem Own.keeps {n0 : Nat} {H H' : AH} {s : Sl} {l : List Int} (h : Own n0 H s l) (hf : ∀ b, b < H.length → (b ≠ s.b ∨ l = []) → H'[b]? = H[b]?) (hn : n0 ≤ H.length) (hl : H.length ≤ H'.length) : Lo n0 H H' :=
  ⟨hl, fun b hb => hf b (by omega) (by
    rcases h.lo with h | h
    · exact .inr h
    · exact .inl (by omega))⟩

/-- spec.l12Dim -/
theorem c_sl12Dim {H : AH} {s : Sl} {ts : List Tn} (h : T3 H s ts) (hm : ts.length ≤ 1048576) (ht : ∀ t ∈ ts, t.L.length = t.D.length ∧ t.L.length ≤ 1048576) (x : Int) : R (.fn F.sl12Dim) [ssc s, isc x] H = some ⟨1, [isc (dimF ts x)], H⟩ := by
  rw [R_eq, e_sl12Dim, h.1]
  have := loopG (F := fun i : Nat => R (.loop F.sl12Dim 0) [isc x, ssc s, isc (ts.length : Int), isc (i : Int)] H) (l := ts) (fun r i => if r.any (fun t => decide (0 ≤ findF t.L x 0)) then some ⟨1, [isc (dimF r x)], H⟩ else some ⟨2, [], H⟩)
    (by rw [R_eq, e_sl12Dim_0, lt_self]; rfl) (fun i hi r hr => by
      rw [R_eq, e_sl12Dim_0, lt_true hi, w1 hi (by omega)]
      obtain ⟨a, b, c, hT, hk⟩ := h.ld hi
      have hti := ht ts[i] (List.getElem_mem hi)
      rw [cond_true, hk]
      simp only [c_sl05Find hT.L hti.2, Option.bind_some, one_int]
      simp only [List.any_cons, dimF]
      by_cases h0 : 0 ≤ findF ts[i].L x 0
      · have hb : ((findF ts[i].L x 0).toNat : Int) = findF ts[i].L x 0 := by omega
        have hlt : (findF ts[i].L x 0).toNat < ts[i].D.length := by
          have key : ∀ (l : List Int) (k : Nat), findF l x k < l.length + k := by
            intro l
            induction l with
            | nil => intro k; simp [findF]; omega
            | cons y l ih => intro k; unfold findF; split
                             · simp; omega
                             · have := ih (k + 1); simp; omega
          have := key ts[i].L 0
          omega
        have h0' : findF ts[i].L x 0 ≥ 0 := h0
        simp only [h0', decide_true, cond_true, h0, if_true, Bool.true_or]
        rw [← hb, hT.D.ldk hlt, hb]
        simp [List.getD_eq_getElem?_getD, hlt]
      · have h0' : ¬ findF ts[i].L x 0 ≥ 0 := h0
        simp only [h0', decide_false, cond_false, h0, if_false, Bool.false_or]
        exact hr)
  rw [show ((0 : Int)) = ((0 : Nat) : Int) from rfl, this]
  have key : ∀ (l : List Tn), (l.any fun t => decide (0 ≤ findF t.L x 0)) = false → dimF l x = 0 := by
    intro l
    induction l with
    | nil => intro _; rfl
    | cons t l ih =>
      intro h
      simp only [List.any_cons, Bool.or_eq_false_iff, decide_eq_false_iff_not] at h
      unfold dimF
      rw [if_neg h.1]
      exact ih h.2
  rcases Bool.eq_false_or_eq_true (ts.any fun t => decide (0 ≤ findF t.L x ((0 : Nat) : Int).toNat)) with hh | hh
  · simp at hh
    have : (ts.any fun t => decide (0 ≤ findF t.L x 0)) = true := by simpa using hh
    simp only [this, if_true]; rfl
  · have : (ts.any fun t => decide (0 ≤ findF t.L x 0)) = false := by simpa using hh
    simp only [this, Bool.false_eq_true, if_false]
    rw [key ts this]; rfl
end Go.Abs
/- Contracts: networks, as the reference has them. -/
namespace Go.Abs
set_option linter.unusedVariables false
set_option linter.unusedSimpArgs false

def TsOk (ts : List Tn) : Prop := ts.length ≤ 1048576 ∧ ∀ t ∈ ts, t.L.length = t.D.length ∧ t.L.length ≤ 1048576

theorem newB_one {H : AH} {cs : List Sc} : newB H 1 cs = some (H.length, H ++ [⟨cs, .rw, 1⟩]) := rfl

/-- spec.l12Dims -/
theorem c_sl12Dims {H : AH} {s u : Sl} {ts : List Tn} {ls : List Int} (h : T3 H s ts) (ht : TsOk ts) (hu : IS H u ls) (hl : ls.length ≤ 1048576) :
    ∃ s' H', R (.fn F.sl12Dims) [ssc s, ssc u] H = some ⟨1, [ssc s'], H'⟩ ∧ Le H H' ∧ Own H.length H' s' (ls.map (dimF ts)) := by
  have loop : ∀ (k i : Nat), i + k = ls.length → ∀ (Hc : AH) (sc : Sl) (acc : List Int), Le H Hc → Own H.length Hc sc acc → acc.length = i →
      ∃ s' H', R (.loop F.sl12Dims 0) [ssc s, ssc sc, ssc u, isc (ls.length : Int), isc (i : Int)] Hc = some ⟨2, [ssc s'], H'⟩ ∧ Le H H' ∧ Own H.length H' s' (acc ++ (ls.drop i).map (dimF ts)) := by
    intro k
    induction k with
    | zero =>
      intro i hi Hc sc acc hle ho ha
      obtain rfl : i = ls.length := by omega
      exact ⟨sc, Hc, by rw [R_eq, e_sl12Dims_0, lt_self]; rfl, hle, by simpa using ho⟩
    | succ k ih =>
      intro i hi Hc sc acc hle ho ha
      have hlt : i < ls.length := by omega
      obtain ⟨s1, H1, hk, o1, l1, f1, _⟩ := push_own hle.len ho (by omega) (dimF ts ls[i])
      have hle1 := hle.lo_trans (ho.keeps f1 hle.len l1)
      obtain ⟨s', H', e, l2, o2⟩ := ih (i + 1) (by omega) H1 s1 (acc ++ [dimF ts ls[i]]) hle1 o1 (by simp [ha])
      refine ⟨s', H', ?_, l2, ?_⟩
      · rw [R_eq, e_sl12Dims_0, lt_true hlt, w1 hlt (by omega), cond_true, (hu.le hle).ldk hlt]
        simp only [c_sl12Dim (h.le hle) ht.1 ht.2, Option.bind_some, one_int]
        rw [hk]
        exact e
      · rw [List.drop_eq_getElem_cons hlt, List.map_cons]
        rw [List.append_assoc, List.singleton_append] at o2
        exact o2
  have h1 := Le.app H [⟨[], .rw, 1⟩]
  obtain ⟨s', H', e, l2, o2⟩ := loop ls.length 0 (by omega) (H ++ [⟨[], .rw, 1⟩]) ⟨H.length, 0, 0, 0, true⟩ [] h1 (Own.nil _ _ _) rfl
  refine ⟨s', H', ?_, l2, by simpa using o2⟩
  rw [R_eq, e_sl12Dims, newB_one, hu.n]
  simp only [Option.bind_some]
  rw [show ((0 : Int)) = ((0 : Nat) : Int) from rfl, e]
  rfl

def agreeB (pre : List Tn) (t : Tn) : Bool := (t.L.zip t.D).all fun y => !(decide (dimF pre y.1 > 0) && dimF pre y.1 != y.2)
def consG (r : Rg) : List Tn → List Tn → Bool
  | pre, t :: ts => tensorB r t && agreeB pre t && consG r (pre ++ [t]) ts
  | _, [] => true
structure Nw where
  r : Rg
  ts : List Tn
  op : List Int
def netB (n : Nw) : Bool := ringB n.r && decide (n.ts.length ≤ 12) && consG n.r [] n.ts && decide (sizeB n.op (n.op.map (dimF n.ts)) ≠ -1)
structure NS (H : AH) (s u : Sl) (n : Nw) : Prop where
  ts : T3 H s n.ts
  op : IS H u n.op
theorem NS.le {H H' : AH} (h : Le H H') {s u : Sl} {n : Nw} (k : NS H s u n) : NS H' s u n := ⟨k.ts.le h, k.op.le h⟩
@[reducible] def npv (r : Rg) (s u : Sl) : PV := .agg [.int .i64 r.k, .int .i64 r.p, .int .i64 r.n, .sl s, .sl u]

theorem tensor_dims {r : Rg} {t : Tn} (h : tensorB r t = true) : t.L.length = t.D.length ∧ t.L.length ≤ 12 ∧ axesB t.L t.D = true := by
  simp only [tensorB, Bool.and_eq_true, decide_eq_true_eq] at h
  have h1 := h.1.1.2
  unfold sizeB at h1
  split at h1
  · rename_i e
    have := axes_dims e
    exact ⟨this.2.1, this.1, e⟩
  · exact absurd rfl h1

theorem cons_mem {r : Rg} : ∀ {ts pre : List Tn}, consG r pre ts = true → ∀ t ∈ ts, tensorB r t = true
  | [], _, _, t, ht => by simp at ht
  | u :: ts, pre, h, t, ht => by
    simp only [consG, Bool.and_eq_true] at h
    rcases List.mem_cons.1 ht with rfl | ht
    · exact h.1.1
    · exact cons_mem h.2 t ht

theorem take_snocT {l : List Tn} {i : Nat} (h : i < l.length) : l.take (i + 1) = l.take i ++ [l[i]] := by
  rw [List.take_succ, List.getElem?_eq_getElem h]; rfl

/-- spec.NetworkOk, a tensor among those before it -/
theorem c_sNetworkOk_1 {r : Rg} {H : AH} {s u a b c : Sl} {ts : List Tn} {t : Tn} (h : T3 H s ts) (hl : ts.length ≤ 12) {i : Nat} (hi : i ≤ ts.length) (hpre : ∀ t ∈ ts.take i, t.L.length = t.D.length ∧ t.L.length ≤ 12) (hT : TS H a b c t) (htl : t.L.length = t.D.length) (ht12 : t.L.length ≤ 12) :
    R (.loop F.sNetworkOk 1) [isc (i : Int), ssc a, isc (t.L.length : Int), isc 0, npv r s u, tpv a b c] H = cond (agreeB (ts.take i) t) (some ⟨4, [], H⟩) (some ⟨1, [bsc false], H⟩) := by
  have := loopG (F := fun k : Nat => R (.loop F.sNetworkOk 1) [isc (i : Int), ssc a, isc (t.L.length : Int), isc (k : Int), npv r s u, tpv a b c] H) (l := t.L)
    (fun q k => cond ((q.zip (t.D.drop k)).all (fun y => !(decide (dimF (ts.take i) y.1 > 0) && dimF (ts.take i) y.1 != y.2))) (some ⟨4, [], H⟩) (some ⟨1, [bsc false], H⟩))
    (by rw [R_eq, e_sNetworkOk_1, lt_self]; rfl) (fun k hk q hq => by
      have hk2 : k < t.D.length := by omega
      rw [R_eq, e_sNetworkOk_1, hT.L.ldk hk, lt_true hk, w1 hk (by omega), cond_true, slB_take (by have := h.2.1; rw [h.1] at this; omega)]
      simp only [Option.bind_some]
      rw [c_sl12Dim (h.take hi) (by simp; omega) (fun t ht => by have := hpre t ht; omega)]
      simp only [Option.bind_some, one_int]
      rw [List.drop_eq_getElem_cons hk2, List.zip_cons_cons, List.all_cons]
      by_cases hd : dimF (ts.take i) t.L[k] > 0
      · simp only [hd, decide_true, cond_true, Bool.true_and]
        rw [hT.D.ldk hk2]
        by_cases he : dimF (ts.take i) t.L[k] = t.D[k]
        · have hb : (dimF (ts.take i) t.L[k] != t.D[k]) = false := by rw [he]; simp
          simp only [hb, cond_false, Bool.not_false, Bool.true_and]
          exact hq
        · have hb : (dimF (ts.take i) t.L[k] != t.D[k]) = true := by simp [he]
          simp [hb]
      · simp only [hd, decide_false, cond_false, Bool.false_and, Bool.not_false, Bool.true_and]
        exact hq)
  rw [show ((0 : Int)) = ((0 : Nat) : Int) from rfl, this, List.drop_zero]
  rfl

/-- spec.NetworkOk -/
theorem c_sNetworkOk {H : AH} {s u : Sl} {n : Nw} (h : NS H s u n) (ho : n.op.length ≤ 1048576) : ∃ H', R (.fn F.sNetworkOk) [npv n.r s u] H = some ⟨1, [bsc (netB n)], H'⟩ ∧ Le H H' := by
  unfold netB
  cases hr : ringB n.r with
  | false => exact ⟨H, by rw [R_eq, e_sNetworkOk, c_sRingOk, hr]; rfl, Le.refl H⟩
  | true =>
  by_cases hl : n.ts.length ≤ 12
  · have := loopG (F := fun i : Nat => R (.loop F.sNetworkOk 0) [ssc s, isc (n.ts.length : Int), isc (i : Int), npv n.r s u] H) (l := n.ts)
      (fun q i => if (∀ t ∈ n.ts.take i, tensorB n.r t = true) then (cond (consG n.r (n.ts.take i) q) (some ⟨2, [], H⟩) (some ⟨1, [bsc false], H⟩)) else R (.loop F.sNetworkOk 0) [ssc s, isc (n.ts.length : Int), isc (i : Int), npv n.r s u] H)
      (by
        split
        · rw [R_eq, e_sNetworkOk_0, lt_self]; rfl
        · rfl) (fun i hi q hq => by
        split
        · rename_i hpre
          obtain ⟨a, b, c, hT, hk⟩ := h.ts.ld hi
          rw [R_eq, e_sNetworkOk_0, lt_true hi, w1 hi (by omega), cond_true, hk, c_sTensorOk n.r hT]
          simp only [Option.bind_some, one_bool, consG]
          cases ht : tensorB n.r n.ts[i] with
          | false => rfl
          | true =>
            obtain ⟨d1, d2, _⟩ := tensor_dims ht
            have := c_sNetworkOk_1 (r := n.r) (u := u) h.ts hl (Nat.le_of_lt hi) (fun t ht => by have := tensor_dims (hpre t ht); exact ⟨this.1, this.2.1⟩) hT d1 d2
            simp only [Bool.not_true, cond_false, Bool.true_and, hT.L.n]
            rw [this]
            cases hag : agreeB (n.ts.take i) n.ts[i] with
            | false => rfl
            | true =>
              simp only [Option.bind_some, Nat.beq, cond_false, cond_true, Bool.true_and]
              rw [hq, if_pos]
              · rw [take_snocT hi]
              · rw [take_snocT hi]
                intro t ht'
                rcases List.mem_append.1 ht' with h | h
                · exact hpre t h
                · simp at h; subst h; exact ht
        · rfl)
    simp only [List.take_zero, List.not_mem_nil, false_implies, implies_true, if_true] at this
    cases hc : consG n.r [] n.ts with
    | false =>
      refine ⟨H, ?_, Le.refl H⟩
      rw [R_eq, e_sNetworkOk, c_sRingOk, hr, h.ts.1]
      have hl' : ¬ (n.ts.length : Int) > 12 := by omega
      simp only [Option.bind_some, one_bool, Bool.not_true, cond_false, hl', decide_false]
      rw [show ((0 : Int)) = ((0 : Nat) : Int) from rfl, this, hc]
      simp [nthP, PV.sc?, boolAt]
    | true =>
      have hm := cons_mem hc
      obtain ⟨s', H', e, l1, o1⟩ := c_sl12Dims h.ts ⟨by omega, fun t ht => by have := tensor_dims (hm t ht); omega⟩ h.op ho
      refine ⟨H', ?_, l1⟩
      rw [R_eq, e_sNetworkOk, c_sRingOk, hr, h.ts.1]
      have hl' : ¬ (n.ts.length : Int) > 12 := by omega
      simp only [Option.bind_some, one_bool, Bool.not_true, cond_false, hl', decide_false]
      rw [show ((0 : Int)) = ((0 : Nat) : Int) from rfl, this, hc]
      simp only [Option.bind_some, Nat.beq, cond_false, cond_true]
      rw [e]
      simp only [Option.bind_some, one_sl]
      rw [c_sTensorSize (h.op.le l1) o1.is]
      simp only [Option.bind_some, one_int]
      have hd : decide (n.ts.length ≤ 12) = true := by simpa using hl
      rw [hd]
      rcases sizeB_range n.op (n.op.map (dimF n.ts)) with hz | hz
      · rw [hz]; rfl
      · have h1 : sizeB n.op (n.op.map (dimF n.ts)) ≥ 0 := hz.1
        have h2 : sizeB n.op (n.op.map (dimF n.ts)) ≠ -1 := by omega
        simp [h1, h2]
  · refine ⟨H, ?_, Le.refl H⟩
    rw [R_eq, e_sNetworkOk, c_sRingOk, hr, h.ts.1]
    have hl' : (n.ts.length : Int) > 12 := by omega
    simp [oneP, PV.sc?, boolAt, hl', hl]
end Go.Abs
/- Contracts: networks, as the program has them. -/
namespace Go.Abs
set_option linter.unusedVariables false
set_option linter.unusedSimpArgs false

/-- impl.copyInts -/
theorem c_icopyInts {H : AH} {s : Sl} {l : List Int} (h : IS H s l) (hl : l.length ≤ 134217728) : ∃ s' H', R (.fn F.icopyInts) [ssc s] H = some ⟨1, [ssc s'], H'⟩ ∧ Le H H' ∧ Own H.length H' s' l := by
  rw [R_eq, e_icopyInts, h.rng]
  simp only [Option.bind_some]
  rw [h.n, app_nil hl]
  by_cases hn : l = []
  · rw [if_pos hn]; subst hn
    exact ⟨_, _, rfl, Le.refl H, Own.nil _ _ _⟩
  · rw [if_neg hn]
    exact ⟨_, _, rfl, Le.app _ _, Own.new (Nat.le_refl _) fun e => absurd e hn⟩
/-- spec.l05Ints -/
theorem c_sl05Ints {H : AH} {s : Sl} {l : List Int} (h : IS H s l) (hl : l.length ≤ 134217728) : ∃ s' H', R (.fn F.sl05Ints) [ssc s] H = some ⟨1, [ssc s'], H'⟩ ∧ Le H H' ∧ Own H.length H' s' l := by
  have h1 := Le.app H [⟨[], .rw, 1⟩]
  rw [R_eq, e_sl05Ints, newB_one]
  simp only [Option.bind_some]
  rw [(h.le h1).rng]
  simp only [Option.bind_some]
  rw [h.n, app_nil hl]
  by_cases hn : l = []
  · rw [if_pos hn]; subst hn
    exact ⟨_, _, rfl, h1, Own.nil _ _ _⟩
  · rw [if_neg hn]
    exact ⟨_, _, rfl, h1.trans (Le.app _ _), Own.new (by simp) fun e => absurd e hn⟩

theorem zc_dims : zc P Y.t100_int = ics (List.replicate 100 0) := by kernel_rfl

def dimT : List Int → List (Int × Int) → Option (List Int)
  | d, [] => some d
  | d, (x, v) :: l => if d.getD x.toNat 0 ≠ 0 ∧ d.getD x.toNat 0 ≠ v then none else dimT (d.set x.toNat v) l
def dimTs : List Int → List Tn → Option (List Int)
  | d, [] => some d
  | d, t :: ts => (dimT d (t.L.zip t.D)).bind fun d' => dimTs d' ts

theorem ixA_100 {x : Int} (h0 : 0 ≤ x) (h1 : x ≤ 99) : ixA ⟨0, 0, 100, 100, true⟩ x 1 = some x.toNat := by
  unfold ixA
  rw [if_pos ⟨h0, by simp; omega⟩]
  simp
theorem int_at {d : List Int} {i : Nat} (h : i < d.length) : intAt .i64 (ics d) i = some (d.getD i 0) := by
  refine intAt_get ?_
  simp [List.getD_eq_getElem?_getD, h]
theorem setAll_len : ∀ (vs cs : List Sc) (o : Nat), (setAll cs o vs).length = cs.length
  | [], cs, o => rfl
  | v :: vs, cs, o => by simp only [setAll]; rw [setAll_len vs]; simp

def LabOk (t : Tn) : Prop := t.L.length = t.D.length ∧ t.L.length ≤ 12 ∧ ∀ x ∈ t.L, 0 ≤ x ∧ x ≤ 99

theorem ics_set (d : List Int) (i : Nat) (v : Int) : (ics d).set i (.int .i64 v) = ics (d.set i v) := by simp [List.map_set]

theorem c_idimsOf_1 {H : AH} {a b c : Sl} {t : Tn} (hT : TS H a b c t) (ht : LabOk t) {y2 : List Sc} (hy : y2.length = 100) : ∀ (k i : Nat), i + k = t.L.length → ∀ d : List Int, d.length = 100 →
    (∃ d', dimT d ((t.L.drop i).zip (t.D.drop i)) = some d' ∧ d'.length = 100 ∧ R (.loop F.idimsOf 1) [ssc a, isc (t.L.length : Int), isc (i : Int), .agg y2, .agg (ics d), tpv a b c] H = some ⟨4, [.agg y2, .agg (ics d')], H⟩) ∨
    (dimT d ((t.L.drop i).zip (t.D.drop i)) = none ∧ ∃ l2 l4, l2.length = 100 ∧ l4.length = 100 ∧ R (.loop F.idimsOf 1) [ssc a, isc (t.L.length : Int), isc (i : Int), .agg y2, .agg (ics d), tpv a b c] H = some ⟨1, [bsc false, .agg l2, .agg l4], H⟩)
  | 0, i, hi, d, hd => by
    obtain rfl : i = t.L.length := by omega
    refine .inl ⟨d, by simp [dimT], hd, ?_⟩
    rw [R_eq, e_idimsOf_1, lt_self]; rfl
  | k + 1, i, hi, d, hd => by
    have hlt : i < t.L.length := by omega
    have hlt2 : i < t.D.length := by have := ht.1; omega
    have hx := ht.2.2 t.L[i] (List.getElem_mem hlt)
    have hxn : t.L[i].toNat < d.length := by omega
    rw [List.drop_eq_getElem_cons hlt, List.drop_eq_getElem_cons hlt2, List.zip_cons_cons]
    simp only [dimT]
    have hd4 : (ics d).length = 100 := by simp [hd]
    rw [R_eq, e_idimsOf_1, hT.L.ldk hlt, lt_true hlt, w1 hlt (by have := ht.2.1; omega), cond_true, ixA_100 hx.1 hx.2]
    simp only [Option.bind_some, int_at hxn]
    by_cases h0 : d.getD t.L[i].toNat 0 = 0
    · have e0 : (d.getD t.L[i].toNat 0 != 0) = false := by rw [h0]; rfl
      have e1 : ¬ (d.getD t.L[i].toNat 0 ≠ 0 ∧ d.getD t.L[i].toNat 0 ≠ t.D[i]) := fun h => h.1 h0
      rw [if_neg e1]
      simp only [e0, cond_false, Option.bind_some, Nat.beq, cond_true, nthP, List.getElem?_cons_zero, PV.agg?, hy, decide_true]
      rw [hT.D.ldk hlt2]
      have e2 : decide (t.L[i].toNat + 1 ≤ (ics d).length) = true := by simp [hd4]; omega
      simp only [e2, cond_true, ics_set]
      exact c_idimsOf_1 hT ht hy k (i + 1) (by omega) _ (by simp [hd])
    · have e0 : (d.getD t.L[i].toNat 0 != 0) = true := by simp only [bne_iff_ne, ne_eq]; exact h0
      simp only [e0, cond_true]
      rw [hT.D.ldk hlt2]
      by_cases h1 : d.getD t.L[i].toNat 0 = t.D[i]
      · have e1 : (d.getD t.L[i].toNat 0 != t.D[i]) = false := by rw [h1]; simp
        have e3 : ¬ (d.getD t.L[i].toNat 0 ≠ 0 ∧ d.getD t.L[i].toNat 0 ≠ t.D[i]) := fun h => h.2 h1
        rw [if_neg e3]
        simp only [e1, cond_false, Option.bind_some, Nat.beq, cond_true, nthP, List.getElem?_cons_zero, PV.agg?, hy, decide_true]
        rw [hT.D.ldk hlt2]
        have e2 : decide (t.L[i].toNat + 1 ≤ (ics d).length) = true := by simp [hd4]; omega
        simp only [e2, cond_true, ics_set]
        exact c_idimsOf_1 hT ht hy k (i + 1) (by omega) _ (by simp [hd])
      · have e1 : (d.getD t.L[i].toNat 0 != t.D[i]) = true := by simp only [bne_iff_ne, ne_eq]; exact h1
        rw [if_pos ⟨h0, h1⟩]
        refine .inr ⟨rfl, setAll y2 0 (ics d), ics d, by rw [setAll_len]; exact hy, hd4, ?_⟩
        have e5 : (List.take 100 (List.drop 0 (ics d))) = ics d := by rw [List.drop_zero, List.take_of_length_le (by omega)]
        simp only [e1, cond_true, hd4, e5, hy, Nat.le_refl, Nat.zero_add, decide_true, Option.bind_some, Nat.beq, cond_false, setAll_len, nthP, List.getElem?_cons_zero, List.getElem?_cons_succ, PV.agg?, PV.sc?, boolAt]
end Go.Abs
/- Contracts: networks, as the program has them. -/
namespace Go.Abs
set_option linter.unusedVariables false
set_option linter.unusedSimpArgs false

theorem setAll_all : ∀ (vs cs : List Sc) (o : Nat), o + vs.length ≤ cs.length → setAll cs o vs = cs.take o ++ vs ++ cs.drop (o + vs.length)
  | [], cs, o, h => by simp [setAll]
  | v :: vs, cs, o, h => by
    simp only [setAll]
    simp only [List.length_cons] at h
    rw [setAll_all vs _ (o + 1) (by simp; omega)]
    have e1 : (cs.set o v).take (o + 1) = cs.take o ++ [v] := by
      have ho : o < cs.length := by omega
      have e : cs.take (o + 1) = cs.take o ++ [cs[o]] := by rw [List.take_succ, List.getElem?_eq_getElem ho]; rfl
      rw [List.take_set, e, List.set_append]
      simp [Nat.min_eq_left (Nat.le_of_lt ho)]
    rw [e1, List.drop_set_of_lt (by omega)]
    simp [Nat.add_assoc, Nat.add_comm 1]
theorem setAll_full {vs cs : List Sc} (h : vs.length = cs.length) : setAll cs 0 vs = vs := by
  rw [setAll_all vs cs 0 (by omega)]
  simp [h]

theorem c_idimsOf_0 {H : AH} {s : Sl} {ts : List Tn} (h : T3 H s ts) (hl : ts.length ≤ 12) (hok : ∀ t ∈ ts, LabOk t) {y2 : List Sc} (hy : y2.length = 100) : ∀ (k i : Nat), i + k = ts.length → ∀ d : List Int, d.length = 100 →
    (∃ d', dimTs d (ts.drop i) = some d' ∧ d'.length = 100 ∧ R (.loop F.idimsOf 0) [ssc s, isc (ts.length : Int), isc (i : Int), .agg y2, .agg (ics d)] H = some ⟨2, [.agg y2, .agg (ics d')], H⟩) ∨
    (dimTs d (ts.drop i) = none ∧ ∃ l2 l4, l2.length = 100 ∧ l4.length = 100 ∧ R (.loop F.idimsOf 0) [ssc s, isc (ts.length : Int), isc (i : Int), .agg y2, .agg (ics d)] H = some ⟨1, [bsc false, .agg l2, .agg l4], H⟩)
  | 0, i, hi, d, hd => by
    obtain rfl : i = ts.length := by omega
    refine .inl ⟨d, by simp [dimTs], hd, ?_⟩
    rw [R_eq, e_idimsOf_0, lt_self]; rfl
  | k + 1, i, hi, d, hd => by
    have hlt : i < ts.length := by omega
    obtain ⟨a, b, c, hT, hk⟩ := h.ld hlt
    have hoi := hok ts[i] (List.getElem_mem hlt)
    rw [List.drop_eq_getElem_cons hlt]
    simp only [dimTs]
    rw [R_eq, e_idimsOf_0, lt_true hlt, w1 hlt (by omega), cond_true, hk, hT.L.n]
    rcases c_idimsOf_1 hT hoi hy ts[i].L.length 0 (by omega) d hd with ⟨d', e1, e2, e3⟩ | ⟨e1, l2, l4, e2, e3, e4⟩
    · simp only [List.drop_zero] at e1
      rw [show ((0 : Int)) = ((0 : Nat) : Int) from rfl, e3, e1]
      have hd4 : (ics d').length = 100 := by simp [e2]
      simp only [Option.bind_some, Nat.beq, cond_false, cond_true, nthP, List.getElem?_cons_zero, List.getElem?_cons_succ, PV.agg?, hy, hd4, decide_true]
      exact c_idimsOf_0 h hl hok hy k (i + 1) (by omega) d' e2
    · simp only [List.drop_zero] at e1
      rw [show ((0 : Int)) = ((0 : Nat) : Int) from rfl, e4, e1]
      refine .inr ⟨rfl, l2, l4, e2, e3, ?_⟩
      simp only [Option.bind_some, Nat.beq, cond_false, cond_true, nthP, List.getElem?_cons_zero, List.getElem?_cons_succ, PV.agg?, PV.sc?, boolAt, e2, e3, decide_true]

/-- impl.dimsOf -/
theorem c_idimsOf {H : AH} {s : Sl} {ts : List Tn} (h : T3 H s ts) (hl : ts.length ≤ 12) (hok : ∀ t ∈ ts, LabOk t) :
    (∃ d, dimTs (List.replicate 100 0) ts = some d ∧ d.length = 100 ∧ R (.fn F.idimsOf) [ssc s] H = some ⟨1, [.agg (ics d), bsc true], H⟩) ∨
    (dimTs (List.replicate 100 0) ts = none ∧ ∃ l, l.length = 100 ∧ R (.fn F.idimsOf) [ssc s] H = some ⟨1, [.agg l, bsc false], H⟩) := by
  have hz : (ics (List.replicate 100 0)).length = 100 := by simp
  rcases c_idimsOf_0 h hl hok (y2 := ics (List.replicate 100 0)) hz ts.length 0 (by omega) (List.replicate 100 0) (by simp) with ⟨d', e1, e2, e3⟩ | ⟨e1, l2, l4, e2, e3, e4⟩
  · refine .inl ⟨d', by simpa using e1, e2, ?_⟩
    have e3 : R (.loop F.idimsOf 0) [ssc s, isc (ts.length : Int), isc 0, .agg (ics (List.replicate 100 0)), .agg (ics (List.replicate 100 0))] H = some ⟨2, [.agg (ics (List.replicate 100 0)), .agg (ics d')], H⟩ := e3
    rw [R_eq, e_idimsOf, h.1, zc_dims, e3]
    have hd4 : (ics d').length = 100 := by simp [e2]
    have e5 : (List.take 100 (List.drop 0 (ics d'))) = ics d' := by rw [List.drop_zero, List.take_of_length_le (by omega)]
    have e6 : setAll (ics (List.replicate 100 (0 : Int))) 0 (ics d') = ics d' := setAll_full (by rw [hd4]; simp)
    have hz' : (ics (List.replicate 100 (0 : Int))).length = 100 := by simp
    simp only [Option.bind_some, Nat.beq, cond_false, cond_true, nthP, List.getElem?_cons_zero, List.getElem?_cons_succ, PV.agg?, hz', hd4, decide_true, e5, Nat.le_refl, Nat.zero_add, e6]
  · refine .inr ⟨by simpa using e1, l2, e2, ?_⟩
    have e4 : R (.loop F.idimsOf 0) [ssc s, isc (ts.length : Int), isc 0, .agg (ics (List.replicate 100 0)), .agg (ics (List.replicate 100 0))] H = some ⟨1, [bsc false, .agg l2, .agg l4], H⟩ := e4
    rw [R_eq, e_idimsOf, h.1, zc_dims, e4]
    have e5 : (List.take 100 (List.drop 0 l2)) = l2 := by rw [List.drop_zero, List.take_of_length_le (by omega)]
    simp only [Option.bind_some, Nat.beq, cond_false, cond_true, nthP, List.getElem?_cons_zero, List.getElem?_cons_succ, PV.agg?, PV.sc?, boolAt, e2, e3, decide_true, e5, Nat.le_refl]

theorem mkAt_ints {H : AH} {i n : Nat} (hi : isRes H i = true) (hn : n ≤ 134217728) : mkAt H i 1 8 [.int .i64 0] (n : Int) (n : Int) = some (⟨i, 0, n, n, true⟩, H.set i ⟨ics (List.replicate n 0), .rw, 1⟩) := by
  unfold mkAt
  have := most_ok hn
  rw [if_pos ⟨hi, by omega, by omega, by omega, by omega, by omega⟩]
  simp [List.map_replicate, List.flatten_replicate_singleton]

/-- A number is stored. -/
theorem put_own {H : AH} {b n : Nat} {x : Bool} {cs : List Int} (hb : H[b]? = some ⟨ics cs, .rw, 1⟩) {i : Nat} (hi : i < n) (hc : i < cs.length) (v : Int) {α : Type} (k : AH → Option α) :
    ((ixA ⟨b, 0, n, n, x⟩ (i : Int) 1).bind fun o => (putR H b o [.int .i64 v]).bind k) = k (H.set b ⟨ics (cs.set i v), .rw, 1⟩) := by
  rw [ixA_nat (by exact hi)]
  simp only [Option.bind_some, Nat.zero_add, Nat.mul_one]
  rw [putR_one hb (by simpa using hc)]
  simp only [Option.bind_some, ics_set]

/-- impl.axesOf -/
theorem c_iaxesOf {H : AH} {u : Sl} {ls d : List Int} (hd : d.length = 100) (hu : IS H u ls) (hl : ls.length ≤ 12) (hr : ∀ x ∈ ls, 0 ≤ x ∧ x ≤ 99) :
    ∃ a b H', R (.fn F.iaxesOf) [.agg (ics d), ssc u] H = some ⟨1, [tpv a b ⟨0, 0, 0, 0, true⟩], H'⟩ ∧ Le H H' ∧ IS H' a ls ∧ IS H' b (ls.map fun x => d.getD x.toNat 0) := by
  -- a place is kept, then the labels are copied
  have hr1 : (reserve H 1) = H ++ [resB] := rfl
  have hk1 : ((H ++ [resB]).set H.length deadB) = H ++ [deadB] := by simp
  have hle0 := Le.app H [deadB]
  obtain ⟨a, H1, e1, l1, o1⟩ := c_icopyInts (hu.le hle0) (by omega)
  have hlen1 : H.length + 1 ≤ H1.length := by have := l1.len; simpa using this
  have hrest : ∃ H2, restB (reserve H 1) H1 (H.length + 0) = H2 ∧ isRes H2 H.length = true ∧ H2.length = H1.length ∧ ∀ b, b ≠ H.length → H2[b]? = H1[b]? := by
    refine ⟨_, rfl, ?_, by simp [restB], fun b hb => ?_⟩
    · unfold isRes restB
      rw [hr1]
      simp [show H.length < H1.length by omega, resB]
    · simp only [restB, Nat.add_zero]
      rw [List.getElem?_set_ne (Ne.symm hb)]
  obtain ⟨H2, hH2, hres, hlen2, hoth⟩ := hrest
  have hle2 : Le H H2 := ⟨by omega, fun b hb => by rw [hoth b (by omega), l1.get b (by simp; omega)]; exact List.getElem?_append_left hb⟩
  -- the loop that fills the sizes
  have loop : ∀ (k i : Nat), i + k = ls.length → ∀ (Hc : AH) (cs : List Int), Le H Hc → Hc[H.length]? = some ⟨ics cs, .rw, 1⟩ → cs.length = ls.length → (∀ j x, j < i → ls[j]? = some x → cs[j]? = some (d.getD x.toNat 0)) → IS Hc a ls →
      ∃ H', R (.loop F.iaxesOf 0) [ssc u, isc (ls.length : Int), isc (i : Int), .agg (ics d), tpv a ⟨H.length, 0, ls.length, ls.length, true⟩ ⟨0, 0, 0, 0, true⟩] Hc = some ⟨2, [], H'⟩ ∧ Le H H' ∧ IS H' a ls ∧ H'[H.length]? = some ⟨ics (ls.map fun x => d.getD x.toNat 0), .rw, 1⟩ := by
    intro k
    induction k with
    | zero =>
      intro i hi Hc cs hle hb hcl hcs ha
      obtain rfl : i = ls.length := by omega
      refine ⟨Hc, by rw [R_eq, e_iaxesOf_0, lt_self]; rfl, hle, ha, ?_⟩
      have : cs = ls.map fun x => d.getD x.toNat 0 := by
        refine List.ext_getElem? fun j => ?_
        rcases Nat.lt_or_ge j ls.length with hj | hj
        · rw [hcs j ls[j] hj (List.getElem?_eq_getElem hj), List.getElem?_map, List.getElem?_eq_getElem hj]; rfl
        · rw [List.getElem?_eq_none (by omega), List.getElem?_eq_none (by simpa using hj)]
      rw [← this]; exact hb
    | succ k ih =>
      intro i hi Hc cs hle hb hcl hcs ha
      have hlt : i < ls.length := by omega
      have hx := hr ls[i] (List.getElem_mem hlt)
      rw [R_eq, e_iaxesOf_0, lt_true hlt, w1 hlt (by omega), cond_true, (hu.le hle).ldk hlt, ixA_100 hx.1 hx.2]
      simp only [Option.bind_some]
      rw [int_at (by omega)]
      simp only [Option.bind_some]
      rw [put_own hb hlt (by omega)]
      have hbl : H.length < Hc.length := (List.getElem?_eq_some_iff.1 hb).1
      refine ih (i + 1) (by omega) _ (cs.set i (d.getD ls[i].toNat 0)) ⟨by simp; exact hle.len, fun b hb' => by rw [List.getElem?_set_ne (by omega)]; exact hle.get b hb'⟩ (by simp [hbl]) (by simp [hcl]) (fun j x hj hjx => ?_) ?_
      · by_cases e : i = j
        · subst e
          rw [List.getElem?_eq_getElem hlt] at hjx
          cases hjx
          simp [hcl, hlt]
        · rw [List.getElem?_set_ne e]; exact hcs j x (by omega) hjx
      · by_cases hls : ls = []
        · subst hls; exact absurd hlt (by simp)
        · refine ⟨ha.n, ha.c, ?_⟩
          rcases ha.rd with h | ⟨q, h1, h2⟩
          · exact absurd h hls
          · refine .inr ⟨q, ?_, h2⟩
            have hne : a.b ≠ H.length := by
              rcases o1.lo with h | h
              · exact absurd h hls
              · simp at h; omega
            unfold rdB at h1 ⊢
            rw [List.getElem?_set_ne (Ne.symm hne)]; exact h1
  have ha2 : IS (H2.set H.length ⟨ics (List.replicate ls.length 0), .rw, 1⟩) a ls := by
    by_cases hls : ls = []
    · subst hls; exact ⟨o1.is.n, o1.is.c, .inl rfl⟩
    · refine ⟨o1.is.n, o1.is.c, ?_⟩
      rcases o1.is.rd with h | ⟨q, h1, h2⟩
      · exact absurd h hls
      · refine .inr ⟨q, ?_, h2⟩
        have hne : a.b ≠ H.length := by
          rcases o1.lo with h | h
          · exact absurd h hls
          · simp at h; omega
        unfold rdB at h1 ⊢
        rw [List.getElem?_set_ne (Ne.symm hne), hoth _ hne]; exact h1
  obtain ⟨H', e3, l3, a3, b3⟩ := loop ls.length 0 (by omega) (H2.set H.length ⟨ics (List.replicate ls.length 0), .rw, 1⟩) (List.replicate ls.length 0)
    ⟨by simp; exact hle2.len, fun b hb => by rw [List.getElem?_set_ne (by omega)]; exact hle2.get b hb⟩ (by simp [show H.length < H2.length by omega]) (by simp) (fun j x hj => by omega) ha2
  refine ⟨a, ⟨H.length, 0, ls.length, ls.length, true⟩, H', ?_, l3, a3, ⟨by simp, Nat.le_refl _, ?_⟩⟩
  · rw [R_eq, e_iaxesOf]
    have hq : (reserve H 1).set (H.length + 0) deadB = H ++ [deadB] := hk1
    rw [hq, e1]
    have hlr : decide (H1.length ≥ (reserve H 1).length) = true := by simp [hr1]; omega
    simp only [Option.bind_some, one_sl, hlr, cond_true]
    rw [hH2, hu.n]
    have := mkAt_ints (n := ls.length) hres (by omega)
    rw [Nat.add_zero, this]
    simp only [Option.bind_some]
    rw [show ((0 : Nat) : Int) = 0 from rfl] at e3
    rw [e3]
    rfl
  · refine .inr ⟨_, by unfold rdB; rw [b3]; rfl, fun i x hi => ?_⟩
    rw [Nat.zero_add]; simp only [List.getElem?_map, hi, Option.map_some]
end Go.Abs
/- Networks: the program's check is the reference's. -/
namespace Go.Abs
set_option linter.unusedVariables false
set_option linter.unusedSimpArgs false

def distI : List Int → Prop
  | [] => True
  | x :: l => x ∉ l ∧ distI l

theorem axesG_facts : ∀ {pre ls ds : List Int}, axesG pre ls ds = true → ls.length = ds.length → distI ls ∧ (∀ x ∈ ls, 0 ≤ x ∧ x ≤ 99 ∧ x ∉ pre)
  | pre, [], ds, _, _ => ⟨trivial, by simp⟩
  | pre, n :: ls, [], _, h => by simp at h
  | pre, n :: ls, d :: ds, h, hl => by
    simp only [axesG, Bool.and_eq_true, Bool.not_eq_true'] at h
    obtain ⟨i1, i2⟩ := axesG_facts h.2 (by simpa using hl)
    have hn : n ∉ pre := fun hm => by
      have := List.any_eq_true.2 ⟨n, hm, (by simp : (n == n) = true)⟩
      rw [h.1.2] at this; cases this
    have h0 := h.1.1.1
    simp only [inB, Bool.and_eq_true, decide_eq_true_eq] at h0
    refine ⟨⟨fun hm => (i2 n hm).2.2 (by simp), i1⟩, fun x hx => ?_⟩
    rcases List.mem_cons.1 hx with rfl | hx
    · exact ⟨by omega, by omega, hn⟩
    · have := i2 x hx
      exact ⟨this.1, this.2.1, fun hm => this.2.2 (by simp [hm])⟩
theorem tensor_facts {r : Rg} {t : Tn} (h : tensorB r t = true) : LabOk t ∧ distI t.L ∧ ∀ d ∈ t.D, 1 ≤ d ∧ d ≤ 8 := by
  obtain ⟨h1, h2, h3⟩ := tensor_dims h
  have h4 := axes_dims h3
  simp only [axesB, Bool.and_eq_true, decide_eq_true_eq] at h3
  obtain ⟨g1, g2⟩ := axesG_facts h3.2 h1
  exact ⟨⟨h1, h2, fun x hx => ⟨(g2 x hx).1, (g2 x hx).2.1⟩⟩, g1, h4.2.2⟩

/-- What is bound to a number. -/
def look : List (Int × Int) → Int → Option Int
  | [], _ => none
  | (x, v) :: l, y => if x = y then some v else look l y
theorem look_cons (x v y : Int) (l : List (Int × Int)) : look ((x, v) :: l) y = if x = y then some v else look l y := rfl
theorem look_none {y : Int} : ∀ {l : List (Int × Int)}, y ∉ l.map (·.1) → look l y = none
  | [], _ => rfl
  | (x, v) :: l, h => by
    simp only [List.map_cons, List.mem_cons, not_or] at h
    unfold look
    rw [if_neg (fun e => h.1 e.symm)]
    exact look_none h.2

def freeOf (d : List Int) (y : Int × Int) : Bool := !(decide (d.getD y.1.toNat 0 ≠ 0) && d.getD y.1.toNat 0 != y.2)

theorem getD_set {d : List Int} {i j : Nat} {v : Int} (hi : i < d.length) : (d.set i v).getD j 0 = if i = j then v else d.getD j 0 := by
  simp only [List.getD_eq_getElem?_getD, List.getElem?_set]
  by_cases e : i = j
  · subst e; simp [hi]
  · simp [e]

theorem dimT_spec : ∀ (l : List (Int × Int)) (d : List Int), d.length = 100 → distI (l.map (·.1)) → (∀ y ∈ l, 0 ≤ y.1 ∧ y.1 ≤ 99) →
    (l.all (freeOf d) = true ∧ ∃ d', dimT d l = some d' ∧ d'.length = 100 ∧ ∀ y : Int, 0 ≤ y → y ≤ 99 → d'.getD y.toNat 0 = (look l y).getD (d.getD y.toNat 0)) ∨ (l.all (freeOf d) = false ∧ dimT d l = none)
  | [], d, hd, _, _ => .inl ⟨rfl, d, rfl, hd, fun y _ _ => rfl⟩
  | (x, v) :: l, d, hd, hn, hr => by
    obtain ⟨h1, h2⟩ := hn
    have hx := hr (x, v) List.mem_cons_self
    simp only at hx
    have hxl : x.toNat < d.length := by omega
    simp only [dimT, List.all_cons]
    by_cases hc : d.getD x.toNat 0 ≠ 0 ∧ d.getD x.toNat 0 ≠ v
    · refine .inr ⟨?_, if_pos hc⟩
      have : freeOf d (x, v) = false := by
        unfold freeOf
        have e1 : decide (d.getD x.toNat 0 ≠ 0) = true := by simpa using hc.1
        have e2 : (d.getD x.toNat 0 != v) = true := by simpa using hc.2
        simp only [e1, e2]; rfl
      rw [this]; rfl
    · have hf : freeOf d (x, v) = true := by
        unfold freeOf
        by_cases h0 : d.getD x.toNat 0 = 0
        · have e1 : decide (d.getD x.toNat 0 ≠ 0) = false := by simpa using h0
          simp only [e1]; rfl
        · have hv : d.getD x.toNat 0 = v := Decidable.byContradiction fun h => hc ⟨h0, h⟩
          have e2 : (d.getD x.toNat 0 != v) = false := by simpa using hv
          simp only [e2, Bool.and_false]; rfl
      rw [if_neg hc, hf]
      have hsame : ∀ y ∈ l, (d.set x.toNat v).getD y.1.toNat 0 = d.getD y.1.toNat 0 := fun y hy => by
        rw [getD_set hxl]
        have hy2 := hr y (List.mem_cons_of_mem _ hy)
        have : x ≠ y.1 := fun e => h1 (List.mem_map.2 ⟨y, hy, e.symm⟩)
        rw [if_neg (by omega)]
      have hall : l.all (freeOf (d.set x.toNat v)) = l.all (freeOf d) := by
        have : ∀ (q : List (Int × Int)), (∀ y ∈ q, y ∈ l) → q.all (freeOf (d.set x.toNat v)) = q.all (freeOf d) := by
          intro q
          induction q with
          | nil => intro _; rfl
          | cons y q ih =>
            intro hq
            simp only [List.all_cons]
            rw [ih fun z hz => hq z (List.mem_cons_of_mem _ hz)]
            have : freeOf (d.set x.toNat v) y = freeOf d y := by unfold freeOf; rw [hsame y (hq y List.mem_cons_self)]
            rw [this]
        exact this l fun _ h => h
      rcases dimT_spec l (d.set x.toNat v) (by simpa using hd) h2 (fun y hy => hr y (List.mem_cons_of_mem _ hy)) with ⟨g1, d', g2, g3, g4⟩ | ⟨g1, g2⟩
      · refine .inl ⟨by rw [← hall, g1]; rfl, d', g2, g3, fun y hy0 hy1 => ?_⟩
        rw [g4 y hy0 hy1, look_cons]
        by_cases e : x = y
        · subst e
          rw [if_pos rfl, look_none (y := x) h1, getD_set hxl, if_pos rfl]; rfl
        · rw [if_neg e, getD_set hxl, if_neg (by omega)]
      · exact .inr ⟨by rw [← hall, g1]; rfl, g2⟩

theorem look_find : ∀ {L D : List Int} {y : Int} (k : Nat), L.length = D.length → look (L.zip D) y = if (k : Int) ≤ findF L y k then D[(findF L y k).toNat - k]? else none
  | [], D, y, k, h => by
    have : ¬ (k : Int) ≤ findF [] y k := by simp [findF]; omega
    rw [if_neg this]; rfl
  | x :: L, [], y, k, h => by simp at h
  | x :: L, v :: D, y, k, h => by
    rw [List.zip_cons_cons]
    unfold look findF
    by_cases e : x = y
    · subst e
      simp
    · have e' : (x == y) = false := by simp [e]
      rw [if_neg e, look_find (k + 1) (by simpa using h)]
      simp only [e', Bool.false_eq_true, if_false]
      rcases findF_lo L y (k + 1) with h0 | h0
      · rw [h0]
        rw [if_neg (by omega), if_neg (by omega)]
      · rw [if_pos h0, if_pos (by omega)]
        have : (findF L y (k + 1)).toNat - k = ((findF L y (k + 1)).toNat - (k + 1)) + 1 := by omega
        rw [this]; rfl
theorem look_dim {t : Tn} (h : t.L.length = t.D.length) (x : Int) : (look (t.L.zip t.D) x).getD 0 = dimF [t] x := by
  rw [look_find 0 h]
  unfold dimF
  by_cases h0 : 0 ≤ findF t.L x 0
  · rw [if_pos h0]
    simp only [Int.natCast_zero] at *
    rw [if_pos (by exact h0)]
    simp [List.getD_eq_getElem?_getD]
  · rw [if_neg h0]
    rw [if_neg (by exact h0)]
    rfl
end Go.Abs
/- The program's check of a network is the reference's. -/
namespace Go.Abs
set_option linter.unusedVariables false
set_option linter.unusedSimpArgs false

theorem dimF_app {r : Rg} {t : Tn} {x : Int} : ∀ {pre : List Tn}, (∀ u ∈ pre, tensorB r u = true) → 0 ≤ dimF pre x ∧ dimF (pre ++ [t]) x = if dimF pre x > 0 then dimF pre x else dimF [t] x
  | [], _ => ⟨by simp [dimF], by simp [dimF]⟩
  | u :: pre, h => by
    obtain ⟨i1, i2⟩ := dimF_app (t := t) (x := x) (pre := pre) fun v hv => h v (List.mem_cons_of_mem _ hv)
    have hu := tensor_facts (h u List.mem_cons_self)
    have hcons : ∀ q, dimF (u :: q) x = if 0 ≤ findF u.L x 0 then u.D.getD (findF u.L x 0).toNat 0 else dimF q x := fun q => rfl
    rw [List.cons_append, hcons, hcons]
    by_cases h0 : 0 ≤ findF u.L x 0
    · rw [if_pos h0, if_pos h0]
      have key : ∀ (l : List Int) (k : Nat), findF l x k < l.length + k := by
        intro l
        induction l with
        | nil => intro k; simp [findF]; omega
        | cons y l ih => intro k; unfold findF; split
                         · simp; omega
                         · have := ih (k + 1); simp; omega
      have hlt := key u.L 0
      have hD : (findF u.L x 0).toNat < u.D.length := by have := hu.1.1; omega
      have hge := hu.2.2 u.D[(findF u.L x 0).toNat] (List.getElem_mem hD)
      have e : u.D.getD (findF u.L x 0).toNat 0 = u.D[(findF u.L x 0).toNat] := by simp [List.getD_eq_getElem?_getD, hD]
      rw [e]
      exact ⟨by omega, by rw [if_pos (by omega)]⟩
    · rw [if_neg h0, if_neg h0]
      exact ⟨i1, i2⟩

structure Dm (d : List Int) (pre : List Tn) : Prop where
  len : d.length = 100
  get : ∀ y : Int, 0 ≤ y → y ≤ 99 → d.getD y.toNat 0 = dimF pre y

theorem all_congr {α : Type} {p q : α → Bool} : ∀ {l : List α}, (∀ x ∈ l, p x = q x) → l.all p = l.all q
  | [], _ => rfl
  | x :: l, h => by simp only [List.all_cons]; rw [h x List.mem_cons_self, all_congr fun y hy => h y (List.mem_cons_of_mem _ hy)]

theorem look_mem {y v : Int} : ∀ {l : List (Int × Int)}, look l y = some v → (y, v) ∈ l
  | [], h => by cases h
  | (x, u) :: l, h => by
    rw [look_cons] at h
    split at h
    · rename_i e; cases h; subst e; exact List.mem_cons_self
    · exact List.mem_cons_of_mem _ (look_mem h)

theorem map_zip_fst : ∀ {L D : List Int}, L.length = D.length → (L.zip D).map (·.1) = L
  | [], D, _ => by simp
  | x :: L, [], h => by simp at h
  | x :: L, d :: D, h => by simp [map_zip_fst (L := L) (D := D) (by simpa using h)]

theorem dimT_step {r : Rg} {pre : List Tn} {d : List Int} {t : Tn} (hd : Dm d pre) (hp : ∀ u ∈ pre, tensorB r u = true) (ht : tensorB r t = true) :
    (agreeB pre t = true ∧ ∃ d', dimT d (t.L.zip t.D) = some d' ∧ Dm d' (pre ++ [t])) ∨ (agreeB pre t = false ∧ dimT d (t.L.zip t.D) = none) := by
  obtain ⟨h1, h2, h3⟩ := tensor_facts ht
  have hmem : ∀ y ∈ t.L.zip t.D, 0 ≤ y.1 ∧ y.1 ≤ 99 := fun y hy => h1.2.2 y.1 (List.of_mem_zip hy).1
  have hall : (t.L.zip t.D).all (freeOf d) = agreeB pre t := by
    unfold agreeB
    refine all_congr fun y hy => ?_
    obtain ⟨y0, y1⟩ := hmem y hy
    unfold freeOf
    rw [hd.get y.1 y0 y1]
    have hge := (dimF_app (t := t) (x := y.1) hp).1
    by_cases h0 : dimF pre y.1 = 0
    · rw [h0]; rfl
    · have e1 : decide (dimF pre y.1 ≠ 0) = true := by simpa using h0
      have e2 : decide (dimF pre y.1 > 0) = true := by simp; omega
      rw [e1, e2]
  rcases dimT_spec (t.L.zip t.D) d hd.len (by rw [map_zip_fst h1.1]; exact h2) hmem with ⟨g1, d', g2, g3, g4⟩ | ⟨g1, g2⟩
  · refine .inl ⟨by rw [← hall]; exact g1, d', g2, g3, fun y y0 y1 => ?_⟩
    rw [g4 y y0 y1, (dimF_app (t := t) (x := y) hp).2, hd.get y y0 y1]
    have hld := look_dim h1.1 y
    have hge := (dimF_app (t := t) (x := y) hp).1
    cases hl : look (t.L.zip t.D) y with
    | none =>
      rw [hl] at hld
      simp only [Option.getD_none] at hld ⊢
      by_cases h0 : dimF pre y > 0
      · rw [if_pos h0]
      · rw [if_neg h0, ← hld]; omega
    | some v =>
      rw [hl] at hld
      simp only [Option.getD_some] at hld ⊢
      by_cases h0 : dimF pre y > 0
      · rw [if_pos h0]
        have := List.all_eq_true.1 g1 (y, v) (look_mem hl)
        unfold freeOf at this
        rw [hd.get y y0 y1] at this
        have e1 : decide (dimF pre y ≠ 0) = true := by simp; omega
        simp only [e1, Bool.true_and, Bool.not_eq_true', bne_eq_false_iff_eq] at this
        exact this.symm
      · rw [if_neg h0]; exact hld
  · exact .inr ⟨by rw [← hall]; exact g1, g2⟩

theorem dimTs_spec {r : Rg} : ∀ (ts pre : List Tn) (d : List Int), Dm d pre → (∀ u ∈ pre, tensorB r u = true) → (∀ u ∈ ts, tensorB r u = true) →
    (consG r pre ts = true ∧ ∃ d', dimTs d ts = some d' ∧ Dm d' (pre ++ ts)) ∨ (consG r pre ts = false ∧ dimTs d ts = none)
  | [], pre, d, hd, hp, ht => .inl ⟨rfl, d, rfl, by rw [List.append_nil]; exact hd⟩
  | t :: ts, pre, d, hd, hp, ht => by
    have ht0 := ht t List.mem_cons_self
    have hc : consG r pre (t :: ts) = (tensorB r t && agreeB pre t && consG r (pre ++ [t]) ts) := rfl
    have hdt : dimTs d (t :: ts) = (dimT d (t.L.zip t.D)).bind fun d' => dimTs d' ts := rfl
    rw [hc, hdt, ht0]
    rcases dimT_step hd hp ht0 with ⟨g1, d', g2, g3⟩ | ⟨g1, g2⟩
    · have hp' : ∀ u ∈ pre ++ [t], tensorB r u = true := fun u hu => by
        rcases List.mem_append.1 hu with h | h
        · exact hp u h
        · simp at h; subst h; exact ht0
      rw [g1, g2]
      rcases dimTs_spec ts (pre ++ [t]) d' g3 hp' (fun u hu => ht u (List.mem_cons_of_mem _ hu)) with ⟨k1, d2, k2, k3⟩ | ⟨k1, k2⟩
      · exact .inl ⟨by rw [k1]; rfl, d2, k2, by rw [List.append_assoc] at k3; exact k3⟩
      · exact .inr ⟨by rw [k1]; rfl, k2⟩
    · rw [g1, g2]
      exact .inr ⟨rfl, rfl⟩

theorem cons_false {r : Rg} : ∀ {ts pre : List Tn}, (ts.all fun t => tensorB r t) = false → consG r pre ts = false
  | [], _, h => by simp at h
  | t :: ts, pre, h => by
    simp only [List.all_cons, Bool.and_eq_false_iff] at h
    have hc : consG r pre (t :: ts) = (tensorB r t && agreeB pre t && consG r (pre ++ [t]) ts) := rfl
    rw [hc]
    rcases h with h | h
    · rw [h]; rfl
    · rw [cons_false h]; simp

theorem sizeB_open {ls ds : List Int} (h : sizeB ls ds ≠ -1) : ls.length ≤ 12 ∧ (∀ x ∈ ls, 0 ≤ x ∧ x ≤ 99) ∧ ∀ d ∈ ds, 1 ≤ d := by
  unfold sizeB at h
  split at h
  · rename_i e
    have h4 := axes_dims e
    simp only [axesB, Bool.and_eq_true, decide_eq_true_eq] at e
    obtain ⟨_, g2⟩ := axesG_facts e.2 e.1.2
    exact ⟨h4.1, fun x hx => ⟨(g2 x hx).1, (g2 x hx).2.1⟩, fun d hd => (h4.2.2 d hd).1⟩
  · exact absurd rfl h

/-- The open labels all have an axis. -/
def openB (d : List Int) (op : List Int) : Bool := op.all fun x => !(decide (x < 0) || decide (x > 99) || d.getD x.toNat 0 == 0)

theorem c_iNetworkOk_1 {H : AH} {u : Sl} {op d : List Int} (h : IS H u op) (hd : d.length = 100) (hl : op.length ≤ 12) : R (.loop F.iNetworkOk 1) [ssc u, isc (op.length : Int), isc 0, .agg (ics d)] H = cond (openB d op) (some ⟨4, [], H⟩) (some ⟨1, [bsc false], H⟩) := by
  have := loopG (F := fun i : Nat => R (.loop F.iNetworkOk 1) [ssc u, isc (op.length : Int), isc (i : Int), .agg (ics d)] H) (l := op) (fun q _ => cond (openB d q) (some ⟨4, [], H⟩) (some ⟨1, [bsc false], H⟩))
    (by rw [R_eq, e_iNetworkOk_1, lt_self]; rfl) (fun i hi q hq => by
      rw [R_eq, e_iNetworkOk_1, h.ldk hi, lt_true hi, w1 hi (by omega), cond_true]
      have hc : openB d (op[i] :: q) = (!(decide (op[i] < 0) || decide (op[i] > 99) || d.getD op[i].toNat 0 == 0) && openB d q) := rfl
      rw [hc]
      by_cases h1 : op[i] < 0
      · simp [h1]
      by_cases h2 : op[i] > 99
      · simp [h1, h2]
      rw [ixA_100 (by omega) (by omega)]
      have hlt : op[i].toNat < d.length := by omega
      simp only [h1, h2, decide_false, cond_false, Option.bind_some, int_at hlt, Bool.false_or]
      cases he : d.getD op[i].toNat 0 == 0 with
      | true => rfl
      | false => simp only [cond_false, Bool.not_false, Bool.true_and]; exact hq)
  exact this

/-- impl.NetworkOk -/
theorem c_iNetworkOk {H : AH} {s u : Sl} {n : Nw} (h : NS H s u n) (ho : n.op.length ≤ 1048576) : ∃ H', R (.fn F.iNetworkOk) [npv n.r s u] H = some ⟨1, [bsc (netB n)], H'⟩ ∧ Le H H' := by
  unfold netB
  cases hr : ringB n.r with
  | false => exact ⟨H, by rw [R_eq, e_iNetworkOk, c_iRingOk, hr]; rfl, Le.refl H⟩
  | true =>
  by_cases hl : n.ts.length ≤ 12
  · have hl' : ¬ (n.ts.length : Int) > 12 := by omega
    have hld : decide (n.ts.length ≤ 12) = true := by simpa using hl
    by_cases hop : n.op.length ≤ 12
    · have hop' : ¬ (n.op.length : Int) > 12 := by omega
      have lp := loop_any (F := fun i : Nat => R (.loop F.iNetworkOk 0) [ssc s, isc (n.ts.length : Int), isc (i : Int), npv n.r s u] H) (l := n.ts) (fun t => !tensorB n.r t) (some ⟨1, [bsc false], H⟩) (some ⟨2, [], H⟩)
        (by rw [R_eq, e_iNetworkOk_0, lt_self]; rfl) (fun i hi => by
          obtain ⟨a, b, c, hT, hk⟩ := h.ts.ld hi
          rw [R_eq, e_iNetworkOk_0, lt_true hi, w1 hi (by omega), cond_true, hk, c_iTensorOk n.r hT]
          simp only [Option.bind_some, one_bool]
          rcases Bool.eq_false_or_eq_true (tensorB n.r n.ts[i]) with hb | hb <;> simp [hb])
      have lp : R (.loop F.iNetworkOk 0) [ssc s, isc (n.ts.length : Int), isc 0, npv n.r s u] H = _ := lp
      have hany : (n.ts.any fun t => !tensorB n.r t) = !(n.ts.all fun t => tensorB n.r t) := by
        generalize n.ts = l
        induction l with
        | nil => rfl
        | cons x l ih => simp only [List.any_cons, List.all_cons, ih, Bool.not_and]
      rw [hany] at lp
      rcases Bool.eq_false_or_eq_true (n.ts.all fun t => tensorB n.r t) with hall | hall
      · have hm : ∀ t ∈ n.ts, tensorB n.r t = true := List.all_eq_true.1 hall
        rw [hall] at lp
        have hD0 : Dm (List.replicate 100 0) [] := ⟨by simp, fun y _ _ => by
          simp only [List.getD_eq_getElem?_getD, List.getElem?_replicate]
          split <;> rfl⟩
        have sp := dimTs_spec n.ts [] _ hD0 (fun _ h => by simp at h) hm
        rw [List.nil_append] at sp
        have cd := c_idimsOf h.ts hl fun t ht => (tensor_facts (hm t ht)).1
        rcases sp with ⟨k1, d, k2, k3⟩ | ⟨k1, k2⟩
        · rcases cd with ⟨d', e1, e2, e3⟩ | ⟨e1, _⟩
          · rw [k2] at e1; cases e1
            have hz : (zc P Y.t100_int).length = 100 := by rw [zc_dims]; simp
            have hdl : (ics d).length = 100 := by simp [e2]
            have e6 : setAll (zc P Y.t100_int) 0 (ics d) = ics d := setAll_full (by rw [hdl, hz])
            have e7 : (List.take 100 (List.drop 0 (ics d))) = ics d := by rw [List.drop_zero, List.take_of_length_le (by omega)]
            have hco := c_iNetworkOk_1 h.op e2 hop
            rw [k1, hld]
            cases hob : openB d n.op with
            | false =>
              rw [hob] at hco
              have : sizeB n.op (n.op.map (dimF n.ts)) = -1 := Decidable.byContradiction fun hne => by
                obtain ⟨q1, q2, q3⟩ := sizeB_open hne
                have : openB d n.op = true := by
                  unfold openB
                  refine List.all_eq_true.2 fun x hx => ?_
                  obtain ⟨x0, x1⟩ := q2 x hx
                  have hd1 := q3 (dimF n.ts x) (List.mem_map.2 ⟨x, hx, rfl⟩)
                  have h1 : ¬ x < 0 := by omega
                  have h2 : ¬ x > 99 := by omega
                  have h3 : ¬ d.getD x.toNat 0 = 0 := by rw [k3.get x x0 x1]; omega
                  simp only [h1, h2, decide_false, Bool.false_or, bf h3, Bool.not_false]
                rw [hob] at this; cases this
              refine ⟨H, ?_, Le.refl H⟩
              rw [R_eq, e_iNetworkOk, c_iRingOk, hr, h.ts.1, h.op.n, this]
              simp only [Option.bind_some, one_bool, Bool.not_true, cond_false, hl', hop', decide_false]
              rw [lp]
              simp only [Bool.not_true, Bool.false_eq_true, if_false, Option.bind_some, Nat.beq, cond_true, cond_false]
              rw [e3]
              simp only [Option.bind_some, lenP, List.length_cons, List.length_nil, if_true, nthP, List.getElem?_cons_zero, List.getElem?_cons_succ, PV.agg?, PV.sc?, boolAt, hdl, hz, decide_true, cond_true, Nat.beq, Nat.zero_add, Nat.le_refl, Bool.not_true, cond_false, e6]
              rw [hco]
              rfl
            | true =>
              rw [hob] at hco
              have hor : ∀ x ∈ n.op, 0 ≤ x ∧ x ≤ 99 := fun x hx => by
                have := List.all_eq_true.1 hob x hx
                simp only [Bool.not_eq_true', Bool.or_eq_false_iff, decide_eq_false_iff_not] at this
                omega
              obtain ⟨a, b, H', g1, g2, g3, g4⟩ := c_iaxesOf e2 h.op hop hor
              have hmap : (n.op.map fun x => d.getD x.toNat 0) = n.op.map (dimF n.ts) := List.map_congr_left fun x hx => by
                obtain ⟨x0, x1⟩ := hor x hx
                exact k3.get x x0 x1
              rw [hmap] at g4
              refine ⟨H', ?_, g2⟩
              rw [R_eq, e_iNetworkOk, c_iRingOk, hr, h.ts.1, h.op.n]
              simp only [Option.bind_some, one_bool, Bool.not_true, cond_false, hl', hop', decide_false]
              rw [lp]
              simp only [Bool.not_true, Bool.false_eq_true, if_false, Option.bind_some, Nat.beq, cond_true, cond_false]
              rw [e3]
              simp only [Option.bind_some, lenP, List.length_cons, List.length_nil, if_true, nthP, List.getElem?_cons_zero, List.getElem?_cons_succ, PV.agg?, PV.sc?, boolAt, hdl, hz, decide_true, cond_true, Nat.beq, Nat.zero_add, Nat.le_refl, Bool.not_true, cond_false, e6]
              rw [hco]
              simp only [cond_true, Option.bind_some, Nat.beq, cond_false, hdl, Nat.le_refl, decide_true, e7]
              rw [g1]
              simp only [Option.bind_some, oneP, PV.agg?, List.length_cons, List.length_nil, decide_true, cond_true, slAt, List.getElem?_cons_zero, List.getElem?_cons_succ]
              rw [c_iTensorSize g3 g4]
              simp only [Option.bind_some, one_int, oneP, PV.sc?, intAt, List.getElem?_cons_zero, if_true]
              by_cases hz : sizeB n.op (n.op.map (dimF n.ts)) = -1
              · rw [hz]; rfl
              · have h1 : (sizeB n.op (n.op.map (dimF n.ts)) != -1) = true := by simpa using hz
                have h2 : decide (sizeB n.op (n.op.map (dimF n.ts)) ≠ -1) = true := by simpa using hz
                rw [h1, h2]; rfl
          · rw [k2] at e1; cases e1
        · rcases cd with ⟨d', e1, _⟩ | ⟨e1, l, e2, e3⟩
          · rw [k2] at e1; cases e1
          · have hz : (zc P Y.t100_int).length = 100 := by rw [zc_dims]; simp
            rw [k1, hld]
            refine ⟨H, ?_, Le.refl H⟩
            rw [R_eq, e_iNetworkOk, c_iRingOk, hr, h.ts.1, h.op.n]
            simp only [Option.bind_some, one_bool, Bool.not_true, cond_false, hl', hop', decide_false]
            rw [lp]
            simp only [Bool.not_true, Bool.false_eq_true, if_false, Option.bind_some, Nat.beq, cond_true, cond_false]
            rw [e3]
            simp only [Option.bind_some, lenP, List.length_cons, List.length_nil, if_true, nthP, List.getElem?_cons_zero, List.getElem?_cons_succ, PV.agg?, PV.sc?, boolAt, e2, hz, decide_true, cond_true, Nat.beq, Nat.zero_add, Nat.le_refl, Bool.not_false]
            rfl
      · rw [hall] at lp
        have hc : consG n.r [] n.ts = false := cons_false hall
        rw [hc]
        refine ⟨H, ?_, Le.refl H⟩
        rw [R_eq, e_iNetworkOk, c_iRingOk, hr, h.ts.1, h.op.n]
        simp only [Option.bind_some, one_bool, Bool.not_true, cond_false, hl', hop', decide_false]
        rw [lp]
        simp [nthP, PV.sc?, boolAt]
    · have hop' : (n.op.length : Int) > 12 := by omega
      have : sizeB n.op (n.op.map (dimF n.ts)) = -1 := Decidable.byContradiction fun hne => hop (sizeB_open hne).1
      refine ⟨H, ?_, Le.refl H⟩
      rw [R_eq, e_iNetworkOk, c_iRingOk, hr, h.ts.1, h.op.n, this]
      simp [oneP, PV.sc?, boolAt, hl', hop']
  · refine ⟨H, ?_, Le.refl H⟩
    rw [R_eq, e_iNetworkOk, c_iRingOk, hr, h.ts.1]
    have hl' : (n.ts.length : Int) > 12 := by omega
    simp [oneP, PV.sc?, boolAt, hl', hl]
end Go.Abs
/- Contracts: rows of rows; the law's own helpers that only read. -/
namespace Go.Abs
set_option linter.unusedVariables false
set_option linter.unusedSimpArgs false

/-- A row of rows of whole numbers. -/
def I2 (H : AH) (s : Sl) (ll : List (List Int)) : Prop := s.n = ll.length ∧ s.n ≤ s.c ∧ (ll = [] ∨ ∃ cs, rdB H s.b = some cs ∧ ∀ (i : Nat) l, ll[i]? = some l → ∃ a, cs[s.o + i]? = some (.sl a) ∧ IS H a l)
theorem I2.le {H H' : AH} (h : Le H H') {s : Sl} {ll : List (List Int)} (k : I2 H s ll) : I2 H' s ll :=
  ⟨k.1, k.2.1, k.2.2.imp id fun ⟨cs, h1, h2⟩ => ⟨cs, h.rdB h1, fun i l hi => let ⟨a, e1, e2⟩ := h2 i l hi; ⟨a, e1, e2.le h⟩⟩⟩
theorem I2.ld {H : AH} {s : Sl} {ll : List (List Int)} (h : I2 H s ll) {i : Nat} (hi : i < ll.length) : ∃ a, IS H a ll[i] ∧ ∀ {α : Type} (k : Sl → Option α),
    ((ixA s (i : Int) 1).bind fun o => (rdB H s.b).bind fun q => (slAt q o).bind k) = k a := by
  obtain ⟨hn, _, rfl | ⟨cs, h1, h2⟩⟩ := h
  · simp at hi
  · obtain ⟨a, e1, e2⟩ := h2 i _ (List.getElem?_eq_getElem hi)
    refine ⟨a, e2, fun k => ?_⟩
    rw [ixA_nat (by omega)]
    simp only [Option.bind_some, h1, Nat.mul_one, slAt_get e1]

/-- laws.szIntS -/
theorem c_wszIntS (s : Sl) (left : Int) (h0 : 0 ≤ left) (h1 : left ≤ 1048576) (hs : s.n ≤ 9223372036854775807) (H : AH) : R (.fn F.wszIntS) [ssc s, isc left] H = some ⟨1, [isc (if left - s.n < 0 then -1 else left - s.n)], H⟩ := by
  rw [R_eq, e_wszIntS]
  have : IntKind.wrap .i64 (left - (s.n : Int)) = left - s.n := by rw [wrap_id] <;> omega
  rw [this]
  by_cases h : left - (s.n : Int) < 0
  · simp [h]
  · simp [h]

/-- laws.eqIntS -/
theorem c_weqIntS_0 {H : AH} {a b : Sl} {l m : List Int} (ha : IS H a l) (hb : IS H b m) (hl : l.length = m.length) (hm : l.length ≤ 1048576) : R (.loop F.weqIntS 0) [ssc a, ssc b, isc 0] H = cond (l == m) (some ⟨2, [], H⟩) (some ⟨1, [bsc false], H⟩) := by
  have := loopG (F := fun i : Nat => R (.loop F.weqIntS 0) [ssc a, ssc b, isc (i : Int)] H) (l := l) (fun q i => cond (q == m.drop i) (some ⟨2, [], H⟩) (some ⟨1, [bsc false], H⟩))
    (by rw [R_eq, e_weqIntS_0, ha.n, lt_self, List.drop_eq_nil_of_le (by omega)]; rfl) (fun i hi q hq => by
      have hi2 : i < m.length := by omega
      rw [R_eq, e_weqIntS_0, ha.n, ha.ldk hi, lt_true hi, w1 hi (by omega), cond_true, hb.ldk hi2, List.drop_eq_getElem_cons hi2]
      have hc : (l[i] :: q == m[i] :: m.drop (i + 1)) = (l[i] == m[i] && q == m.drop (i + 1)) := rfl
      rw [hc]
      by_cases h : l[i] = m[i]
      · have h1 : (l[i] != m[i]) = false := by simp [h]
        have h2 : (l[i] == m[i]) = true := by simp [h]
        rw [h1, h2, cond_false, Bool.true_and]; exact hq
      · have h1 : (l[i] != m[i]) = true := by simp [h]
        rw [h1, bf h]; rfl)
  exact this
theorem c_weqIntS {H : AH} {a b : Sl} {l m : List Int} (ha : IS H a l) (hb : IS H b m) (hm : l.length ≤ 1048576) : R (.fn F.weqIntS) [ssc a, ssc b] H = some ⟨1, [bsc (l == m)], H⟩ := by
  rw [R_eq, e_weqIntS, ha.n, hb.n]
  by_cases h : l.length = m.length
  · have h1 : ((l.length : Int) != (m.length : Int)) = false := by rw [h]; simp
    rw [h1, c_weqIntS_0 ha hb h hm]
    cases l == m <;> rfl
  · have h1 : ((l.length : Int) != (m.length : Int)) = true := by simp; omega
    have h2 : (l == m) = false := by
      rw [beq_eq_false_iff_ne]; rintro rfl; exact h rfl
    rw [h1, h2]; rfl

/- What reads alike is equal. -/
theorem c52_eq {H : AH} {a b : Sl} {l : List Int} (ha : IS H a l) (hb : IS H b l) (hm : l.length ≤ 1048576) : R (.fn F.weqIntS) [ssc a, ssc b] H = some ⟨1, [bsc true], H⟩ := by
  rw [c_weqIntS ha hb hm]; simp

theorem loop_all {α β : Type} {F : Nat → β} {l : List α} (fin : β) (hend : F l.length = fin) (hstep : ∀ i (h : i < l.length), F i = F (i + 1)) : F 0 = fin :=
  loopG (F := F) (l := l) (fun _ _ => fin) hend fun i h r hr => by rw [hstep i h]; exact hr

/-- laws.eqIntSS -/
theorem c76_eq {H : AH} {a b : Sl} {ll : List (List Int)} (ha : I2 H a ll) (hb : I2 H b ll) (hm : ll.length ≤ 1048576) (hl : ∀ l ∈ ll, l.length ≤ 1048576) : R (.fn F.weqIntSS) [ssc a, ssc b] H = some ⟨1, [bsc true], H⟩ := by
  have := loop_all (F := fun i : Nat => R (.loop F.weqIntSS 0) [ssc a, ssc b, isc (i : Int)] H) (l := ll) (some ⟨2, [], H⟩)
    (by rw [R_eq, e_weqIntSS_0, ha.1, lt_self]; rfl) (fun i hi => by
      obtain ⟨x, hx, kx⟩ := ha.ld hi
      obtain ⟨y, hy, ky⟩ := hb.ld hi
      rw [R_eq, e_weqIntSS_0, ha.1, lt_true hi, w1 hi (by omega), cond_true, kx, ky, c52_eq hx hy (hl _ (List.getElem_mem hi))]
      rfl)
  have this : R (.loop F.weqIntSS 0) [ssc a, ssc b, isc 0] H = some ⟨2, [], H⟩ := this
  rw [R_eq, e_weqIntSS, ha.1, hb.1, this]
  simp [Nat.beq]

/-- laws.eqCnf -/
theorem c20_eq {H : AH} {v : Int} {a b : Sl} {ll : List (List Int)} (ha : I2 H a ll) (hb : I2 H b ll) (hm : ll.length ≤ 1048576) (hl : ∀ l ∈ ll, l.length ≤ 1048576) : R (.fn F.weqCnf) [.agg [.int .i64 v, .sl a], .agg [.int .i64 v, .sl b]] H = some ⟨1, [bsc true], H⟩ := by
  rw [R_eq, e_weqCnf, c76_eq ha hb hm hl]
  simp [oneP, PV.sc?, boolAt]

theorem c74_eq (r : Rg) (H : AH) : R (.fn F.weqRing) [r.pv, r.pv] H = some ⟨1, [bsc true], H⟩ := by
  rw [R_eq, e_weqRing]; simp

def TnSmall (t : Tn) : Prop := t.L.length ≤ 1048576 ∧ t.D.length ≤ 1048576 ∧ t.X.length ≤ 1048576
/-- laws.eqTensor -/
theorem c11_eq {H : AH} {a b c a' b' c' : Sl} {t : Tn} (h : TS H a b c t) (k : TS H a' b' c' t) (hs : TnSmall t) : R (.fn F.weqTensor) [tpv a b c, tpv a' b' c'] H = some ⟨1, [bsc true], H⟩ := by
  rw [R_eq, e_weqTensor, c52_eq h.L k.L hs.1]
  simp only [Option.bind_some, one_bool, Bool.not_true, cond_false]
  rw [c52_eq h.D k.D hs.2.1]
  simp only [Option.bind_some, one_bool, Bool.not_true, cond_false]
  rw [c52_eq h.X k.X hs.2.2]
  rfl
/-- laws.eqTensorS -/
theorem c75_eq {H : AH} {a b : Sl} {ts : List Tn} (ha : T3 H a ts) (hb : T3 H b ts) (hm : ts.length ≤ 1048576) (hl : ∀ t ∈ ts, TnSmall t) : R (.fn F.weqTensorS) [ssc a, ssc b] H = some ⟨1, [bsc true], H⟩ := by
  have := loop_all (F := fun i : Nat => R (.loop F.weqTensorS 0) [ssc a, ssc b, isc (i : Int)] H) (l := ts) (some ⟨2, [], H⟩)
    (by rw [R_eq, e_weqTensorS_0, ha.1, lt_self]; rfl) (fun i hi => by
      obtain ⟨x, y, z, hx, kx⟩ := ha.ld hi
      obtain ⟨x', y', z', hx', kx'⟩ := hb.ld hi
      rw [R_eq, e_weqTensorS_0, ha.1, lt_true hi, w1 hi (by omega), cond_true, kx, kx', c11_eq hx hx' (hl _ (List.getElem_mem hi))]
      rfl)
  have this : R (.loop F.weqTensorS 0) [ssc a, ssc b, isc 0] H = some ⟨2, [], H⟩ := this
  rw [R_eq, e_weqTensorS, ha.1, hb.1, this]
  simp [Nat.beq]
/-- laws.eqNetwork -/
theorem c19_eq {H : AH} {s u s' u' : Sl} {n : Nw} (h : NS H s u n) (k : NS H s' u' n) (hm : n.ts.length ≤ 1048576) (hl : ∀ t ∈ n.ts, TnSmall t) (ho : n.op.length ≤ 1048576) : R (.fn F.weqNetwork) [npv n.r s u, npv n.r s' u'] H = some ⟨1, [bsc true], H⟩ := by
  rw [R_eq, e_weqNetwork, c74_eq]
  simp only [Option.bind_some, one_bool, Bool.not_true, cond_false]
  rw [c75_eq h.ts k.ts hm hl]
  simp only [Option.bind_some, one_bool, Bool.not_true, cond_false]
  rw [c52_eq h.op k.op ho]
  rfl

/-- laws.szIntSS: it says no, or all is small. -/
theorem c_wszIntSS {H : AH} {s : Sl} {ll : List (List Int)} (h : I2 H s ll) (hn : s.n ≤ 9223372036854775807) (hb : ∀ l ∈ ll, l.length ≤ 9223372036854775807) : ∃ v : Int, R (.fn F.wszIntSS) [ssc s, isc 1048576] H = some ⟨1, [isc v], H⟩ ∧ (v < 0 ∨ (ll.length ≤ 1048576 ∧ ∀ l ∈ ll, l.length ≤ 1048576)) := by
  have loop : ∀ (k i : Nat), i + k = ll.length → ll.length ≤ 1048576 → ∀ left : Int, 0 ≤ left → left ≤ 1048576 →
      (R (.loop F.wszIntSS 0) [ssc s, isc left, isc (i : Int)] H = some ⟨1, [isc (-1)], H⟩) ∨ ∃ v : Int, R (.loop F.wszIntSS 0) [ssc s, isc left, isc (i : Int)] H = some ⟨2, [isc v], H⟩ ∧ 0 ≤ v ∧ ∀ l ∈ ll.drop i, l.length ≤ 1048576 := by
    intro k
    induction k with
    | zero =>
      intro i hi hl left h0 h1
      obtain rfl : i = ll.length := by omega
      exact .inr ⟨left, by rw [R_eq, e_wszIntSS_0, h.1, lt_self]; rfl, h0, by simp⟩
    | succ k ih =>
      intro i hi hl left h0 h1
      have hlt : i < ll.length := by omega
      obtain ⟨a, ha, ka⟩ := h.ld hlt
      have hbi := hb _ (List.getElem_mem hlt)
      have hai : a.n ≤ 9223372036854775807 := by rw [ha.n]; exact hbi
      rw [R_eq, e_wszIntSS_0, h.1, lt_true hlt, w1 hlt (by omega), cond_true, ka, c_wszIntS a left h0 h1 hai]
      simp only [Option.bind_some, one_int]
      by_cases hneg : left - (a.n : Int) < 0
      · rw [if_pos hneg]; exact .inl rfl
      · rw [if_neg hneg]
        have hd : decide (left - (a.n : Int) < 0) = false := by simpa using hneg
        rw [hd, cond_false]
        rcases ih (i + 1) (by omega) hl (left - a.n) (by omega) (by omega) with h2 | ⟨v, h2, h3, h4⟩
        · exact .inl h2
        · refine .inr ⟨v, h2, h3, fun l hl' => ?_⟩
          rw [List.drop_eq_getElem_cons hlt] at hl'
          rcases List.mem_cons.1 hl' with rfl | hl'
          · rw [← ha.n]; omega
          · exact h4 l hl'
  have hw : IntKind.wrap .i64 ((1048576 : Int) - (s.n : Int)) = 1048576 - s.n := by rw [wrap_id] <;> omega
  rw [R_eq, e_wszIntSS, hw]
  by_cases hneg : (1048576 : Int) - (s.n : Int) < 0
  · exact ⟨-1, by simp [hneg], .inl (by omega)⟩
  · have hd : decide ((1048576 : Int) - (s.n : Int) < 0) = false := by simpa using hneg
    rw [hd, cond_false]
    have hll : ll.length ≤ 1048576 := by have := h.1; omega
    rcases loop ll.length 0 (by omega) hll (1048576 - s.n) (by omega) (by omega) with h2 | ⟨v, h2, h3, h4⟩
    · have h2 : R (.loop F.wszIntSS 0) [ssc s, isc (1048576 - s.n), isc 0] H = some ⟨1, [isc (-1)], H⟩ := h2
      rw [h2]
      exact ⟨-1, rfl, .inl (by omega)⟩
    · have h2 : R (.loop F.wszIntSS 0) [ssc s, isc (1048576 - s.n), isc 0] H = some ⟨2, [isc v], H⟩ := h2
      rw [h2]
      exact ⟨v, rfl, .inr ⟨hll, by simpa using h4⟩⟩
end Go.Abs
/- Contracts: formulas. -/
namespace Go.Abs
set_option linter.unusedVariables false
set_option linter.unusedSimpArgs false

def litB (v x : Int) : Bool := !(x == 0) && inB x (-v) v
def clauseB (v : Int) (l : List Int) : Bool := decide (l.length ≤ 4) && l.all (litB v)
def cnfB (v : Int) (ll : List (List Int)) : Bool := inB v 0 10 && decide (ll.length ≤ 12) && ll.all (clauseB v)
@[reducible] def cpv (v : Int) (s : Sl) : PV := .agg [.int .i64 v, .sl s]

theorem any_notT {α : Type} (p : α → Bool) (l : List α) : (l.any fun x => !p x) = !(l.all p) := by
  induction l with
  | nil => rfl
  | cons x l ih => simp only [List.any_cons, List.all_cons, ih, Bool.not_and]
theorem if_cond {α : Type} (b : Bool) (x y : α) : (if b = true then x else y) = cond b x y := by cases b <;> rfl
theorem loop_allB {α β : Type} {F : Nat → β} {l : List α} (p : α → Bool) (ok bad : β) (hend : F l.length = ok) (hstep : ∀ i (h : i < l.length), F i = cond (p l[i]) (F (i + 1)) bad) : F 0 = cond (l.all p) ok bad :=
  loopG (F := F) (l := l) (fun q _ => cond (q.all p) ok bad) hend fun i h r hr => by
    rw [hstep i h, hr]
    have : (l[i] :: r).all p = (p l[i] && r.all p) := rfl
    rw [this]
    rcases Bool.eq_false_or_eq_true (p l[i]) with h | h <;> rw [h] <;> rfl

theorem c_sCnfOk_1 {H : AH} {v : Int} {a s : Sl} {l : List Int} (hv : 0 ≤ v ∧ v ≤ 10) (ha : IS H a l) (hl : l.length ≤ 4) : R (.loop F.sCnfOk 1) [ssc a, isc (l.length : Int), isc 0, cpv v s] H = cond (l.all (litB v)) (some ⟨4, [], H⟩) (some ⟨1, [bsc false], H⟩) :=
  loop_allB (F := fun i : Nat => R (.loop F.sCnfOk 1) [ssc a, isc (l.length : Int), isc (i : Int), cpv v s] H) (l := l) (litB v) _ _
    (by rw [R_eq, e_sCnfOk_1, lt_self]; rfl) (fun i hi => by
      have hw : IntKind.wrap .i64 (0 - v) = -v := by rw [wrap_id] <;> omega
      rw [R_eq, e_sCnfOk_1, ha.ldk hi, lt_true hi, w1 hi (by omega), cond_true, hw]
      simp only [c_sl01In, Option.bind_some, one_bool, litB]
      cases l[i] == 0 with
      | true => rfl
      | false =>
        simp only [cond_false, Bool.not_false, Bool.true_and]
        cases inB l[i] (-v) v <;> rfl)
theorem c_sCnfOk {H : AH} {v : Int} {s : Sl} {ll : List (List Int)} (h : I2 H s ll) : R (.fn F.sCnfOk) [cpv v s] H = some ⟨1, [bsc (cnfB v ll)], H⟩ := by
  rw [R_eq, e_sCnfOk, h.1]
  unfold cnfB
  simp only [c_sl01In, Option.bind_some, one_bool]
  cases hv : inB v 0 10 with
  | false => rfl
  | true =>
    have hv' : 0 ≤ v ∧ v ≤ 10 := by simp only [inB, Bool.and_eq_true, decide_eq_true_eq] at hv; omega
    by_cases hl : ll.length ≤ 12
    · have hl' : decide ((ll.length : Int) > 12) = false := by simp; omega
      have hl2 : decide (ll.length ≤ 12) = true := by simpa using hl
      have := loop_allB (F := fun i : Nat => R (.loop F.sCnfOk 0) [ssc s, isc (ll.length : Int), isc (i : Int), cpv v s] H) (l := ll) (clauseB v) (some ⟨2, [], H⟩) (some ⟨1, [bsc false], H⟩)
        (by rw [R_eq, e_sCnfOk_0, lt_self]; rfl) (fun i hi => by
          obtain ⟨a, ha, ka⟩ := h.ld hi
          rw [R_eq, e_sCnfOk_0, lt_true hi, w1 hi (by omega), cond_true, ka, ha.n]
          unfold clauseB
          by_cases h4 : ll[i].length ≤ 4
          · have e1 : decide ((ll[i].length : Int) > 4) = false := by simp; omega
            have e2 : decide (ll[i].length ≤ 4) = true := by simpa using h4
            rw [e1, e2, cond_false, c_sCnfOk_1 hv' ha h4]
            cases ll[i].all (litB v) <;> rfl
          · have e1 : decide ((ll[i].length : Int) > 4) = true := by simp; omega
            have e2 : decide (ll[i].length ≤ 4) = false := by simpa using h4
            rw [e1, e2]; rfl)
      have this : R (.loop F.sCnfOk 0) [ssc s, isc (ll.length : Int), isc 0, cpv v s] H = _ := this
      simp only [Bool.not_true, cond_false, hl', hl2, Bool.true_and]
      rw [this]
      cases ll.all (clauseB v) <;> rfl
    · have hl' : decide ((ll.length : Int) > 12) = true := by simp; omega
      have hl2 : decide (ll.length ≤ 12) = false := by simpa using hl
      rw [hl', hl2]; rfl

theorem c_iCnfOk_1 {H : AH} {v : Int} {a s : Sl} {l : List Int} (hv : 0 ≤ v ∧ v ≤ 10) (ha : IS H a l) (hl : l.length ≤ 4) : R (.loop F.iCnfOk 1) [ssc a, isc (l.length : Int), isc 0, cpv v s] H = cond (l.all (litB v)) (some ⟨4, [], H⟩) (some ⟨1, [bsc false], H⟩) :=
  loop_allB (F := fun i : Nat => R (.loop F.iCnfOk 1) [ssc a, isc (l.length : Int), isc (i : Int), cpv v s] H) (l := l) (litB v) _ _
    (by rw [R_eq, e_iCnfOk_1, lt_self]; rfl) (fun i hi => by
      have hw : IntKind.wrap .i64 (0 - v) = -v := by rw [wrap_id] <;> omega
      rw [R_eq, e_iCnfOk_1, ha.ldk hi, lt_true hi, w1 hi (by omega), cond_true, hw]
      simp only [litB]
      cases l[i] == 0 with
      | true => rfl
      | false =>
        simp only [cond_false, Bool.not_false, Bool.true_and, inB]
        by_cases h1 : l[i] < -v
        · have h2 : ¬ l[i] ≥ -v := by omega
          simp [h1, h2]
        · have h2 : l[i] ≥ -v := by omega
          by_cases h3 : l[i] > v
          · have h4 : ¬ l[i] ≤ v := by omega
            simp [h1, h2, h3, h4]
          · have h4 : l[i] ≤ v := by omega
            simp [h1, h2, h3, h4])
theorem c_iCnfOk {H : AH} {v : Int} {s : Sl} {ll : List (List Int)} (h : I2 H s ll) : R (.fn F.iCnfOk) [cpv v s] H = some ⟨1, [bsc (cnfB v ll)], H⟩ := by
  rw [R_eq, e_iCnfOk, h.1]
  unfold cnfB
  by_cases hv0 : v < 0
  · have : inB v 0 10 = false := by simp [inB]; omega
    simp [hv0, this]
  by_cases hv1 : v > 10
  · have : inB v 0 10 = false := by simp [inB]; omega
    simp [hv0, hv1, this]
  have hv : inB v 0 10 = true := by simp [inB]; omega
  by_cases hl : ll.length ≤ 12
  · have hl' : decide ((ll.length : Int) > 12) = false := by simp; omega
    have hl2 : decide (ll.length ≤ 12) = true := by simpa using hl
    have := loop_allB (F := fun i : Nat => R (.loop F.iCnfOk 0) [ssc s, isc (ll.length : Int), isc (i : Int), cpv v s] H) (l := ll) (clauseB v) (some ⟨2, [], H⟩) (some ⟨1, [bsc false], H⟩)
      (by rw [R_eq, e_iCnfOk_0, lt_self]; rfl) (fun i hi => by
        obtain ⟨a, ha, ka⟩ := h.ld hi
        rw [R_eq, e_iCnfOk_0, lt_true hi, w1 hi (by omega), cond_true, ka, ha.n]
        unfold clauseB
        by_cases h4 : ll[i].length ≤ 4
        · have e1 : decide ((ll[i].length : Int) > 4) = false := by simp; omega
          have e2 : decide (ll[i].length ≤ 4) = true := by simpa using h4
          rw [e1, e2, cond_false, c_iCnfOk_1 ⟨by omega, by omega⟩ ha h4]
          cases ll[i].all (litB v) <;> rfl
        · have e1 : decide ((ll[i].length : Int) > 4) = true := by simp; omega
          have e2 : decide (ll[i].length ≤ 4) = false := by simpa using h4
          rw [e1, e2]; rfl)
    have this : R (.loop F.iCnfOk 0) [ssc s, isc (ll.length : Int), isc 0, cpv v s] H = _ := this
    have d0 : decide (v < 0) = false := by simpa using hv0
    have d1 : decide (v > 10) = false := by simpa using hv1
    rw [d0, d1, hl', hl2, hv, cond_false, cond_false, cond_false, this]
    cases ll.all (clauseB v) <;> rfl
  · have hl' : decide ((ll.length : Int) > 12) = true := by simp; omega
    have hl2 : decide (ll.length ≤ 12) = false := by simpa using hl
    have d0 : decide (v < 0) = false := by simpa using hv0
    have d1 : decide (v > 10) = false := by simpa using hv1
    rw [d0, d1, hl', hl2, hv]; rfl
end Go.Abs
/- Contracts: rows that are filled. -/
namespace Go.Abs
set_option linter.unusedVariables false
set_option linter.unusedSimpArgs false

/-- A new row is filled place by place, while what was there before stays. -/
theorem set_le {H0 Hc : AH} {b : Nat} {k : Blk} (h : Le H0 Hc) (hb : H0.length ≤ b) : Le H0 (Hc.set b k) :=
  ⟨by simp; exact h.len, fun c hc => by rw [List.getElem?_set_ne (by omega)]; exact h.get c hc⟩

/-- laws.toIntS -/
theorem c_wtoIntS {H : AH} {s : Sl} {l : List Int} (h : IS H s l) (hl : l.length ≤ 1048576) : ∃ H', R (.fn F.wtoIntS) [ssc s] H = some ⟨1, [ssc ⟨H.length, 0, l.length, l.length, true⟩], H'⟩ ∧ Le H H' ∧ H'.length = H.length + 1 ∧ H'[H.length]? = some ⟨ics l, .rw, 1⟩ := by
  have loop : ∀ (k i : Nat), i + k = l.length → ∀ (Hc : AH) (cs : List Int), Le H Hc → Hc.length = H.length + 1 → Hc[H.length]? = some ⟨ics cs, .rw, 1⟩ → cs.length = l.length → (∀ j x, j < i → l[j]? = some x → cs[j]? = some x) →
      ∃ H', R (.loop F.wtoIntS 0) [ssc s, ssc ⟨H.length, 0, l.length, l.length, true⟩, isc (i : Int)] Hc = some ⟨2, [], H'⟩ ∧ Le H H' ∧ H'.length = H.length + 1 ∧ H'[H.length]? = some ⟨ics l, .rw, 1⟩ := by
    intro k
    induction k with
    | zero =>
      intro i hi Hc cs hle hlen hb hcl hcs
      obtain rfl : i = l.length := by omega
      refine ⟨Hc, by rw [R_eq, e_wtoIntS_0, h.n, lt_self]; rfl, hle, hlen, ?_⟩
      have : cs = l := by
        refine List.ext_getElem? fun j => ?_
        rcases Nat.lt_or_ge j l.length with hj | hj
        · rw [hcs j l[j] hj (List.getElem?_eq_getElem hj), List.getElem?_eq_getElem hj]
        · rw [List.getElem?_eq_none (by omega), List.getElem?_eq_none hj]
      rw [← this]; exact hb
    | succ k ih =>
      intro i hi Hc cs hle hlen hb hcl hcs
      have hlt : i < l.length := by omega
      rw [R_eq, e_wtoIntS_0, h.n, lt_true hlt, w1 hlt (by omega), cond_true, (h.le hle).ldk hlt]
      rw [put_own hb hlt (by omega)]
      refine ih (i + 1) (by omega) _ (cs.set i l[i]) (set_le hle (Nat.le_refl _)) (by simpa using hlen) (by simp [hlen]) (by simp [hcl]) (fun j x hj hjx => ?_)
      by_cases e : i = j
      · subst e
        rw [List.getElem?_eq_getElem hlt] at hjx
        cases hjx
        simp [hcl, hlt]
      · rw [List.getElem?_set_ne e]; exact hcs j x (by omega) hjx
  have hm := mk_ints (H := H) (n := l.length) (by omega)
  obtain ⟨H', e, l1, l2, b1⟩ := loop l.length 0 (by omega) (H ++ [⟨ics (List.replicate l.length 0), .rw, 1⟩]) (List.replicate l.length 0) (Le.app _ _) (by simp) (by simp) (by simp) (fun j x hj => by omega)
  have e : R (.loop F.wtoIntS 0) [ssc s, ssc ⟨H.length, 0, l.length, l.length, true⟩, isc 0] (H ++ [⟨ics (List.replicate l.length 0), .rw, 1⟩]) = some ⟨2, [], H'⟩ := e
  refine ⟨H', ?_, l1, l2, b1⟩
  rw [R_eq, e_wtoIntS, h.n, hm]
  simp only [Option.bind_some]
  rw [e]; rfl

@[reducible] def rowAt (b : Nat) (l : List Int) : Sl := ⟨b, 0, l.length, l.length, true⟩

/-- laws.toIntSS -/
theorem c_wtoIntSS {H : AH} {s : Sl} {ll : List (List Int)} (h : I2 H s ll) (hl : ll.length ≤ 1048576) (hll : ∀ l ∈ ll, l.length ≤ 1048576) :
    ∃ H' cs, R (.fn F.wtoIntSS) [ssc s] H = some ⟨1, [ssc ⟨H.length, 0, ll.length, ll.length, true⟩], H'⟩ ∧ Le H H' ∧ H'.length = H.length + 1 + ll.length ∧ H'[H.length]? = some ⟨cs, .rw, 1⟩ ∧
      ∀ (j : Nat) l, ll[j]? = some l → cs[j]? = some (.sl (rowAt (H.length + 1 + j) l)) ∧ H'[H.length + 1 + j]? = some ⟨ics l, .rw, 1⟩ := by
  have loop : ∀ (k i : Nat), i + k = ll.length → ∀ (Hc : AH) (cs : List Sc), Le H Hc → Hc.length = H.length + 1 + i → Hc[H.length]? = some ⟨cs, .rw, 1⟩ → cs.length = ll.length →
      (∀ (j : Nat) l, j < i → ll[j]? = some l → cs[j]? = some (.sl (rowAt (H.length + 1 + j) l)) ∧ Hc[H.length + 1 + j]? = some ⟨ics l, .rw, 1⟩) →
      ∃ H' cs', R (.loop F.wtoIntSS 0) [ssc s, ssc ⟨H.length, 0, ll.length, ll.length, true⟩, isc (i : Int)] Hc = some ⟨2, [], H'⟩ ∧ Le H H' ∧ H'.length = H.length + 1 + ll.length ∧ H'[H.length]? = some ⟨cs', .rw, 1⟩ ∧
        ∀ (j : Nat) l, ll[j]? = some l → cs'[j]? = some (.sl (rowAt (H.length + 1 + j) l)) ∧ H'[H.length + 1 + j]? = some ⟨ics l, .rw, 1⟩ := by
    intro k
    induction k with
    | zero =>
      intro i hi Hc cs hle hlen hb hcl hcs
      obtain rfl : i = ll.length := by omega
      refine ⟨Hc, cs, by rw [R_eq, e_wtoIntSS_0, h.1, lt_self]; rfl, hle, hlen, hb, fun j l hj => hcs j l ?_ hj⟩
      exact (List.getElem?_eq_some_iff.1 hj).1
    | succ k ih =>
      intro i hi Hc cs hle hlen hb hcl hcs
      have hlt : i < ll.length := by omega
      obtain ⟨a, ha, ka⟩ := (h.le hle).ld hlt
      obtain ⟨H1, e1, l1, n1, b1⟩ := c_wtoIntS ha (hll _ (List.getElem_mem hlt))
      have hbl : H.length < Hc.length := (List.getElem?_eq_some_iff.1 hb).1
      have hb1 : H1[H.length]? = some ⟨cs, .rw, 1⟩ := by rw [l1.get _ hbl]; exact hb
      rw [R_eq, e_wtoIntSS_0, h.1, lt_true hlt, w1 hlt (by omega), cond_true, ka, e1]
      simp only [Option.bind_some]
      rw [show ((oneP [PV.sc (Sc.sl ⟨Hc.length, 0, ll[i].length, ll[i].length, true⟩)]).bind fun p6 => p6.sc?.bind fun c7 => (slAt [c7] 0).bind fun s8 =>
          (ixA ⟨H.length, 0, ll.length, ll.length, true⟩ (i : Int) 1).bind fun o9 => (putR H1 H.length o9 [Sc.sl s8]).bind fun H10 => R (.loop F.wtoIntSS 0) [.sc (.sl s), .sc (.sl ⟨H.length, 0, ll.length, ll.length, true⟩), .sc (.int .i64 ((i + 1 : Nat) : Int))] H10) =
          (ixA ⟨H.length, 0, ll.length, ll.length, true⟩ (i : Int) 1).bind fun o9 => (putR H1 H.length o9 [Sc.sl ⟨Hc.length, 0, ll[i].length, ll[i].length, true⟩]).bind fun H10 => R (.loop F.wtoIntSS 0) [.sc (.sl s), .sc (.sl ⟨H.length, 0, ll.length, ll.length, true⟩), .sc (.int .i64 ((i + 1 : Nat) : Int))] H10 from rfl]
      rw [ixA_nat (by exact hlt)]
      simp only [Option.bind_some, Nat.zero_add, Nat.mul_one]
      rw [putR_one hb1 (by omega)]
      simp only [Option.bind_some]
      refine ih (i + 1) (by omega) _ (cs.set i (.sl ⟨Hc.length, 0, ll[i].length, ll[i].length, true⟩)) (set_le (hle.trans l1) (Nat.le_refl _)) (by simp [n1, hlen]; omega) (by rw [List.getElem?_set_self (by omega)]) (by simpa using hcl) (fun j l hj hjl => ?_)
      by_cases e : j = i
      · subst e
        rw [List.getElem?_eq_getElem hlt] at hjl
        cases hjl
        refine ⟨?_, ?_⟩
        · rw [List.getElem?_set_self (by omega), hlen]
        · rw [List.getElem?_set_ne (by omega), ← hlen]; exact b1
      · obtain ⟨g1, g2⟩ := hcs j l (by omega) hjl
        refine ⟨by rw [List.getElem?_set_ne (by omega)]; exact g1, ?_⟩
        rw [List.getElem?_set_ne (by omega), l1.get _ (by omega)]; exact g2
  have hm : mkB H 1 24 [.sl ⟨0, 0, 0, 0, true⟩] (ll.length : Int) (ll.length : Int) = some (⟨H.length, 0, ll.length, ll.length, true⟩, H ++ [⟨List.replicate ll.length (.sl ⟨0, 0, 0, 0, true⟩), .rw, 1⟩]) := by
    unfold mkB
    rw [if_pos ⟨by omega, by omega, by omega, by omega, by unfold most; omega⟩]
    simp [List.flatten_replicate_singleton]
  obtain ⟨H', cs, e, l1, l2, b1, g⟩ := loop ll.length 0 (by omega) (H ++ [⟨List.replicate ll.length (.sl ⟨0, 0, 0, 0, true⟩), .rw, 1⟩]) (List.replicate ll.length (.sl ⟨0, 0, 0, 0, true⟩)) (Le.app _ _) (by simp) (by simp) (by simp) (fun j l hj => by omega)
  have e : R (.loop F.wtoIntSS 0) [ssc s, ssc ⟨H.length, 0, ll.length, ll.length, true⟩, isc 0] (H ++ [⟨List.replicate ll.length (.sl ⟨0, 0, 0, 0, true⟩), .rw, 1⟩]) = some ⟨2, [], H'⟩ := e
  refine ⟨H', cs, ?_, l1, l2, b1, g⟩
  rw [R_eq, e_wtoIntSS, h.1, hm]
  simp only [Option.bind_some]
  rw [e]; rfl

/-- laws.toRing -/
theorem c_wtoRing (r : Rg) (H : AH) : R (.fn F.wtoRing) [r.pv] H = some ⟨1, [r.pv], H⟩ := by
  rw [R_eq, e_wtoRing]
end Go.Abs
/- Contracts: marks, and whether they are held. -/
namespace Go.Abs
set_option linter.unusedVariables false
set_option linter.unusedSimpArgs false

def seqL (k : Int) : Nat → List Int
  | 0 => []
  | n + 1 => k :: seqL (k + 1) n
theorem seqL_len : ∀ (n : Nat) (k : Int), (seqL k n).length = n
  | 0, k => rfl
  | n + 1, k => by simp [seqL, seqL_len n]
theorem seqL_get : ∀ (n : Nat) (k : Int) (i : Nat), i < n → (seqL k n)[i]? = some (k + i)
  | n + 1, k, 0, _ => by simp [seqL]
  | n + 1, k, i + 1, h => by
    simp only [seqL, List.getElem?_cons_succ]
    rw [seqL_get n (k + 1) i (by omega)]
    congr 1; omega

/-- laws.markIntS -/
theorem c_wmarkIntS {n0 : Nat} {H : AH} {s : Sl} {l : List Int} (h : Own n0 H s l) (hl : l.length ≤ 4194304) {k : Int} (h0 : 0 ≤ k) (h1 : k ≤ 1099511627776) :
    ∃ H', R (.fn F.wmarkIntS) [ssc s, isc k] H = some ⟨1, [isc (k + l.length)], H'⟩ ∧ H'.length = H.length ∧ (∀ b, (b ≠ s.b ∨ l = []) → H'[b]? = H[b]?) ∧ Own n0 H' s (seqL k l.length) := by
  obtain ⟨b, o, n, c, x⟩ := s
  have ho := h.o; have hn := h.n; have hc := h.c
  simp only at ho hn hc
  subst ho; subst hn; subst hc
  by_cases hl0 : l = []
  · subst hl0
    refine ⟨H, ?_, rfl, fun _ _ => rfl, h⟩
    have : R (.loop F.wmarkIntS 0) [ssc ⟨b, 0, 0, 0, x⟩, isc k, isc 0] H = some ⟨2, [isc k], H⟩ := by
      rw [R_eq, e_wmarkIntS_0]; rfl
    rw [R_eq, e_wmarkIntS]
    simp only [List.length_nil]
    rw [this]
    simp [nthP, PV.sc?, intAt, Nat.beq]
  · have hb : H[b]? = some ⟨ics l, .rw, 1⟩ := by
      rcases h.blk with ⟨e, _⟩ | ⟨_, e⟩
      · exact absurd e hl0
      · exact e
    have loop : ∀ (m i : Nat), i + m = l.length → ∀ (Hc : AH) (cs : List Int), Hc.length = H.length → (∀ d, d ≠ b → Hc[d]? = H[d]?) → Hc[b]? = some ⟨ics cs, .rw, 1⟩ → cs.length = l.length → (∀ j, j < i → cs[j]? = some (k + j)) →
        ∃ H', R (.loop F.wmarkIntS 0) [ssc ⟨b, 0, l.length, l.length, x⟩, isc (k + i), isc (i : Int)] Hc = some ⟨2, [isc (k + l.length)], H'⟩ ∧ H'.length = H.length ∧ (∀ d, d ≠ b → H'[d]? = H[d]?) ∧ H'[b]? = some ⟨ics (seqL k l.length), .rw, 1⟩ := by
      intro m
      induction m with
      | zero =>
        intro i hi Hc cs hlen hoth hcb hcl hcs
        obtain rfl : i = l.length := by omega
        refine ⟨Hc, by rw [R_eq, e_wmarkIntS_0, lt_self]; rfl, hlen, hoth, ?_⟩
        have : cs = seqL k l.length := by
          refine List.ext_getElem? fun j => ?_
          rcases Nat.lt_or_ge j l.length with hj | hj
          · rw [hcs j hj, seqL_get _ _ _ hj]
          · rw [List.getElem?_eq_none (by omega), List.getElem?_eq_none (by rw [seqL_len]; exact hj)]
        rw [← this]; exact hcb
      | succ m ih =>
        intro i hi Hc cs hlen hoth hcb hcl hcs
        have hlt : i < l.length := by omega
        have hw : IntKind.wrap .i64 (k + (i : Int) + 1) = k + ((i + 1 : Nat) : Int) := by rw [wrap_id] <;> omega
        have hbl : b < Hc.length := (List.getElem?_eq_some_iff.1 hcb).1
        rw [R_eq, e_wmarkIntS_0, lt_true hlt, w1 hlt hl, cond_true, hw]
        rw [put_own hcb hlt (by omega)]
        refine ih (i + 1) (by omega) _ (cs.set i (k + i)) (by simpa using hlen) (fun d hd => by rw [List.getElem?_set_ne (Ne.symm hd)]; exact hoth d hd) (by rw [List.getElem?_set_self hbl]) (by simpa using hcl) (fun j hj => ?_)
        by_cases e : i = j
        · subst e; rw [List.getElem?_set_self (by omega)]
        · rw [List.getElem?_set_ne e]; exact hcs j (by omega)
    obtain ⟨H', e, l1, o1, b1⟩ := loop l.length 0 (by omega) H l rfl (fun _ _ => rfl) hb rfl (fun j hj => by omega)
    have e : R (.loop F.wmarkIntS 0) [ssc ⟨b, 0, l.length, l.length, x⟩, isc k, isc 0] H = some ⟨2, [isc (k + l.length)], H'⟩ := by
      have := e
      simp only [Int.natCast_zero, Int.add_zero] at this
      exact this
    refine ⟨H', ?_, l1, fun d hd => ?_, ⟨rfl, by rw [seqL_len], by rw [seqL_len], ?_, ?_⟩⟩
    · rw [R_eq, e_wmarkIntS, e]; rfl
    · rcases hd with hd | hd
      · exact o1 d hd
      · exact absurd hd hl0
    · rcases h.lo with e | e
      · exact absurd e hl0
      · exact .inr e
    · refine .inr ⟨fun e => hl0 ?_, b1⟩
      have := congrArg List.length e
      rw [seqL_len] at this
      exact List.length_eq_zero_iff.1 this

/-- laws.heldIntS, where the marks are held -/
theorem c_wheldIntS {H : AH} {s : Sl} {n : Nat} {k : Int} (h : IS H s (seqL k n)) (hl : n ≤ 4194304) (h0 : 0 ≤ k) (h1 : k ≤ 1099511627776) : R (.fn F.wheldIntS) [ssc s, isc k] H = some ⟨1, [isc (k + n)], H⟩ := by
  have hn : s.n = n := by rw [h.n, seqL_len]
  have loop : ∀ (m i : Nat), i + m = n → R (.loop F.wheldIntS 0) [ssc s, isc (k + i), isc (i : Int)] H = some ⟨2, [isc (k + n)], H⟩ := by
    intro m
    induction m with
    | zero =>
      intro i hi
      obtain rfl : i = n := by omega
      rw [R_eq, e_wheldIntS_0, hn, lt_self]; rfl
    | succ m ih =>
      intro i hi
      have hlt : i < n := by omega
      have hlt' : i < (seqL k n).length := by rw [seqL_len]; exact hlt
      have hx : (seqL k n)[i] = k + i := by
        have := seqL_get n k i hlt
        rw [List.getElem?_eq_getElem hlt'] at this
        exact Option.some.inj this
      have hw : IntKind.wrap .i64 (k + (i : Int) + 1) = k + ((i + 1 : Nat) : Int) := by rw [wrap_id] <;> omega
      rw [R_eq, e_wheldIntS_0, hn, lt_true hlt, w1 hlt hl, cond_true, h.ldk hlt', hx, hw]
      have : ((k + (i : Int)) != (k + (i : Int))) = false := by simp
      rw [this, cond_false]
      exact ih (i + 1) (by omega)
  have e := loop n 0 (by omega)
  simp only [Int.natCast_zero, Int.add_zero] at e
  rw [R_eq, e_wheldIntS]
  rw [show R (.loop F.wheldIntS 0) [.sc (.sl s), .sc (.int .i64 k), .sc (.int .i64 0)] H = _ from e]
  rfl
end Go.Abs
/- Contracts: the rows of a network, marked and held. -/
namespace Go.Abs
set_option linter.unusedVariables false
set_option linter.unusedSimpArgs false

abbrev Row := Sl × List Int
def apartR (p q : Row) : Prop := p.2 = [] ∨ q.2 = [] ∨ p.1.b ≠ q.1.b
/-- Rows of their own, no two of which share a block. -/
structure Rows (n0 : Nat) (H : AH) (rs : List Row) : Prop where
  own : ∀ p ∈ rs, Own n0 H p.1 p.2
  apart : rs.Pairwise apartR

theorem apartR.symm {p q : Row} (h : apartR p q) : apartR q p := by
  rcases h with h | h | h
  · exact .inr (.inl h)
  · exact .inl h
  · exact .inr (.inr (Ne.symm h))

/-- A row in the midst of others is marked. -/
theorem mark_row {n0 : Nat} {H : AH} {xs ys : List Row} {p : Row} (h : Rows n0 H (xs ++ p :: ys)) (hl : p.2.length ≤ 4194304) {k : Int} (h0 : 0 ≤ k) (h1 : k ≤ 1099511627776) :
    ∃ H', R (.fn F.wmarkIntS) [ssc p.1, isc k] H = some ⟨1, [isc (k + p.2.length)], H'⟩ ∧ H'.length = H.length ∧ (∀ b, (b ≠ p.1.b ∨ p.2 = []) → H'[b]? = H[b]?) ∧ Rows n0 H' (xs ++ (p.1, seqL k p.2.length) :: ys) := by
  obtain ⟨H', e, l1, f1, o1⟩ := c_wmarkIntS (h.own p (by simp)) hl h0 h1
  have hnil : seqL k p.2.length = [] ↔ p.2 = [] := by
    constructor
    · intro e
      have := congrArg List.length e
      rw [seqL_len] at this
      exact List.length_eq_zero_iff.1 this
    · intro e; rw [e]; rfl
  have hpa := h.apart
  rw [List.pairwise_append] at hpa
  obtain ⟨pa1, pa2, pa3⟩ := hpa
  rw [List.pairwise_cons] at pa2
  have hother : ∀ q : Row, apartR p q → Own n0 H q.1 q.2 → Own n0 H' q.1 q.2 := fun q hq ho => ho.mono fun hne => f1 _ (by
    rcases hq with hq | hq | hq
    · exact .inr hq
    · exact absurd hq hne
    · exact .inl (Ne.symm hq))
  refine ⟨H', e, l1, f1, ⟨fun q hq => ?_, ?_⟩⟩
  · rcases List.mem_append.1 hq with hq | hq
    · exact hother q (pa3 q hq p (by simp)).symm (h.own q (by simp [hq]))
    · rcases List.mem_cons.1 hq with rfl | hq
      · exact o1
      · exact hother q (pa2.1 q hq) (h.own q (by simp [hq]))
  · rw [List.pairwise_append, List.pairwise_cons]
    have tr : ∀ q : Row, apartR p q → apartR (p.1, seqL k p.2.length) q := fun q hq => by
      rcases hq with hq | hq | hq
      · exact .inl (hnil.2 hq)
      · exact .inr (.inl hq)
      · exact .inr (.inr hq)
    refine ⟨pa1, ⟨fun q hq => tr q (pa2.1 q hq), pa2.2⟩, fun q hq q' hq' => ?_⟩
    rcases List.mem_cons.1 hq' with rfl | hq'
    · exact (tr q (pa3 q hq p (by simp)).symm).symm
    · exact pa3 q hq q' (by simp [hq'])

/-- The three rows of a tensor. -/
@[reducible] def rows3 (a b c : Sl) (t : Tn) : List Row := [(a, t.L), (b, t.D), (c, t.X)]
def relT (k : Int) (t : Tn) : Tn := ⟨seqL k t.L.length, seqL (k + t.L.length) t.D.length, seqL (k + t.L.length + t.D.length) t.X.length⟩
def cntT (t : Tn) : Int := t.L.length + t.D.length + t.X.length
theorem cntT_pos (t : Tn) : 0 ≤ cntT t := by unfold cntT; omega
def cntTs : List Tn → Int
  | [] => 0
  | t :: ts => cntT t + cntTs ts
theorem cntTs_pos : ∀ ts, 0 ≤ cntTs ts
  | [] => Int.le_refl _
  | t :: ts => by have := cntT_pos t; have := cntTs_pos ts; unfold cntTs; omega
def relTs : Int → List Tn → List Tn
  | _, [] => []
  | k, t :: ts => relT k t :: relTs (k + cntT t) ts
abbrev Tri := Sl × Sl × Sl
def rowsT : List Tri → List Tn → List Row
  | x :: xs, t :: ts => rows3 x.1 x.2.1 x.2.2 t ++ rowsT xs ts
  | _, _ => []

/-- The cells of a row of tensors. -/
def triC : List Tri → List Sc
  | [] => []
  | x :: xs => .sl x.1 :: .sl x.2.1 :: .sl x.2.2 :: triC xs
theorem triC_at : ∀ (xs : List Tri) (i : Nat) (x : Tri), xs[i]? = some x → (triC xs)[i * 3]? = some (.sl x.1) ∧ (triC xs)[i * 3 + 1]? = some (.sl x.2.1) ∧ (triC xs)[i * 3 + 2]? = some (.sl x.2.2)
  | [], i, x, h => by simp at h
  | y :: xs, 0, x, h => by simp at h; subst h; simp [triC]
  | y :: xs, i + 1, x, h => by
    have := triC_at xs i x (by simpa using h)
    have e : (i + 1) * 3 = i * 3 + 3 := by omega
    rw [e]
    simpa [triC, Nat.add_assoc] using this
theorem triC_len : ∀ xs : List Tri, (triC xs).length = xs.length * 3
  | [] => rfl
  | x :: xs => by simp [triC, triC_len xs]; omega

/-- A row of tensors that reads as these, by its triples; its block is kept apart from their rows by its size. -/
structure Outer (H : AH) (s : Sl) (xs : List Tri) : Prop where
  o : s.o = 0
  n : s.n = xs.length
  c : s.n ≤ s.c
  blk : xs = [] ∨ ∃ st cells, H[s.b]? = some ⟨cells, st, 3⟩ ∧ (st = .ro ∨ st = .rw) ∧ ∀ (i : Nat) v, (triC xs)[i]? = some v → cells[i]? = some v
theorem Outer.rd {H : AH} {s : Sl} {xs : List Tri} (h : Outer H s xs) {i : Nat} {x : Tri} (hx : xs[i]? = some x) : ∃ cs, rdB H s.b = some cs ∧ ixA s (i : Int) 3 = some (i * 3) ∧ cs[i * 3]? = some (.sl x.1) ∧ cs[i * 3 + 1]? = some (.sl x.2.1) ∧ cs[i * 3 + 2]? = some (.sl x.2.2) := by
  have hi := (List.getElem?_eq_some_iff.1 hx).1
  rcases h.blk with rfl | ⟨st, cells, hb, hst, hc⟩
  · simp at hi
  · obtain ⟨t1, t2, t3⟩ := triC_at xs i x hx
    refine ⟨cells, ?_, ?_, hc _ _ t1, hc _ _ t2, hc _ _ t3⟩
    · unfold rdB
      rw [hb]
      rcases hst with rfl | rfl <;> rfl
    · rw [ixA_nat (by rw [h.n]; exact hi), h.o, Nat.zero_add]
theorem Outer.keep {H H' : AH} {s : Sl} {xs : List Tri} (h : Outer H s xs) (hb : H'[s.b]? = H[s.b]?) : Outer H' s xs := ⟨h.o, h.n, h.c, h.blk.imp id fun ⟨st, cells, h1, h2⟩ => ⟨st, cells, hb.trans h1, h2⟩⟩

theorem outer_ne {n0 : Nat} {H : AH} {s : Sl} {xs : List Tri} (h : Outer H s xs) (hne : xs ≠ []) {p : Row} (hp : Own n0 H p.1 p.2) : p.1.b ≠ s.b ∨ p.2 = [] := by
  rcases hp.blk with ⟨e, _⟩ | ⟨_, e⟩
  · exact .inr e
  · refine .inl fun hb => ?_
    rcases h.blk with h | ⟨st, cells, hb2, _⟩
    · exact absurd h hne
    · rw [hb, hb2] at e
      cases e
end Go.Abs
/- Contracts: a row of tensors is marked. -/
namespace Go.Abs
set_option linter.unusedVariables false
set_option linter.unusedSimpArgs false

def SmallT (t : Tn) : Prop := t.L.length ≤ 4194304 ∧ t.D.length ≤ 4194304 ∧ t.X.length ≤ 4194304

theorem w1i {i n : Nat} (h : i < n) (hn : n ≤ 4194304) : IntKind.wrap .i64 ((i : Int) + 1) = ((i + 1 : Nat) : Int) := w1 h hn

/-- laws.markTensorS, from a tensor on -/
theorem c_wmarkTensorS_0 {n0 : Nat} {s : Sl} {xs : List Tri} (hx12 : xs.length ≤ 4194304) : ∀ (ts : List Tn) (tl : List Tri) (i : Nat), xs.drop i = tl → i + ts.length = xs.length → ∀ (k : Int) (D Q : List Row) (Hc : AH), 0 ≤ k → k + cntTs ts ≤ 1099511627776 → (∀ t ∈ ts, SmallT t) →
    Outer Hc s xs → Rows n0 Hc (D ++ rowsT tl ts ++ Q) →
    ∃ H', R (.loop F.wmarkTensorS 0) [ssc s, isc k, isc (i : Int)] Hc = some ⟨2, [isc (k + cntTs ts)], H'⟩ ∧ H'.length = Hc.length ∧ Outer H' s xs ∧ (∀ b, (∀ p ∈ rowsT tl ts, b ≠ p.1.b ∨ p.2 = []) → H'[b]? = Hc[b]?) ∧ Rows n0 H' (D ++ rowsT tl (relTs k ts) ++ Q)
  | [], tl, i, htl, hi, k, D, Q, Hc, h0, h1, hs, ho, hr => by
    obtain rfl : i = xs.length := by simpa using hi
    refine ⟨Hc, ?_, rfl, ho, fun _ _ => rfl, ?_⟩
    · rw [R_eq, e_wmarkTensorS_0, ho.n, lt_self]
      simp [cntTs]
    · have : rowsT tl (relTs k []) = rowsT tl [] := rfl
      rw [this]; exact hr
  | t :: ts, tl, i, htl, hi, k, D, Q, Hc, h0, h1, hs, ho, hr => by
    have hlt : i < xs.length := by simp at hi; omega
    rw [List.drop_eq_getElem_cons hlt] at htl
    subst htl
    have hst := hs t List.mem_cons_self
    have hct := cntTs_pos ts
    have hc1 : cntTs (t :: ts) = cntT t + cntTs ts := rfl
    have hc2 : cntT t = t.L.length + t.D.length + t.X.length := rfl
    have hne : xs ≠ [] := fun e => by rw [e] at hlt; simp at hlt
    obtain ⟨a, b, c, hx⟩ : ∃ a b c, xs[i] = (a, b, c) := ⟨xs[i].1, xs[i].2.1, xs[i].2.2, rfl⟩
    have hxi : xs[i]? = some (a, b, c) := by rw [List.getElem?_eq_getElem hlt, hx]
    rw [hx] at hr ⊢
    simp only [rowsT, rows3] at hr
    -- the three rows
    have r1 : Rows n0 Hc (D ++ (a, t.L) :: ((b, t.D) :: (c, t.X) :: (rowsT (xs.drop (i + 1)) ts ++ Q))) := by simpa using hr
    obtain ⟨H1, e1, l1, f1, q1⟩ := mark_row r1 hst.1 h0 (by omega)
    have o1 : Outer H1 s xs := ho.keep (f1 _ (by have := outer_ne ho hne (r1.own (a, t.L) (by simp)); exact this.imp (fun h => Ne.symm h) id))
    have r2 : Rows n0 H1 ((D ++ [(a, seqL k t.L.length)]) ++ (b, t.D) :: ((c, t.X) :: (rowsT (xs.drop (i + 1)) ts ++ Q))) := by simpa using q1
    obtain ⟨H2, e2, l2, f2, q2⟩ := mark_row r2 (k := k + t.L.length) hst.2.1 (by omega) (by omega)
    have o2 : Outer H2 s xs := o1.keep (f2 _ (by have := outer_ne o1 hne (r2.own (b, t.D) (by simp)); exact this.imp (fun h => Ne.symm h) id))
    have r3 : Rows n0 H2 ((D ++ [(a, seqL k t.L.length), (b, seqL (k + t.L.length) t.D.length)]) ++ (c, t.X) :: (rowsT (xs.drop (i + 1)) ts ++ Q)) := by simpa using q2
    obtain ⟨H3, e3, l3, f3, q3⟩ := mark_row r3 (k := k + t.L.length + t.D.length) hst.2.2 (by omega) (by omega)
    have o3 : Outer H3 s xs := o2.keep (f3 _ (by have := outer_ne o2 hne (r3.own (c, t.X) (by simp)); exact this.imp (fun h => Ne.symm h) id))
    have r4 : Rows n0 H3 ((D ++ rows3 a b c (relT k t)) ++ rowsT (xs.drop (i + 1)) ts ++ Q) := by simpa [rows3, relT] using q3
    obtain ⟨H', e4, l4, o4, f4, q4⟩ := c_wmarkTensorS_0 hx12 ts (xs.drop (i + 1)) (i + 1) rfl (by simp at hi; omega) (k + cntT t) (D ++ rows3 a b c (relT k t)) Q H3 (by have := cntT_pos t; omega) (by omega) (fun u hu => hs u (List.mem_cons_of_mem _ hu)) o3 r4
    refine ⟨H', ?_, by omega, o4, fun d hd => ?_, by simpa [rowsT, relTs, rows3, relT, List.append_assoc] using q4⟩
    · obtain ⟨c1, rd1, ix1, s1, _, _⟩ := ho.rd hxi
      obtain ⟨c2, rd2, ix2, _, s2, _⟩ := o1.rd hxi
      obtain ⟨c3, rd3, ix3, _, _, s3⟩ := o2.rd hxi
      rw [R_eq, e_wmarkTensorS_0, ho.n, lt_true hlt, w1 hlt hx12, cond_true, ix1]
      simp only [Option.bind_some, rd1, Nat.add_zero, slAt_get s1]
      rw [e1]
      simp only [Option.bind_some, one_int, rd2, slAt_get s2]
      rw [e2]
      simp only [Option.bind_some, one_int, rd3, slAt_get s3]
      rw [e3]
      simp only [Option.bind_some, one_int]
      have e5 : k + (t.L.length : Int) + t.D.length + t.X.length = k + cntT t := by rw [hc2]; omega
      rw [e5, e4, hc1]
      congr 4; omega
    · have hd' : ∀ p ∈ rowsT ((a, b, c) :: xs.drop (i + 1)) (t :: ts), d ≠ p.1.b ∨ p.2 = [] := hd
      rw [f4 d fun p hp => hd' p (by simp [rowsT, hp]), f3 d (hd' (c, t.X) (by simp [rowsT, rows3])), f2 d (hd' (b, t.D) (by simp [rowsT, rows3])), f1 d (hd' (a, t.L) (by simp [rowsT, rows3]))]

/-- A network's rows, its open labels last. -/
def rowsN (xs : List Tri) (u : Sl) (n : Nw) : List Row := rowsT xs n.ts ++ [(u, n.op)]
/-- A network of its own. -/
structure OwnN (n0 : Nat) (H : AH) (s u : Sl) (xs : List Tri) (n : Nw) : Prop where
  len : xs.length = n.ts.length
  outer : Outer H s xs
  rows : Rows n0 H (rowsN xs u n)
def relN (k : Int) (n : Nw) : Nw := ⟨n.r, relTs k n.ts, seqL (k + cntTs n.ts) n.op.length⟩
def cntN (n : Nw) : Int := cntTs n.ts + n.op.length
structure SmallN (n : Nw) : Prop where
  ts : n.ts.length ≤ 4194304
  t : ∀ t ∈ n.ts, SmallT t
  op : n.op.length ≤ 4194304
  cnt : cntTs n.ts ≤ 549755813888

theorem relTs_len : ∀ (ts : List Tn) (k : Int), (relTs k ts).length = ts.length
  | [], _ => rfl
  | t :: ts, k => by simp [relTs, relTs_len ts]

/-- laws.markNetwork -/
theorem c_wmarkNetwork {n0 : Nat} {H : AH} {s u : Sl} {xs : List Tri} {n : Nw} (h : OwnN n0 H s u xs n) (hs : SmallN n) :
    ∃ H', R (.fn F.wmarkNetwork) [npv n.r s u, isc 1] H = some ⟨1, [isc (1 + cntN n)], H'⟩ ∧ H'.length = H.length ∧ OwnN n0 H' s u xs (relN 1 n) ∧ ∀ b, (∀ p ∈ rowsN xs u n, b ≠ p.1.b ∨ p.2 = []) → H'[b]? = H[b]? := by
  have hcp := cntTs_pos n.ts
  have hcb := hs.cnt
  obtain ⟨H1, e1, l1, o1, f1, r1⟩ := c_wmarkTensorS_0 (n0 := n0) (s := s) (xs := xs) (by rw [h.len]; exact hs.ts) n.ts xs 0 (by simp) (by rw [h.len]; omega) 1 [] [(u, n.op)] H (by omega) (by omega) hs.t h.outer (by simpa [rowsN] using h.rows)
  have r1' : Rows n0 H1 (rowsT xs (relTs 1 n.ts) ++ (u, n.op) :: []) := by simpa using r1
  obtain ⟨H2, e2, l2, f2, r2⟩ := mark_row r1' hs.op (k := 1 + cntTs n.ts) (by omega) (by omega)
  have o2 : Outer H2 s xs := by
    by_cases hx : xs = []
    · exact ⟨o1.o, o1.n, o1.c, .inl hx⟩
    · exact o1.keep (f2 _ (by have := outer_ne o1 hx (r1'.own (u, n.op) (by simp)); exact this.imp (fun h => Ne.symm h) id))
  refine ⟨H2, ?_, by omega, ⟨by rw [h.len]; simp [relN, relTs_len], o2, by simpa [rowsN, relN] using r2⟩, fun b hb => ?_⟩
  · have e1 : R (.loop F.wmarkTensorS 0) [ssc s, isc 1, isc 0] H = some ⟨2, [isc (1 + cntTs n.ts)], H1⟩ := e1
    have e_wmarkTensorS' : R (.fn F.wmarkTensorS) [ssc s, isc 1] H = some ⟨1, [isc (1 + cntTs n.ts)], H1⟩ := by rw [R_eq, e_wmarkTensorS, e1]; rfl
    rw [R_eq, e_wmarkNetwork, e_wmarkTensorS']
    simp only [Option.bind_some, one_int]
    rw [e2]
    have : (1 : Int) + cntTs n.ts + (n.op.length : Int) = 1 + cntN n := by unfold cntN; omega
    simp only [Option.bind_some, one_int, this]
  · rw [f2 b (hb (u, n.op) (by simp [rowsN])), f1 b fun p hp => hb p (by simp [rowsN, hp])]
end Go.Abs
/- Contracts: the marks of a network are held. -/
namespace Go.Abs
set_option linter.unusedVariables false
set_option linter.unusedSimpArgs false

theorem own_row {n0 : Nat} {H : AH} {rs : List Row} (h : Rows n0 H rs) {p : Row} (hp : p ∈ rs) : IS H p.1 p.2 := (h.own p hp).is

/-- laws.heldTensorS, where the marks are held, from a tensor on -/
theorem c_wheldTensorS_0 {n0 : Nat} {s : Sl} {xs : List Tri} {H : AH} (hx12 : xs.length ≤ 4194304) (ho : Outer H s xs) : ∀ (ts : List Tn) (i : Nat), i + ts.length = xs.length → ∀ k : Int, 0 ≤ k → k + cntTs ts ≤ 1099511627776 → (∀ t ∈ ts, SmallT t) →
    (∀ p ∈ rowsT (xs.drop i) (relTs k ts), IS H p.1 p.2) → R (.loop F.wheldTensorS 0) [ssc s, isc k, isc (i : Int)] H = some ⟨2, [isc (k + cntTs ts)], H⟩
  | [], i, hi, k, h0, h1, hs, hr => by
    obtain rfl : i = xs.length := by simpa using hi
    rw [R_eq, e_wheldTensorS_0, ho.n, lt_self]
    simp [cntTs]
  | t :: ts, i, hi, k, h0, h1, hs, hr => by
    have hlt : i < xs.length := by simp at hi; omega
    obtain ⟨a, b, c, hx⟩ : ∃ a b c, xs[i] = (a, b, c) := ⟨xs[i].1, xs[i].2.1, xs[i].2.2, rfl⟩
    have hxi : xs[i]? = some (a, b, c) := by rw [List.getElem?_eq_getElem hlt, hx]
    rw [List.drop_eq_getElem_cons hlt, hx] at hr
    have hst := hs t List.mem_cons_self
    have hct := cntTs_pos ts
    have hc1 : cntTs (t :: ts) = cntT t + cntTs ts := rfl
    have hc2 : cntT t = t.L.length + t.D.length + t.X.length := rfl
    have ha : IS H a (seqL k t.L.length) := hr (a, _) (by simp [rowsT, relTs, rows3, relT])
    have hb : IS H b (seqL (k + t.L.length) t.D.length) := hr (b, _) (by simp [rowsT, relTs, rows3, relT])
    have hc : IS H c (seqL (k + t.L.length + t.D.length) t.X.length) := hr (c, _) (by simp [rowsT, relTs, rows3, relT])
    have ih := c_wheldTensorS_0 (n0 := n0) hx12 ho ts (i + 1) (by simp at hi; omega) (k + cntT t) (by have := cntT_pos t; omega) (by omega) (fun u hu => hs u (List.mem_cons_of_mem _ hu)) (fun p hp => hr p (by simp [rowsT, relTs, hp]))
    obtain ⟨q, rd, ix, s1, s2, s3⟩ := ho.rd hxi
    rw [R_eq, e_wheldTensorS_0, ho.n, lt_true hlt, w1 hlt hx12, cond_true, ix]
    have n1 : decide (k + (t.L.length : Int) < 0) = false := by simp; omega
    have n2 : decide (k + (t.L.length : Int) + t.D.length < 0) = false := by simp; omega
    have n3 : decide (k + (t.L.length : Int) + t.D.length + t.X.length < 0) = false := by simp; omega
    simp only [Option.bind_some, rd, Nat.add_zero, slAt_get s1]
    rw [c_wheldIntS ha hst.1 h0 (by omega)]
    simp only [Option.bind_some, one_int, n1, cond_false, rd, slAt_get s2]
    rw [c_wheldIntS hb hst.2.1 (by omega) (by omega)]
    simp only [Option.bind_some, one_int, n2, cond_false, rd, slAt_get s3]
    rw [c_wheldIntS hc hst.2.2 (by omega) (by omega)]
    simp only [Option.bind_some, one_int, n3, cond_false]
    have e5 : k + (t.L.length : Int) + t.D.length + t.X.length = k + cntT t := by rw [hc2]; omega
    rw [e5, ih, hc1]
    congr 4; omega

/-- laws.heldNetwork, where the marks are held -/
theorem c_wheldNetwork {n0 : Nat} {H : AH} {s u : Sl} {xs : List Tri} {n : Nw} (hl : xs.length = n.ts.length) (ho : Outer H s xs) (hr : ∀ p ∈ rowsN xs u (relN 1 n), IS H p.1 p.2) (hs : SmallN n) :
    R (.fn F.wheldNetwork) [npv n.r s u, isc 1] H = some ⟨1, [isc (1 + cntN n)], H⟩ := by
  have hcp := cntTs_pos n.ts
  have hcb := hs.cnt
  have e1 := c_wheldTensorS_0 (n0 := n0) (s := s) (xs := xs) (H := H) (by rw [hl]; exact hs.ts) ho n.ts 0 (by rw [hl]; omega) 1 (by omega) (by omega) hs.t (fun p hp => hr p (by simp only [List.drop_zero] at hp; simp [rowsN, relN, hp]))
  have e1 : R (.loop F.wheldTensorS 0) [ssc s, isc 1, isc 0] H = some ⟨2, [isc (1 + cntTs n.ts)], H⟩ := e1
  have e_wheldTensorS' : R (.fn F.wheldTensorS) [ssc s, isc 1] H = some ⟨1, [isc (1 + cntTs n.ts)], H⟩ := by rw [R_eq, e_wheldTensorS, e1]; rfl
  have hu : IS H u (seqL (1 + cntTs n.ts) n.op.length) := hr (u, _) (by simp [rowsN, relN])
  have n1 : decide ((1 : Int) + cntTs n.ts < 0) = false := by simp; omega
  have n2 : decide ((1 : Int) + cntTs n.ts + n.op.length < 0) = false := by simp; omega
  rw [R_eq, e_wheldNetwork, e_wheldTensorS']
  simp only [Option.bind_some, one_int, n1, cond_false]
  rw [c_wheldIntS hu hs.op (by omega) (by omega)]
  have : (1 : Int) + cntTs n.ts + (n.op.length : Int) = 1 + cntN n := by unfold cntN; omega
  rw [this] at n2
  simp only [Option.bind_some, one_int, this, n2, cond_false]
end Go.Abs
/- Contracts: a formula is copied, and its copy is marked. -/
namespace Go.Abs
set_option linter.unusedVariables false
set_option linter.unusedSimpArgs false

/-- A copy of rows, as 'toIntSS' lays it from a block on. -/
structure Laid (H : AH) (b0 : Nat) (ll : List (List Int)) (cs : List Sc) : Prop where
  out : H[b0]? = some ⟨cs, .rw, 1⟩
  row : ∀ (j : Nat) l, ll[j]? = some l → cs[j]? = some (.sl (rowAt (b0 + 1 + j) l)) ∧ H[b0 + 1 + j]? = some ⟨ics l, .rw, 1⟩
@[reducible] def outAt (b0 : Nat) (ll : List (List Int)) : Sl := ⟨b0, 0, ll.length, ll.length, true⟩
theorem own_at {n0 b : Nat} {H : AH} {l : List Int} (hn : n0 ≤ b) (h : H[b]? = some ⟨ics l, .rw, 1⟩) : Own n0 H (rowAt b l) l :=
  ⟨rfl, rfl, rfl, .inr hn, by
    by_cases e : l = []
    · exact .inl ⟨e, rfl⟩
    · exact .inr ⟨e, h⟩⟩
theorem Laid.i2 {H : AH} {b0 : Nat} {ll : List (List Int)} {cs : List Sc} (h : Laid H b0 ll cs) : I2 H (outAt b0 ll) ll := by
  refine ⟨rfl, Nat.le_refl _, ?_⟩
  refine .inr ⟨cs, by unfold rdB; rw [h.out]; rfl, fun i l hi => ?_⟩
  obtain ⟨h1, h2⟩ := h.row i l hi
  exact ⟨_, by rw [Nat.zero_add]; exact h1, (own_at (Nat.le_refl _) h2).is⟩

/-- laws.toCnf -/
theorem c_wtoCnf {H : AH} {v : Int} {s : Sl} {ll : List (List Int)} (h : I2 H s ll) (hl : ll.length ≤ 1048576) (hll : ∀ l ∈ ll, l.length ≤ 1048576) :
    ∃ H' cs, R (.fn F.wtoCnf) [cpv v s] H = some ⟨1, [cpv v (outAt H.length ll)], H'⟩ ∧ Le H H' ∧ H'.length = H.length + 1 + ll.length ∧ Laid H' H.length ll cs := by
  obtain ⟨H', cs, e, l1, l2, b1, g⟩ := c_wtoIntSS h hl hll
  refine ⟨H', cs, ?_, l1, l2, b1, g⟩
  rw [R_eq, e_wtoCnf, e]; rfl

/-- laws.markIntSS of a copy -/
theorem c_wmarkIntSS {H : AH} {b0 : Nat} {ll : List (List Int)} {cs : List Sc} (h : Laid H b0 ll cs) (hl : ll.length ≤ 1048576) (hll : ∀ l ∈ ll, l.length ≤ 1048576) :
    ∃ v H', R (.fn F.wmarkIntSS) [ssc (outAt b0 ll), isc 1] H = some ⟨1, [isc v], H'⟩ ∧ 0 ≤ v ∧ H'.length = H.length ∧ ∀ b, (b < b0 + 1 ∨ b0 + 1 + ll.length ≤ b) → H'[b]? = H[b]? := by
  have loop : ∀ (m i : Nat), i + m = ll.length → ∀ (Hc : AH) (k : Int), 0 ≤ k → k ≤ 1 + (i : Int) * 1048576 → Hc.length = H.length → Hc[b0]? = some ⟨cs, .rw, 1⟩ → (∀ (j : Nat) l, i ≤ j → ll[j]? = some l → Hc[b0 + 1 + j]? = some ⟨ics l, .rw, 1⟩) →
      (∀ b, (b < b0 + 1 ∨ b0 + 1 + ll.length ≤ b) → Hc[b]? = H[b]?) →
      ∃ v H', R (.loop F.wmarkIntSS 0) [ssc (outAt b0 ll), isc k, isc (i : Int)] Hc = some ⟨2, [isc v], H'⟩ ∧ 0 ≤ v ∧ H'.length = H.length ∧ ∀ b, (b < b0 + 1 ∨ b0 + 1 + ll.length ≤ b) → H'[b]? = H[b]? := by
    intro m
    induction m with
    | zero =>
      intro i hi Hc k h0 h1 hlen hb hr hf
      obtain rfl : i = ll.length := by omega
      exact ⟨k, Hc, by rw [R_eq, e_wmarkIntSS_0, lt_self]; rfl, h0, hlen, hf⟩
    | succ m ih =>
      intro i hi Hc k h0 h1 hlen hb hr hf
      have hlt : i < ll.length := by omega
      have hli := hll _ (List.getElem_mem hlt)
      have hgi := List.getElem?_eq_getElem hlt
      have hk2 : k ≤ 1099511627776 := by
        have : (i : Int) * 1048576 ≤ 1048576 * 1048575 := by omega
        omega
      obtain ⟨H1, e1, l1, f1, o1⟩ := c_wmarkIntS (own_at (n0 := 0) (Nat.zero_le _) (hr i _ (Nat.le_refl _) hgi)) (by omega) h0 hk2
      have hne : ∀ b, b ≠ b0 + 1 + i → H1[b]? = Hc[b]? := fun b hb => f1 b (.inl hb)
      rw [R_eq, e_wmarkIntSS_0, lt_true hlt, w1 hlt (by omega), cond_true, ixA_nat hlt]
      have hrd : rdB Hc b0 = some cs := by unfold rdB; rw [hb]; rfl
      simp only [Option.bind_some, hrd, Nat.zero_add, Nat.mul_one, slAt_get (h.row i _ hgi).1]
      rw [e1]
      simp only [Option.bind_some, one_int]
      refine ih (i + 1) (by omega) H1 (k + ll[i].length) (by omega) ?_ (by omega) (by rw [hne _ (by omega)]; exact hb) (fun j l hj hjl => ?_) fun b hb' => ?_
      · have : ((i + 1 : Nat) : Int) * 1048576 = (i : Int) * 1048576 + 1048576 := by omega
        omega
      · rw [hne _ (by omega)]; exact hr j l (by omega) hjl
      · rw [hne _ (by omega)]; exact hf b hb'
  obtain ⟨v, H', e, h0, l1, f1⟩ := loop ll.length 0 (by omega) H 1 (by omega) (by omega) rfl h.out (fun j l _ hj => (h.row j l hj).2) fun _ _ => rfl
  have e : R (.loop F.wmarkIntSS 0) [ssc (outAt b0 ll), isc 1, isc 0] H = some ⟨2, [isc v], H'⟩ := e
  exact ⟨v, H', by rw [R_eq, e_wmarkIntSS, e]; rfl, h0, l1, f1⟩
/-- laws.markCnf of a copy -/
theorem c_wmarkCnf {H : AH} {b0 : Nat} {w : Int} {ll : List (List Int)} {cs : List Sc} (h : Laid H b0 ll cs) (hl : ll.length ≤ 1048576) (hll : ∀ l ∈ ll, l.length ≤ 1048576) :
    ∃ v H', R (.fn F.wmarkCnf) [cpv w (outAt b0 ll), isc 1] H = some ⟨1, [isc v], H'⟩ ∧ 0 ≤ v ∧ H'.length = H.length ∧ ∀ b, (b < b0 + 1 ∨ b0 + 1 + ll.length ≤ b) → H'[b]? = H[b]? := by
  obtain ⟨v, H', e, r⟩ := c_wmarkIntSS h hl hll
  exact ⟨v, H', by rw [R_eq, e_wmarkCnf, e]; rfl, r⟩
/-- laws.szCnf -/
theorem c_wszCnf {H : AH} {w : Int} {s : Sl} {ll : List (List Int)} (h : I2 H s ll) (hn : s.n ≤ 9223372036854775807) (hb : ∀ l ∈ ll, l.length ≤ 9223372036854775807) : ∃ v : Int, R (.fn F.wszCnf) [cpv w s, isc 1048576] H = some ⟨1, [isc v], H⟩ ∧ (v < 0 ∨ (ll.length ≤ 1048576 ∧ ∀ l ∈ ll, l.length ≤ 1048576)) := by
  obtain ⟨v, e, hv⟩ := c_wszIntSS h hn hb
  by_cases hneg : v < 0
  · exact ⟨-1, by rw [R_eq, e_wszCnf, e]; simp [oneP, PV.sc?, intAt, hneg], .inl (by omega)⟩
  · exact ⟨v, by rw [R_eq, e_wszCnf, e]; simp [oneP, PV.sc?, intAt, hneg], hv⟩
end Go.Abs
/- Contracts: the ring's nought and one; products; a row of twos. -/
namespace Go.Abs
set_option linter.unusedVariables false
set_option linter.unusedSimpArgs false

/-- A new row, told by its block. -/
structure New (H H' : AH) (s : Sl) (l : List Int) : Prop where
  le : Le H H'
  s : s = rowAt H.length l
  len : H'.length = H.length + 1
  blk : H'[H.length]? = some ⟨ics l, .rw, 1⟩
theorem New.own {H H' : AH} {s : Sl} {l : List Int} (h : New H H' s l) : Own H.length H' s l := by rw [h.s]; exact own_at (Nat.le_refl _) h.blk

def zeroR (r : Rg) : List Int := (List.replicate (widthR r).toNat 0).set 0 (if r.k = 4 then r.p else 0)
def oneR (r : Rg) : List Int := (List.replicate (widthR r).toNat 0).set 0 (if r.k = 5 ∨ r.k = 6 then topR r else if r.k = 4 then 0 else 1)
theorem zeroR_len (r : Rg) : (zeroR r).length = (widthR r).toNat := by simp [zeroR]
theorem oneR_len (r : Rg) : (oneR r).length = (widthR r).toNat := by simp [oneR]

theorem mk_width {r : Rg} (hr : ringB r = true) {H : AH} : mkB H 1 8 [.int .i64 0] (widthR r) (widthR r) = some (⟨H.length, 0, (widthR r).toNat, (widthR r).toNat, true⟩, H ++ [⟨ics (List.replicate (widthR r).toNat 0), .rw, 1⟩]) := by
  have hw := width_range hr
  have e : widthR r = ((widthR r).toNat : Int) := by omega
  have := mk_ints (H := H) (n := (widthR r).toNat) (by omega)
  rw [← e] at this
  exact this
theorem put_first {H : AH} {n : Nat} {x : Bool} (hn : 0 < n) (v : Int) {α : Type} (k : AH → Option α) :
    ((ixA ⟨H.length, 0, n, n, x⟩ 0 1).bind fun o => (putR (H ++ [⟨ics (List.replicate n 0), .rw, 1⟩]) H.length o [.int .i64 v]).bind k) = k (H ++ [⟨ics ((List.replicate n 0).set 0 v), .rw, 1⟩]) := by
  have := put_own (H := H ++ [⟨ics (List.replicate n 0), .rw, 1⟩]) (b := H.length) (n := n) (x := x) (cs := List.replicate n 0) (by simp) (i := 0) hn (by simpa using hn) v k
  refine Eq.trans this ?_
  congr 1
  simp
theorem new_app (H : AH) (l : List Int) : New H (H ++ [⟨ics l, .rw, 1⟩]) (rowAt H.length l) l := ⟨Le.app _ _, rfl, by simp, by simp⟩

/-- spec.l02Zero -/
theorem c_sl02Zero {r : Rg} (hr : ringB r = true) (H : AH) : ∃ s H', R (.fn F.sl02Zero) [r.pv] H = some ⟨1, [ssc s], H'⟩ ∧ New H H' s (zeroR r) := by
  have hw := width_range hr
  have hpos : 0 < (widthR r).toNat := by omega
  refine ⟨_, _, ?_, new_app H (zeroR r)⟩
  rw [R_eq, e_sl02Zero, c_sl02Width]
  simp only [Option.bind_some, one_int, mk_width hr]
  unfold zeroR
  by_cases h4 : r.k = 4
  · have : (r.k == 4) = true := by simp [h4]
    simp only [this, cond_true, h4, if_true]
    rw [put_first hpos]
    simp
  · simp only [bf h4, cond_false, h4, if_false]
    have : (List.replicate (widthR r).toNat (0 : Int)).set 0 0 = List.replicate (widthR r).toNat 0 := by
      cases (widthR r).toNat with
      | zero => rfl
      | succ n => simp [List.replicate_succ]
    rw [this]
    simp
/-- impl.rawZero -/
theorem c_irawZero {r : Rg} (hr : ringB r = true) (H : AH) : ∃ s H', R (.fn F.irawZero) [r.pv] H = some ⟨1, [ssc s], H'⟩ ∧ New H H' s (zeroR r) := by
  have hw := width_range hr
  have hpos : 0 < (widthR r).toNat := by omega
  refine ⟨_, _, ?_, new_app H (zeroR r)⟩
  rw [R_eq, e_irawZero, c_irawWidth]
  simp only [Option.bind_some, one_int, mk_width hr]
  unfold zeroR
  by_cases h4 : r.k = 4
  · have : (r.k == 4) = true := by simp [h4]
    simp only [this, cond_true, h4, if_true]
    rw [put_first hpos]
    simp
  · simp only [bf h4, cond_false, h4, if_false]
    have : (List.replicate (widthR r).toNat (0 : Int)).set 0 0 = List.replicate (widthR r).toNat 0 := by
      cases (widthR r).toNat with
      | zero => rfl
      | succ n => simp [List.replicate_succ]
    rw [this]
    simp

/-- impl.rawOne -/
theorem c_irawOne {r : Rg} (hr : ringB r = true) (H : AH) : ∃ s H', R (.fn F.irawOne) [r.pv] H = some ⟨1, [ssc s], H'⟩ ∧ New H H' s (oneR r) := by
  have hw := width_range hr
  have hpos : 0 < (widthR r).toNat := by omega
  have h60 : r.k = 6 → 0 ≤ r.n := fun e => by have := ring6 hr e; omega
  refine ⟨_, _, ?_, new_app H (oneR r)⟩
  rw [R_eq, e_irawOne, c_irawWidth]
  simp only [Option.bind_some, one_int, mk_width hr]
  unfold oneR
  by_cases h4 : r.k = 4
  · have h5 : ¬ (r.k = 5 ∨ r.k = 6) := by omega
    have e4 : (r.k == 4) = true := by simp [h4]
    rw [if_neg h5, if_pos h4, e4, cond_true, put_first hpos]
    simp
  by_cases h5 : r.k = 5
  · have e5 : (r.k == 5) = true := by simp [h5]
    have ht : topR r = r.p := by unfold topR; simp [h5]
    rw [if_pos (.inl h5), bf h4, cond_false, e5, cond_true, put_first hpos, ht]
    simp
  by_cases h6 : r.k = 6
  · have e6 : (r.k == 6) = true := by simp [h6]
    rw [if_pos (.inr h6), bf h4, cond_false, bf h5, cond_false, e6, cond_true, c_irawTop r h60]
    simp only [Option.bind_some, one_int]
    rw [put_first hpos]
    simp
  · have h56 : ¬ (r.k = 5 ∨ r.k = 6) := by omega
    rw [if_neg h56, if_neg h4, bf h4, cond_false, bf h5, cond_false, bf h6, cond_false, put_first hpos]
    simp

/-- spec.l02One -/
theorem c_sl02One {r : Rg} (hr : ringB r = true) (H : AH) : ∃ s H', R (.fn F.sl02One) [r.pv] H = some ⟨1, [ssc s], H'⟩ ∧ New H H' s (oneR r) := by
  have hw := width_range hr
  have hpos : 0 < (widthR r).toNat := by omega
  have h60 : r.k = 6 → 0 ≤ r.n := fun e => by have := ring6 hr e; omega
  refine ⟨_, _, ?_, new_app H (oneR r)⟩
  rw [R_eq, e_sl02One, c_sl02Width]
  simp only [Option.bind_some, one_int, mk_width hr]
  unfold oneR
  by_cases h56 : r.k = 5 ∨ r.k = 6
  · have e : ∀ X : AH, (((cond (r.k == 5) (some (⟨0, [.sc (.bool (r.k == 5))], X⟩ : Out)) (some ⟨0, [.sc (.bool (r.k == 6))], X⟩)) : Option Out)) = some ⟨0, [.sc (.bool true)], X⟩ := fun X => by
      rcases h56 with h | h <;> simp [h]
    rw [e, if_pos h56]
    simp only [Option.bind_some, Nat.beq, cond_true, nth_bool, c_sl02Top r h60, one_int]
    rw [put_first hpos]
    simp
  · have h5 : ¬ r.k = 5 := fun h => h56 (.inl h)
    have h6 : ¬ r.k = 6 := fun h => h56 (.inr h)
    rw [if_neg h56, bf h5, bf h6]
    simp only [cond_false, Option.bind_some, Nat.beq, cond_true, nth_bool]
    by_cases h4 : r.k = 4
    · have e4 : (r.k == 4) = true := by simp [h4]
      rw [if_pos h4, e4, cond_true, put_first hpos]
      simp
    · rw [if_neg h4, bf h4, cond_false, put_first hpos]
      simp
end Go.Abs
/- Contracts: products; a row of twos. -/
namespace Go.Abs
set_option linter.unusedVariables false
set_option linter.unusedSimpArgs false

def prodI : Int → List Int → Int
  | a, [] => a
  | a, d :: l => prodI (a * d) l
/-- impl.productOf, of few and small numbers -/
theorem c_iproductOf {H : AH} {s : Sl} {l : List Int} (h : IS H s l) (hm : l.length ≤ 12) (hd : ∀ d ∈ l, 1 ≤ d ∧ d ≤ 8) : R (.fn F.iproductOf) [ssc s] H = some ⟨1, [isc (prodI 1 l)], H⟩ := by
  have := loopS (F := fun (a : Int) (i : Nat) => R (.loop F.iproductOf 0) [isc a, ssc s, isc (l.length : Int), isc (i : Int)] H) (l := l) (fun a i => 0 ≤ a ∧ a ≤ 8 ^ i) (fun a l _ => some ⟨2, [isc (prodI a l)], H⟩)
    (fun a _ => by rw [R_eq, e_iproductOf_0, lt_self]; rfl) (fun a i hi r ha ih => by
      rw [R_eq, e_iproductOf_0, h.ldk hi, lt_true hi, w1 hi (by omega)]
      have hdi := hd l[i] (List.getElem_mem hi)
      have h1 : 0 ≤ a * l[i] := Int.mul_nonneg ha.1 (by omega)
      have h2 : a * l[i] ≤ 8 ^ i * 8 := Int.mul_le_mul ha.2 hdi.2 (by omega) (by have : (0 : Int) < 8 ^ i := Int.pow_pos (by omega); omega)
      have h3 : (8 : Int) ^ i * 8 = 8 ^ (i + 1) := (Int.pow_succ 8 i).symm
      have h4 : (8 : Int) ^ (i + 1) ≤ 8 ^ 12 := by exact_mod_cast Nat.pow_le_pow_right (n := 8) (by omega) (show i + 1 ≤ 12 by omega)
      have e1 : IntKind.wrap .i64 (a * l[i]) = a * l[i] := by rw [wrap_id] <;> omega
      simp only [cond_true, e1, prodI]
      exact ih _ ⟨h1, by omega⟩) 1 (by simp)
  have this : R (.loop F.iproductOf 0) [isc 1, ssc s, isc (l.length : Int), isc 0] H = some ⟨2, [isc (prodI 1 l)], H⟩ := this
  rw [R_eq, e_iproductOf, h.n, this]
  rfl
end Go.Abs
/- Words: owned rows that change; numbers read from and written to owned blocks. -/
namespace Go.Abs
set_option linter.unusedVariables false
set_option linter.unusedSimpArgs false

/-- A row in the midst of others is changed or replaced. -/
theorem Rows.upd {n0 : Nat} {H H' : AH} {xs ys : List Row} {p : Row} (h : Rows n0 H (xs ++ p :: ys)) {s' : Sl} {l' : List Int} (ho : Own n0 H' s' l')
    (hf : ∀ b, b < H.length → (b ≠ p.1.b ∨ p.2 = []) → H'[b]? = H[b]?) (hs : l' ≠ [] → H.length ≤ s'.b ∨ (s'.b = p.1.b ∧ p.2 ≠ [])) : Rows n0 H' (xs ++ (s', l') :: ys) := by
  have hpa := h.apart
  rw [List.pairwise_append] at hpa
  obtain ⟨pa1, pa2, pa3⟩ := hpa
  rw [List.pairwise_cons] at pa2
  have hother : ∀ q : Row, apartR p q → Own n0 H q.1 q.2 → Own n0 H' q.1 q.2 := fun q hq ho => ho.mono fun hne => hf _ (ho.lt hne) (by
    rcases hq with hq | hq | hq
    · exact .inr hq
    · exact absurd hq hne
    · exact .inl (Ne.symm hq))
  have tr : ∀ q : Row, apartR p q → Own n0 H q.1 q.2 → apartR (s', l') q := fun q hq ho => by
    by_cases e1 : l' = []
    · exact .inl e1
    by_cases e2 : q.2 = []
    · exact .inr (.inl e2)
    refine .inr (.inr ?_)
    have hlt := ho.lt e2
    rcases hs e1 with h | ⟨h, hp⟩
    · show s'.b ≠ q.1.b; omega
    · rcases hq with hq | hq | hq
      · exact absurd hq hp
      · exact absurd hq e2
      · show s'.b ≠ q.1.b; rw [h]; exact hq
  refine ⟨fun q hq => ?_, ?_⟩
  · rcases List.mem_append.1 hq with hq | hq
    · exact hother q (pa3 q hq p (by simp)).symm (h.own q (by simp [hq]))
    · rcases List.mem_cons.1 hq with rfl | hq
      · exact ho
      · exact hother q (pa2.1 q hq) (h.own q (by simp [hq]))
  · rw [List.pairwise_append, List.pairwise_cons]
    refine ⟨pa1, ⟨fun q hq => tr q (pa2.1 q hq) (h.own q (by simp [hq])), pa2.2⟩, fun q hq q' hq' => ?_⟩
    rcases List.mem_cons.1 hq' with rfl | hq'
    · exact (tr q (pa3 q hq p (by simp)).symm (h.own q (by simp [hq]))).symm
    · exact pa3 q hq q' (by simp [hq'])
theorem Rows.frame {n0 : Nat} {H H' : AH} {rs : List Row} (h : Rows n0 H rs) (hf : ∀ p ∈ rs, p.2 ≠ [] → H'[p.1.b]? = H[p.1.b]?) : Rows n0 H' rs := ⟨fun p hp => (h.own p hp).mono fun hne => hf p hp hne, h.apart⟩
theorem Rows.le {n0 : Nat} {H H' : AH} {rs : List Row} (h : Rows n0 H rs) (hb : Le H H') : Rows n0 H' rs := ⟨fun p hp => (h.own p hp).le hb, h.apart⟩
theorem Rows.low {n0 n1 : Nat} {H : AH} {rs : List Row} (h : Rows n0 H rs) (hn : n1 ≤ n0) : Rows n1 H rs := ⟨fun p hp => (h.own p hp).low hn, h.apart⟩
theorem Rows.nil (n0 : Nat) (H : AH) : Rows n0 H [] := ⟨fun p hp => by simp at hp, .nil⟩
theorem Rows.sub {n0 : Nat} {H : AH} {rs qs : List Row} (h : Rows n0 H rs) (hs : qs.Sublist rs) : Rows n0 H qs := ⟨fun p hp => h.own p (hs.subset hp), h.apart.sublist hs⟩
/-- A new row beside others. -/
theorem Rows.cons {n0 : Nat} {H : AH} {rs : List Row} (h : Rows n0 H rs) {s : Sl} {l : List Int} (ho : Own n0 H s l) (hd : l ≠ [] → ∀ q ∈ rs, q.2 ≠ [] → s.b ≠ q.1.b) : Rows n0 H ((s, l) :: rs) :=
  ⟨fun p hp => by
    rcases List.mem_cons.1 hp with rfl | hp
    · exact ho
    · exact h.own p hp, List.pairwise_cons.2 ⟨fun q hq => by
      by_cases e1 : l = []
      · exact .inl e1
      by_cases e2 : q.2 = []
      · exact .inr (.inl e2)
      · exact .inr (.inr (hd e1 q hq e2)), h.apart⟩⟩
theorem Rows.perm {n0 : Nat} {H : AH} {rs qs : List Row} (h : Rows n0 H rs) (hp : qs.Perm rs) : Rows n0 H qs := ⟨fun p hq => h.own p (hp.mem_iff.1 hq), (hp.pairwise_iff (fun {a b} hab => apartR.symm hab)).2 h.apart⟩
/-- Rows that were made later lie apart. -/
theorem Rows.app {n0 n1 : Nat} {H : AH} {rs qs : List Row} (h : Rows n0 H rs) (k : Rows n1 H qs) (hn : n0 ≤ n1) (hlt : ∀ p ∈ rs, p.2 ≠ [] → p.1.b < n1) : Rows n0 H (rs ++ qs) :=
  ⟨fun p hp => by
    rcases List.mem_append.1 hp with hp | hp
    · exact h.own p hp
    · exact (k.own p hp).low hn, List.pairwise_append.2 ⟨h.apart, k.apart, fun p hp q hq => by
      by_cases e1 : p.2 = []
      · exact .inl e1
      by_cases e2 : q.2 = []
      · exact .inr (.inl e2)
      refine .inr (.inr ?_)
      have h1 := hlt p hp e1
      rcases (k.own q hq).lo with h2 | h2
      · exact absurd h2 e2
      · omega⟩⟩
theorem Rows.lt {n0 : Nat} {H : AH} {rs : List Row} (h : Rows n0 H rs) : ∀ p ∈ rs, p.2 ≠ [] → p.1.b < H.length := fun p hp hne => (h.own p hp).lt hne

/-- A number is read from an owned block. -/
theorem ld_own {H : AH} {b o n c : Nat} {x : Bool} {cs : List Int} (hb : H[b]? = some ⟨ics cs, .rw, 1⟩) {i : Nat} (hi : i < n) (hc : o + i < cs.length) {α : Type} (k : Int → Option α) :
    ((ixA ⟨b, o, n, c, x⟩ (i : Int) 1).bind fun o => (rdB H b).bind fun q => (intAt .i64 q o).bind k) = k cs[o + i] := by
  rw [ixA_nat (by exact hi)]
  have hr : rdB H b = some (ics cs) := by unfold rdB; rw [hb]; rfl
  have hg : (ics cs)[o + i]? = some (.int .i64 cs[o + i]) := by simp [hc]
  simp only [Option.bind_some, hr, Nat.mul_one, intAt_get hg]
theorem ld_own0 {H : AH} {b n c : Nat} {x : Bool} {cs : List Int} (hb : H[b]? = some ⟨ics cs, .rw, 1⟩) {i : Nat} (hi : i < n) (hc : i < cs.length) {α : Type} (k : Int → Option α) :
    ((ixA ⟨b, 0, n, c, x⟩ (i : Int) 1).bind fun o => (rdB H b).bind fun q => (intAt .i64 q o).bind k) = k cs[i] := by
  have := ld_own (o := 0) (c := c) (x := x) hb hi (by omega) k
  simpa using this
/-- A number is written to an owned block. -/
theorem st_own {H : AH} {b o n c : Nat} {x : Bool} {cs : List Int} (hb : H[b]? = some ⟨ics cs, .rw, 1⟩) {i : Nat} (hi : i < n) (hc : o + i < cs.length) (v : Int) {α : Type} (k : AH → Option α) :
    ((ixA ⟨b, o, n, c, x⟩ (i : Int) 1).bind fun o => (putR H b o [.int .i64 v]).bind k) = k (H.set b ⟨ics (cs.set (o + i) v), .rw, 1⟩) := by
  rw [ixA_nat (by exact hi)]
  simp only [Option.bind_some, Nat.mul_one]
  rw [putR_one hb (by simpa using hc)]
  simp only [Option.bind_some, ics_set]
theorem st_own0 {H : AH} {b n c : Nat} {x : Bool} {cs : List Int} (hb : H[b]? = some ⟨ics cs, .rw, 1⟩) {i : Nat} (hi : i < n) (hc : i < cs.length) (v : Int) {α : Type} (k : AH → Option α) :
    ((ixA ⟨b, 0, n, c, x⟩ (i : Int) 1).bind fun o => (putR H b o [.int .i64 v]).bind k) = k (H.set b ⟨ics (cs.set i v), .rw, 1⟩) := by
  have := st_own (o := 0) (c := c) (x := x) hb hi (by omega) v k
  simpa using this
theorem set_get {H : AH} {b : Nat} {k0 k : Blk} (h : H[b]? = some k0) : (H.set b k)[b]? = some k := by
  have := (List.getElem?_eq_some_iff.1 h).1
  simp [this]
theorem set_set {H : AH} {b : Nat} (k k' : Blk) : (H.set b k).set b k' = H.set b k' := by simp
theorem IS.set {H : AH} {s : Sl} {l : List Int} (h : IS H s l) {b : Nat} {k : Blk} (hb : l ≠ [] → s.b ≠ b) : IS (H.set b k) s l := by
  by_cases hl : l = []
  · exact ⟨h.n, h.c, .inl hl⟩
  · refine ⟨h.n, h.c, h.rd.imp id fun ⟨cs, h1, h2⟩ => ⟨cs, ?_, h2⟩⟩
    unfold rdB at h1 ⊢
    rw [List.getElem?_set_ne (Ne.symm (hb hl))]
    exact h1
theorem IS.of_blk {H : AH} {b : Nat} {l : List Int} {c : Nat} {x : Bool} (h : H[b]? = some ⟨ics l, .rw, 1⟩) (hc : l.length ≤ c) : IS H ⟨b, 0, l.length, c, x⟩ l :=
  ⟨rfl, hc, .inr ⟨ics l, by unfold rdB; rw [h]; rfl, fun i x hi => by simp [hi]⟩⟩
theorem IS.lt {H : AH} {s : Sl} {l : List Int} (h : IS H s l) (hl : l ≠ []) : s.b < H.length := by
  rcases h.rd with e | ⟨cs, h1, _⟩
  · exact absurd e hl
  · exact rdB_lt h1
theorem Le.set {H0 H : AH} (h : Le H0 H) {b : Nat} {k : Blk} (hb : H0.length ≤ b) : Le H0 (H.set b k) := set_le h hb
theorem Le.push {H0 H : AH} (h : Le H0 H) (X : AH) : Le H0 (H ++ X) := h.trans (Le.app H X)
end Go.Abs
/- Pure: places in a tensor and their indices. -/
namespace Go.Abs
set_option linter.unusedVariables false
set_option linter.unusedSimpArgs false

def prd : List Int → Int
  | [] => 1
  | d :: l => d * prd l
theorem prd_app : ∀ (a b : List Int), prd (a ++ b) = prd a * prd b
  | [], b => by simp [prd]
  | d :: a, b => by simp [prd, prd_app a b, Int.mul_assoc]
theorem prd_rev : ∀ a : List Int, prd a.reverse = prd a
  | [] => rfl
  | d :: a => by rw [List.reverse_cons, prd_app, prd_rev a]; simp [prd, Int.mul_comm]
theorem prd_pos : ∀ {a : List Int}, (∀ d ∈ a, 1 ≤ d) → 1 ≤ prd a
  | [], _ => Int.le_refl _
  | d :: a, h => by
    have h1 := h d List.mem_cons_self
    have h2 := prd_pos (a := a) fun x hx => h x (List.mem_cons_of_mem _ hx)
    have : 1 * 1 ≤ d * prd a := Int.mul_le_mul h1 h2 (by omega) (by omega)
    simpa [prd] using this
theorem prodI_eq : ∀ (l : List Int) (a : Int), prodI a l = a * prd l
  | [], a => by simp [prodI, prd]
  | d :: l, a => by simp only [prodI, prd]; rw [prodI_eq l, Int.mul_assoc]

/-- Digits, the last axis first. -/
def idxR : List Int → Int → List Int
  | [], _ => []
  | d :: r, n => n % d :: idxR r (n / d)
def idxF (D : List Int) (n : Int) : List Int := (idxR D.reverse n).reverse
theorem idxR_len : ∀ (r : List Int) (n : Int), (idxR r n).length = r.length
  | [], _ => rfl
  | d :: r, n => by simp [idxR, idxR_len r]
theorem idxF_len (D : List Int) (n : Int) : (idxF D n).length = D.length := by simp [idxF, idxR_len]
theorem idxF_snoc (D : List Int) (d n : Int) : idxF (D ++ [d]) n = idxF D (n / d) ++ [n % d] := by simp [idxF, idxR]

def fitsI : List Int → List Int → Prop
  | [], [] => True
  | d :: ds, x :: xs => 0 ≤ x ∧ x < d ∧ fitsI ds xs
  | _, _ => False
theorem fits_len : ∀ {D I : List Int}, fitsI D I → I.length = D.length
  | [], [], _ => rfl
  | d :: ds, x :: xs, h => by simp [fits_len h.2.2]
  | [], _ :: _, h => h.elim
  | _ :: _, [], h => h.elim
theorem fits_app : ∀ {D I D' I' : List Int}, I.length = D.length → (fitsI (D ++ D') (I ++ I') ↔ fitsI D I ∧ fitsI D' I')
  | [], [], D', I', _ => by simp [fitsI]
  | d :: ds, x :: xs, D', I', h => by
    simp only [List.cons_append, fitsI]
    rw [fits_app (by simpa using h)]
    exact ⟨fun h => ⟨⟨h.1, h.2.1, h.2.2.1⟩, h.2.2.2⟩, fun h => ⟨h.1.1, h.1.2.1, h.1.2.2, h.2⟩⟩
  | [], _ :: _, _, _, h => by simp at h
  | _ :: _, [], _, _, h => by simp at h
theorem fits_rev : ∀ {D I : List Int}, fitsI D I → fitsI D.reverse I.reverse
  | [], [], _ => trivial
  | d :: ds, x :: xs, h => by
    rw [List.reverse_cons, List.reverse_cons, fits_app (by simp [fits_len h.2.2])]
    exact ⟨fits_rev h.2.2, h.1, h.2.1, trivial⟩
  | [], _ :: _, h => h.elim
  | _ :: _, [], h => h.elim
theorem fits_get : ∀ {D I : List Int}, fitsI D I → ∀ (i : Nat) (h1 : i < D.length) (h2 : i < I.length), 0 ≤ I[i] ∧ I[i] < D[i]
  | d :: ds, x :: xs, h, 0, _, _ => ⟨h.1, h.2.1⟩
  | d :: ds, x :: xs, h, i + 1, h1, h2 => fits_get h.2.2 i (by simpa using h1) (by simpa using h2)
theorem idxR_fits : ∀ {r : List Int} {n : Int}, (∀ d ∈ r, 1 ≤ d) → fitsI r (idxR r n)
  | [], _, _ => trivial
  | d :: r, n, h => by
    have hd := h d List.mem_cons_self
    exact ⟨Int.emod_nonneg _ (by omega), Int.emod_lt_of_pos _ (by omega), idxR_fits fun x hx => h x (List.mem_cons_of_mem _ hx)⟩
theorem idxF_fits {D : List Int} {n : Int} (h : ∀ d ∈ D, 1 ≤ d) : fitsI D (idxF D n) := by
  have := fits_rev (idxR_fits (r := D.reverse) (n := n) fun d hd => h d (by simpa using hd))
  simpa [idxF] using this
theorem idxR_zero : ∀ r : List Int, idxR r 0 = List.replicate r.length 0
  | [] => rfl
  | d :: r => by simp [idxR, idxR_zero r, List.replicate_succ]
theorem idxF_zero (D : List Int) : idxF D 0 = List.replicate D.length 0 := by simp [idxF, idxR_zero]

/-- The next index, the last axis first. -/
def nextR : List Int → List Int → Bool × List Int
  | d :: r, x :: xs => if x + 1 < d then (true, (x + 1) :: xs) else ((nextR r xs).1, 0 :: (nextR r xs).2)
  | _, _ => (false, [])
def nextF (D I : List Int) : Bool × List Int := ((nextR D.reverse I.reverse).1, (nextR D.reverse I.reverse).2.reverse)

theorem div_mul_lt {d n m : Int} (hd : 1 ≤ d) (h0 : 0 ≤ n) (h : n < d * m) : n / d < m := by
  have := Int.ediv_lt_of_lt_mul (a := n) (b := m) (c := d) (by omega) (by rw [Int.mul_comm]; exact h)
  exact this
theorem nextR_idx : ∀ {r : List Int} {n : Int}, (∀ d ∈ r, 1 ≤ d) → 0 ≤ n → n < prd r → nextR r (idxR r n) = (decide (n + 1 < prd r), idxR r (n + 1))
  | [], n, _, h0, h1 => by
    have : ¬ n + 1 < prd [] := by simp [prd] at h1 ⊢; omega
    simp only [nextR, idxR]
    rw [decide_eq_false this]
  | d :: r, n, h, h0, h1 => by
    have hd := h d List.mem_cons_self
    have hr : ∀ x ∈ r, 1 ≤ x := fun x hx => h x (List.mem_cons_of_mem _ hx)
    have hq := div_mul_lt hd h0 h1
    have hq0 : 0 ≤ n / d := Int.ediv_nonneg h0 (by omega)
    have hm := Int.emod_lt_of_pos n (show 0 < d by omega)
    have hm0 := Int.emod_nonneg n (show d ≠ 0 by omega)
    have he := Int.mul_ediv_add_emod n d
    have hle : d * (n / d + 1) ≤ d * prd r := Int.mul_le_mul_of_nonneg_left (by omega) (by omega)
    have hx : d * (n / d + 1) = d * (n / d) + d := by rw [Int.mul_add, Int.mul_one]
    simp only [idxR, nextR, prd]
    by_cases hc : n % d + 1 < d
    · rw [if_pos hc]
      have h2 : n + 1 = (n % d + 1) + d * (n / d) := by omega
      have e1 : (n + 1) % d = n % d + 1 := by
        rw [h2, Int.add_mul_emod_self_left, Int.emod_eq_of_lt (by omega) hc]
      have e2 : (n + 1) / d = n / d := by
        rw [h2, Int.add_mul_ediv_left _ _ (by omega), Int.ediv_eq_zero_of_lt (by omega) hc]; omega
      rw [e1, e2]
      have : n + 1 < d * prd r := by omega
      simp [this]
    · rw [if_neg hc, nextR_idx hr hq0 hq]
      have h2 : n + 1 = 0 + d * (n / d + 1) := by omega
      have e1 : (n + 1) % d = 0 := by rw [h2, Int.add_mul_emod_self_left]; simp
      have e2 : (n + 1) / d = n / d + 1 := by
        rw [h2, Int.add_mul_ediv_left _ _ (by omega)]; simp
      rw [e1, e2]
      have hiff : (n + 1 < d * prd r) ↔ (n / d + 1 < prd r) := by
        constructor
        · intro hlt
          have : d * (n / d + 1) < d * prd r := by omega
          exact Int.lt_of_mul_lt_mul_left this (by omega)
        · intro hlt
          have : d * (n / d + 1) < d * prd r := Int.mul_lt_mul_of_pos_left hlt (by omega)
          omega
      simp [hiff]
theorem nextF_idx {D : List Int} {n : Int} (h : ∀ d ∈ D, 1 ≤ d) (h0 : 0 ≤ n) (h1 : n < prd D) : nextF D (idxF D n) = (decide (n + 1 < prd D), idxF D (n + 1)) := by
  unfold nextF
  have : (idxF D n).reverse = idxR D.reverse n := by simp [idxF]
  rw [this, nextR_idx (fun d hd => h d (by simpa using hd)) h0 (by rw [prd_rev]; exact h1), prd_rev]
  rfl
theorem nextR_len : ∀ {r x : List Int}, x.length = r.length → (nextR r x).2.length = r.length
  | [], [], _ => rfl
  | d :: r, x :: xs, h => by
    simp only [nextR]
    have := nextR_len (r := r) (x := xs) (by simpa using h)
    split
    · simp at h ⊢; exact h
    · simp [this]
  | [], _ :: _, h => by simp at h
  | _ :: _, [], h => by simp at h
theorem nextF_snoc {D I : List Int} {d x : Int} : nextF (D ++ [d]) (I ++ [x]) = if x + 1 < d then (true, I ++ [x + 1]) else ((nextF D I).1, (nextF D I).2 ++ [0]) := by
  unfold nextF
  rw [List.reverse_append, List.reverse_append]
  simp only [List.reverse_cons, List.reverse_nil, List.nil_append, List.singleton_append, nextR]
  split <;> simp

/-- The place of an index. -/
def offR : List Int → List Int → Int
  | d :: r, x :: xs => offR r xs * d + x
  | _, _ => 0
def offF (D I : List Int) : Int := offR D.reverse I.reverse
theorem offF_snoc (D I : List Int) (d x : Int) : offF (D ++ [d]) (I ++ [x]) = offF D I * d + x := by simp [offF, offR]
theorem offR_idx : ∀ {r : List Int} {n : Int}, (∀ d ∈ r, 1 ≤ d) → 0 ≤ n → n < prd r → offR r (idxR r n) = n
  | [], n, _, h0, h1 => by simp [prd] at h1; simp [offR, idxR]; omega
  | d :: r, n, h, h0, h1 => by
    have hd := h d List.mem_cons_self
    simp only [idxR, offR]
    rw [offR_idx (fun x hx => h x (List.mem_cons_of_mem _ hx)) (Int.ediv_nonneg h0 (by omega)) (div_mul_lt hd h0 h1)]
    have := Int.mul_ediv_add_emod n d
    rw [Int.mul_comm]; omega
theorem offF_idx {D : List Int} {n : Int} (h : ∀ d ∈ D, 1 ≤ d) (h0 : 0 ≤ n) (h1 : n < prd D) : offF D (idxF D n) = n := by
  unfold offF
  have : (idxF D n).reverse = idxR D.reverse n := by simp [idxF]
  rw [this, offR_idx (fun d hd => h d (by simpa using hd)) h0 (by rw [prd_rev]; exact h1)]
theorem offR_range : ∀ {r x : List Int}, fitsI r x → 0 ≤ offR r x ∧ offR r x < prd r
  | [], [], _ => by simp [offR, prd]
  | d :: r, x :: xs, h => by
    obtain ⟨h1, h2⟩ := offR_range h.2.2
    have hd : 0 < d := by have := h.1; have := h.2.1; omega
    simp only [offR, prd]
    have a1 : 0 ≤ offR r xs * d := Int.mul_nonneg h1 (by omega)
    have a2 : (offR r xs + 1) * d ≤ prd r * d := Int.mul_le_mul_of_nonneg_right (by omega) (by omega)
    rw [Int.add_mul, Int.one_mul, Int.mul_comm (prd r)] at a2
    have := h.1; have := h.2.1
    omega
  | [], _ :: _, h => h.elim
  | _ :: _, [], h => h.elim
theorem offF_range {D I : List Int} (h : fitsI D I) : 0 ≤ offF D I ∧ offF D I < prd D := by
  have := offR_range (fits_rev h)
  rw [prd_rev] at this
  exact this
/-- Two indices at one place are one. -/
theorem idxR_off : ∀ {r x : List Int}, fitsI r x → idxR r (offR r x) = x
  | [], [], _ => rfl
  | d :: r, x :: xs, h => by
    obtain ⟨h1, h2⟩ := offR_range h.2.2
    have hd : 0 < d := by have := h.1; have := h.2.1; omega
    simp only [offR, idxR]
    have e0 : offR r xs * d + x = x + d * offR r xs := by rw [Int.mul_comm]; omega
    have e1 : (offR r xs * d + x) % d = x := by rw [e0, Int.add_mul_emod_self_left, Int.emod_eq_of_lt h.1 h.2.1]
    have e2 : (offR r xs * d + x) / d = offR r xs := by rw [e0, Int.add_mul_ediv_left _ _ (by omega), Int.ediv_eq_zero_of_lt h.1 h.2.1]; omega
    rw [e1, e2, idxR_off h.2.2]
  | [], _ :: _, h => h.elim
  | _ :: _, [], h => h.elim
theorem idxF_off {D I : List Int} (h : fitsI D I) : idxF D (offF D I) = I := by
  unfold idxF offF
  rw [idxR_off (fits_rev h)]; simp
theorem take_fits {D I : List Int} (h : fitsI D I) (i : Nat) : fitsI (D.take i) (I.take i) := by
  have h1 : fitsI (D.take i ++ D.drop i) (I.take i ++ I.drop i) := by simpa using h
  have hl := fits_len h
  rw [fits_app (by simp [hl])] at h1
  exact h1.1
theorem prd_take_le {D : List Int} (h : ∀ d ∈ D, 1 ≤ d) (i : Nat) : prd (D.take i) ≤ prd D := by
  have e : prd D = prd (D.take i) * prd (D.drop i) := by rw [← prd_app, List.take_append_drop]
  have h1 := prd_pos (a := D.take i) fun d hd => h d (List.mem_of_mem_take hd)
  have h2 := prd_pos (a := D.drop i) fun d hd => h d (List.mem_of_mem_drop hd)
  have : prd (D.take i) * 1 ≤ prd (D.take i) * prd (D.drop i) := Int.mul_le_mul_of_nonneg_left h2 (by omega)
  omega
end Go.Abs
/- Contracts: indices. -/
namespace Go.Abs
set_option linter.unusedVariables false
set_option linter.unusedSimpArgs false

theorem ics_len (l : List Int) : (ics l).length = l.length := by simp
theorem app_get {H : AH} {k : Blk} : (H ++ [k])[H.length]? = some k := by simp
theorem app_set {H : AH} {k k' : Blk} : (H ++ [k]).set H.length k' = H ++ [k'] := by simp
theorem set_same {H : AH} {b : Nat} {k : Blk} (h : H[b]? = some k) : H.set b k = H := by
  refine List.ext_getElem? fun i => ?_
  rw [List.getElem?_set]
  split
  · rename_i e; subst e
    have := (List.getElem?_eq_some_iff.1 h).1
    rw [if_pos this, ← h]
  · rfl

/-- A row is filled upwards. -/
theorem fill_up {β : Type} {F : Nat → AH → β} {H : AH} {b n : Nat} (g : Nat → Int) (hstep : ∀ i cs, i < n → cs.length = n → F i (H.set b ⟨ics cs, .rw, 1⟩) = F (i + 1) (H.set b ⟨ics (cs.set i (g i)), .rw, 1⟩)) :
    ∀ cs, cs.length = n → F 0 (H.set b ⟨ics cs, .rw, 1⟩) = F n (H.set b ⟨ics ((List.range n).map g), .rw, 1⟩) := by
  have key : ∀ k i cs, i + k = n → cs.length = n → F i (H.set b ⟨ics cs, .rw, 1⟩) = F n (H.set b ⟨ics (cs.take i ++ ((List.range n).map g).drop i), .rw, 1⟩) := by
    intro k
    induction k with
    | zero =>
      intro i cs hi hl
      obtain rfl : i = n := by omega
      rw [List.take_of_length_le (by omega), List.drop_eq_nil_of_le (by simp), List.append_nil]
    | succ k ih =>
      intro i cs hi hl
      rw [hstep i cs (by omega) hl, ih (i + 1) _ (by omega) (by simpa using hl)]
      congr 4
      have h1 : (cs.set i (g i)).take (i + 1) = cs.take i ++ [g i] := by
        rw [take_snoc (by simp; omega)]
        simp [List.take_set_of_le (Nat.le_refl i)]
      have h2 : ((List.range n).map g).drop i = g i :: ((List.range n).map g).drop (i + 1) := by
        rw [List.drop_eq_getElem_cons (by simp; omega)]
        simp
      rw [h1, h2]; simp
  intro cs hl
  have := key n 0 cs (by omega) hl
  simpa using this

/-- impl.twos -/
theorem c_itwos (n : Nat) (hn : n ≤ 1048576) (H : AH) : R (.fn F.itwos) [isc (n : Int)] H = some ⟨1, [ssc (rowAt H.length (List.replicate n 2))], H ++ [⟨ics (List.replicate n 2), .rw, 1⟩]⟩ := by
  rw [R_eq, e_itwos, mk_ints (by omega)]
  simp only [Option.bind_some]
  have := fill_up (β := Option Out) (F := fun i Hc => R (.loop F.itwos 0) [ssc ⟨H.length, 0, n, n, true⟩, isc (n : Int), isc (i : Int)] Hc) (H := H ++ [⟨ics (List.replicate n 0), .rw, 1⟩]) (b := H.length) (n := n) (fun _ => 2)
    (fun i cs hi hl => by
      rw [R_eq, e_itwos_0, lt_true hi, w1 hi (by omega), cond_true, st_own0 (set_get app_get) hi (by omega), set_set]) (List.replicate n 0) (by simp)
  rw [app_set] at this
  have this : R (.loop F.itwos 0) [ssc ⟨H.length, 0, n, n, true⟩, isc (n : Int), isc 0] (H ++ [⟨ics (List.replicate n 0), .rw, 1⟩]) = _ := this
  rw [this, R_eq, e_itwos_0, lt_self, app_set]
  have e : (List.range n).map (fun _ => (2 : Int)) = List.replicate n 2 := List.ext_getElem (by simp) fun i h1 h2 => by rw [List.getElem_map, List.getElem_replicate]
  rw [e]
  simp

theorem ge_true (k : Nat) : decide (((k + 1 : Nat) : Int) - 1 ≥ 0) = true := decide_eq_true (by omega)
theorem ge_false : decide (((0 : Nat) : Int) - 1 ≥ 0) = false := by simp
theorem down1 (k : Nat) : ((k + 1 : Nat) : Int) - 1 = (k : Int) := by omega
theorem wdown {k : Nat} (h : k ≤ 4194304) : IntKind.wrap .i64 ((k : Int) - 1) = (k : Int) - 1 := by rw [wrap_id] <;> omega
theorem take_snoc' {l : List Int} {i : Nat} (h : i < l.length) : l.take (i + 1) = l.take i ++ [l[i]] := take_snoc h
theorem drop_set_gt {l : List Int} {i j : Nat} (h : i < j) (v : Int) : (l.set i v).drop j = l.drop j := by
  rw [List.drop_set]
  rw [if_pos h]
theorem drop_set_self {l : List Int} {i : Nat} (h : i < l.length) (v : Int) : (l.set i v).drop i = v :: l.drop (i + 1) := by
  rw [List.drop_eq_getElem_cons (by simpa using h)]
  simp [drop_set_gt (Nat.lt_succ_self i)]

/-- spec.l05Index -/
theorem c_sl05Index {H : AH} {s : Sl} {D : List Int} (h : IS H s D) (hl : D.length ≤ 1048576) (hd : ∀ d ∈ D, 1 ≤ d) {n : Int} (h0 : 0 ≤ n) (h1 : n ≤ 4611686018427387904) :
    R (.fn F.sl05Index) [ssc s, isc n] H = some ⟨1, [ssc (rowAt H.length (idxF D n))], H ++ [⟨ics (idxF D n), .rw, 1⟩]⟩ := by
  have key : ∀ (k : Nat) (n : Int) (out : List Int), k ≤ D.length → out.length = D.length → 0 ≤ n → n ≤ 4611686018427387904 →
      R (.loop F.sl05Index 0) [ssc s, isc n, ssc ⟨H.length, 0, D.length, D.length, true⟩, isc ((k : Int) - 1)] (H ++ [⟨ics out, .rw, 1⟩]) = some ⟨2, [], H ++ [⟨ics (idxF (D.take k) n ++ out.drop k), .rw, 1⟩]⟩ := by
    intro k
    induction k with
    | zero =>
      intro n out hk ho h0 h1
      rw [R_eq, e_sl05Index_0, ge_false]
      simp [idxF, idxR]
    | succ k ih =>
      intro n out hk ho h0 h1
      have hlt : k < D.length := by omega
      have hdk := hd D[k] (List.getElem_mem hlt)
      have hnz : (D[k] == 0) = false := bf (by omega)
      have hq : 0 ≤ n / D[k] := Int.ediv_nonneg h0 (by omega)
      have hq2 : n / D[k] ≤ n := Int.ediv_le_self _ h0
      have e1 : IntKind.wrap .i64 (Int.tdiv n D[k]) = n / D[k] := by
        rw [Int.tdiv_eq_ediv_of_nonneg h0, wrap_id] <;> omega
      have e2 : Int.tmod n D[k] = n % D[k] := Int.tmod_eq_emod_of_nonneg h0
      rw [R_eq, e_sl05Index_0, ge_true, cond_true, down1, (h.le (Le.app H _)).ldk hlt, hnz, cond_false, st_own0 app_get (by omega) (by omega), app_set, (h.le (Le.app H _)).ldk hlt, hnz, cond_false, e1, wdown (by omega), e2]
      rw [ih (n / D[k]) (out.set k (n % D[k])) (by omega) (by simpa using ho) hq (by omega), take_snoc' hlt, idxF_snoc, drop_set_self (by omega)]
      simp
  rw [R_eq, e_sl05Index, h.n, mk_ints (by omega)]
  simp only [Option.bind_some]
  rw [wdown (by omega), key D.length n _ (Nat.le_refl _) (by simp) h0 h1]
  simp [idxF_len]

/-- impl.offsetIn -/
theorem c_ioffsetIn {H : AH} {s u : Sl} {D I : List Int} (h : IS H s D) (k : IS H u I) (hf : fitsI D I) (hl : D.length ≤ 1048576) (hd : ∀ d ∈ D, 1 ≤ d) (hp : prd D ≤ 4611686018427387904) :
    R (.fn F.ioffsetIn) [ssc s, ssc u] H = some ⟨1, [isc (offF D I)], H⟩ := by
  have hlen := fits_len hf
  have key : ∀ (j i : Nat), i + j = D.length → R (.loop F.ioffsetIn 0) [ssc s, isc (offF (D.take i) (I.take i)), ssc u, isc (I.length : Int), isc (i : Int)] H = some ⟨2, [isc (offF D I)], H⟩ := by
    intro j
    induction j with
    | zero =>
      intro i hi
      obtain rfl : i = I.length := by omega
      rw [List.take_of_length_le (by omega), List.take_of_length_le (by omega), R_eq, e_ioffsetIn_0, lt_self]; rfl
    | succ j ih =>
      intro i hi
      have h1 : i < D.length := by omega
      have h2 : i < I.length := by omega
      have hr := offF_range (take_fits hf (i + 1))
      rw [take_snoc' h1, take_snoc' h2, offF_snoc] at hr
      have hpl := prd_take_le hd (i + 1)
      rw [take_snoc' h1] at hpl
      have hr0 := (offF_range (take_fits hf i)).1
      have hm : 0 ≤ offF (D.take i) (I.take i) * D[i] := Int.mul_nonneg hr0 (by have := hd D[i] (List.getElem_mem h1); omega)
      have hx := fits_get hf i h1 h2
      rw [R_eq, e_ioffsetIn_0, lt_true h2, w1 h2 (by omega), cond_true, k.ldk h2, h.ldk h1]
      have e1 : IntKind.wrap .i64 (offF (D.take i) (I.take i) * D[i]) = offF (D.take i) (I.take i) * D[i] := by rw [wrap_id] <;> omega
      have e2 : IntKind.wrap .i64 (offF (D.take i) (I.take i) * D[i] + I[i]) = offF (D.take (i + 1)) (I.take (i + 1)) := by
        rw [take_snoc' h1, take_snoc' h2, offF_snoc, wrap_id] <;> omega
      rw [e1, e2]
      exact ih (i + 1) (by omega)
  have := key D.length 0 (by omega)
  have this : R (.loop F.ioffsetIn 0) [ssc s, isc 0, ssc u, isc (I.length : Int), isc 0] H = some ⟨2, [isc (offF D I)], H⟩ := this
  rw [R_eq, e_ioffsetIn, k.n, this]
  rfl

/-- impl.nextIndex -/
theorem c_inextIndex {H : AH} {s : Sl} {D I : List Int} {b : Nat} {x : Bool} (h : IS H s D) (hl : D.length ≤ 1048576) (hb : H[b]? = some ⟨ics I, .rw, 1⟩) (hs : D ≠ [] → s.b ≠ b) (hi : I.length = D.length) (hx : ∀ x ∈ I, 0 ≤ x ∧ x ≤ 1048576) :
    R (.fn F.inextIndex) [ssc s, ssc ⟨b, 0, I.length, I.length, x⟩] H = some ⟨1, [bsc (nextF D I).1], H.set b ⟨ics (nextF D I).2, .rw, 1⟩⟩ := by
  have key : ∀ (k : Nat) (out : List Int), k ≤ D.length → out.length = D.length → (∀ (j : Nat) (h : j < I.length) (h' : j < out.length), j < k → out[j] = I[j]) →
      R (.loop F.inextIndex 0) [ssc s, ssc ⟨b, 0, I.length, I.length, x⟩, isc ((k : Int) - 1)] (H.set b ⟨ics out, .rw, 1⟩) =
        cond (nextF (D.take k) (I.take k)).1 (some ⟨1, [bsc true], H.set b ⟨ics ((nextF (D.take k) (I.take k)).2 ++ out.drop k), .rw, 1⟩⟩) (some ⟨2, [], H.set b ⟨ics ((nextF (D.take k) (I.take k)).2 ++ out.drop k), .rw, 1⟩⟩) := by
    intro k
    induction k with
    | zero =>
      intro out hk ho hj
      rw [R_eq, e_inextIndex_0, ge_false]
      simp [nextF, nextR]
    | succ k ih =>
      intro out hk ho hj
      have h1 : k < D.length := by omega
      have h2 : k < I.length := by omega
      have hxk := hx I[k] (List.getElem_mem h2)
      have hne : D ≠ [] := fun e => by rw [e] at h1; simp at h1
      have ew : IntKind.wrap .i64 (I[k] + 1) = I[k] + 1 := by rw [wrap_id] <;> omega
      have hok : out[k]'(by omega) = I[k] := hj k h2 (by omega) (by omega)
      rw [R_eq, e_inextIndex_0, ge_true, cond_true, down1]
      rw [ld_own0 (set_get hb) h2 (by omega), hok, ew]
      rw [st_own0 (set_get hb) h2 (by omega), set_set]
      rw [ld_own0 (set_get hb) h2 (by simp; omega)]
      rw [(h.set fun _ => hs hne).ldk h1]
      rw [take_snoc' h1, take_snoc' h2, nextF_snoc]
      simp only [List.getElem_set_self]
      have e3 : I.take k ++ [I[k] + 1] ++ out.drop (k + 1) = out.set k (I[k] + 1) := by
        refine List.ext_getElem (by simp; omega) fun j hj1 hj2 => ?_
        rw [List.getElem_set]
        by_cases hjk : j < k
        · rw [if_neg (by omega), hj j (by omega) (by simpa using hj2) (by omega)]
          rw [List.getElem_append_left (by simp; omega), List.getElem_append_left (by simp; omega)]
          simp
        · by_cases e : j = k
          · subst e
            rw [List.getElem_append_left (by simp; omega), List.getElem_append_right (by simp; omega)]
            simp
          · rw [if_neg (by omega), List.getElem_append_right (by simp; omega)]
            simp
            congr 1; omega
      by_cases hc : I[k] + 1 < D[k]
      · rw [if_pos hc]
        have : decide (I[k] + 1 < D[k]) = true := by simpa using hc
        rw [this]
        simp only [cond_true]
        rw [e3]
      · rw [if_neg hc]
        have : decide (I[k] + 1 < D[k]) = false := by simpa using hc
        rw [this, cond_false, st_own0 (set_get hb) h2 (by simp; omega), set_set, wdown (by omega)]
        rw [ih _ (by omega) (by simpa using ho) (fun j hj1 hj2 hjk => by
          rw [List.getElem_set_ne (by omega), List.getElem_set_ne (by omega)]
          exact hj j hj1 (by simpa using hj2) (by omega))]
        have e4 : ((out.set k (I[k] + 1)).set k 0).drop k = 0 :: out.drop (k + 1) := by
          rw [drop_set_self (by simp; omega), drop_set_gt (Nat.lt_succ_self k)]
        rw [e4]
        simp
  have e0 : H.set b ⟨ics I, .rw, 1⟩ = H := set_same hb
  have := key D.length I (Nat.le_refl _) hi (fun _ _ _ _ => rfl)
  rw [e0, List.take_of_length_le (Nat.le_refl _), List.take_of_length_le (by omega), List.drop_eq_nil_of_le (by omega), List.append_nil] at this
  rw [R_eq, e_inextIndex, h.n, wdown (by omega), this]
  cases (nextF D I).1 <;> rfl
end Go.Abs
/- Words: a tensor's numbers as elements of one width; parts of them are read and written. -/
namespace Go.Abs
set_option linter.unusedVariables false
set_option linter.unusedSimpArgs false

def Uni (w : Nat) (els : List (List Int)) : Prop := ∀ e ∈ els, e.length = w
theorem Uni.tail {w : Nat} {e : List Int} {els : List (List Int)} (h : Uni w (e :: els)) : Uni w els := fun x hx => h x (List.mem_cons_of_mem _ hx)
theorem Uni.set {w : Nat} {els : List (List Int)} (h : Uni w els) {n : Nat} {v : List Int} (hv : v.length = w) : Uni w (els.set n v) := fun e he => by
  rcases List.mem_or_eq_of_mem_set he with he | rfl
  · exact h e he
  · exact hv
theorem Uni.rep {w n : Nat} {e : List Int} (h : e.length = w) : Uni w (List.replicate n e) := fun x hx => by rw [(List.mem_replicate.1 hx).2]; exact h
theorem uni_len {w : Nat} : ∀ {els : List (List Int)}, Uni w els → els.flatten.length = els.length * w
  | [], _ => by simp
  | e :: els, h => by
    rw [List.flatten_cons, List.length_append, uni_len h.tail, h e List.mem_cons_self, List.length_cons, Nat.add_mul]; omega
theorem uni_take {w : Nat} : ∀ {els : List (List Int)}, Uni w els → ∀ n, els.flatten.take (n * w) = (els.take n).flatten
  | [], _, n => by simp
  | e :: els, h, 0 => by simp
  | e :: els, h, n + 1 => by
    have he := h e List.mem_cons_self
    rw [List.flatten_cons, List.take_append, List.take_of_length_le (by rw [he, Nat.add_mul]; omega), he]
    have : (n + 1) * w - w = n * w := by rw [Nat.add_mul]; omega
    rw [this, uni_take h.tail n]; simp
theorem uni_drop {w : Nat} : ∀ {els : List (List Int)}, Uni w els → ∀ n, els.flatten.drop (n * w) = (els.drop n).flatten
  | [], _, n => by simp
  | e :: els, h, 0 => by simp
  | e :: els, h, n + 1 => by
    have he := h e List.mem_cons_self
    rw [List.flatten_cons, List.drop_append, List.drop_eq_nil_of_le (by rw [he, Nat.add_mul]; omega), he]
    have : (n + 1) * w - w = n * w := by rw [Nat.add_mul]; omega
    rw [this, uni_drop h.tail n]; simp
theorem uni_at {w : Nat} {els : List (List Int)} (h : Uni w els) {n : Nat} (hn : n < els.length) : (els.flatten.drop (n * w)).take w = els[n] := by
  rw [uni_drop h, List.drop_eq_getElem_cons hn, List.flatten_cons, List.take_append, List.take_of_length_le (by rw [h _ (List.getElem_mem hn)]; exact Nat.le_refl _), h _ (List.getElem_mem hn)]
  simp

/-- A part is replaced. -/
def putL (cs : List Int) (o : Nat) (v : List Int) : List Int := cs.take o ++ v ++ cs.drop (o + v.length)
theorem putL_len {cs : List Int} {o : Nat} {v : List Int} (h : o + v.length ≤ cs.length) : (putL cs o v).length = cs.length := by simp [putL]; omega
theorem putL_nil (cs : List Int) (o : Nat) : putL cs o [] = cs := by simp [putL]
theorem putL_get {cs : List Int} {o : Nat} {v : List Int} (h : o + v.length ≤ cs.length) (j : Nat) : (putL cs o v)[j]? = if j < o then cs[j]? else if j < o + v.length then v[j - o]? else cs[j]? := by
  unfold putL
  have ht : (cs.take o).length = o := by simp; omega
  split
  · rw [List.append_assoc, List.getElem?_append_left (by omega), List.getElem?_take, if_pos (by assumption)]
  · split
    · rw [List.append_assoc, List.getElem?_append_right (by omega), List.getElem?_append_left (by omega), ht]
    · rw [List.getElem?_append_right (by simp; omega), List.getElem?_drop]
      congr 1; simp; omega
theorem putL_set {cs : List Int} {o : Nat} {v : List Int} (h : o + v.length ≤ cs.length) {i : Nat} (hi : i < v.length) : (putL cs o (v.take i)).set (o + i) v[i] = putL cs o (v.take (i + 1)) := by
  have h1 : o + (v.take i).length ≤ cs.length := by simp; omega
  have h2 : o + (v.take (i + 1)).length ≤ cs.length := by simp; omega
  refine List.ext_getElem? fun j => ?_
  rw [List.getElem?_set, putL_len h1, putL_get h1, putL_get h2]
  have l1 : (v.take i).length = i := by simp; omega
  have l2 : (v.take (i + 1)).length = i + 1 := by simp; omega
  rw [l1, l2]
  by_cases hj : j < o
  · rw [if_neg (by omega), if_pos hj, if_pos hj]
  · rw [if_neg hj, if_neg hj]
    by_cases e : o + i = j
    · rw [if_pos e, if_pos (by omega), if_pos (by omega), List.getElem?_take, if_pos (by omega)]
      have : j - o = i := by omega
      rw [this, List.getElem?_eq_getElem hi]
    · rw [if_neg e]
      by_cases h3 : j < o + i
      · rw [if_pos h3, if_pos (by omega), List.getElem?_take, List.getElem?_take, if_pos (by omega), if_pos (by omega)]
      · rw [if_neg h3, if_neg (by omega)]
theorem putL_flat {w : Nat} {els : List (List Int)} (h : Uni w els) {n : Nat} (hn : n < els.length) {v : List Int} (hv : v.length = w) : putL els.flatten (n * w) v = (els.set n v).flatten := by
  unfold putL
  have e : n * w + v.length = (n + 1) * w := by rw [hv, Nat.add_mul]; omega
  rw [e, uni_take h, uni_drop h, List.set_eq_take_append_cons_drop, if_pos hn]
  simp
theorem ics_app (a b : List Int) : ics (a ++ b) = ics a ++ ics b := by simp
theorem setAll_ics {cs v : List Int} {o : Nat} (h : o + v.length ≤ cs.length) : setAll (ics cs) o (ics v) = ics (putL cs o v) := by
  rw [setAll_all _ _ _ (by simpa using h)]
  simp [putL, List.map_take, List.map_drop]
theorem putR_ics {H : AH} {b o : Nat} {cs v : List Int} (hb : H[b]? = some ⟨ics cs, .rw, 1⟩) (h : o + v.length ≤ cs.length) : putR H b o (ics v) = some (H.set b ⟨ics (putL cs o v), .rw, 1⟩) := by
  cases v with
  | nil => simp only [List.map_nil, putR, putL_nil]; rw [set_same hb]
  | cons x v =>
    unfold putR
    simp only [List.map_cons, hb, Option.bind_some]
    rw [if_pos (by simpa using h)]
    have := setAll_ics (cs := cs) (v := x :: v) (o := o) h
    simp only [List.map_cons] at this
    rw [this]

theorem slB_mid {s : Sl} {lo hi : Nat} (h1 : lo ≤ hi) (h2 : hi ≤ s.c) : slB s (some (lo : Int)) (some (hi : Int)) none 1 = some ⟨s.b, s.o + lo, hi - lo, s.c - lo, s.x⟩ := by
  unfold slB
  simp only [Option.bind_some, Option.getD_some]
  rw [if_pos ⟨by omega, by omega, by omega, by omega⟩]
  simp
/-- The part with an element. -/
@[reducible] def partAt (c : Sl) (w n : Nat) : Sl := ⟨c.b, c.o + n * w, w, c.c - n * w, c.x⟩
theorem IS.part {H : AH} {s : Sl} {l : List Int} (h : IS H s l) {o m : Nat} (hm : o + m ≤ l.length) : IS H ⟨s.b, s.o + o, m, s.c - o, s.x⟩ ((l.drop o).take m) := by
  refine ⟨by simp; omega, by have := h.n; have := h.c; show m ≤ s.c - o; omega, ?_⟩
  rcases h.rd with rfl | ⟨cs, h1, h2⟩
  · exact .inl (by simp)
  · refine .inr ⟨cs, h1, fun i x hi => ?_⟩
    rw [List.getElem?_take] at hi
    split at hi
    · rw [List.getElem?_drop] at hi
      have := h2 _ _ hi
      rw [Nat.add_assoc]; exact this
    · cases hi
theorem IS.elem {H : AH} {c : Sl} {w : Nat} {els : List (List Int)} (h : IS H c els.flatten) (hu : Uni w els) {n : Nat} (hn : n < els.length) : IS H (partAt c w n) els[n] := by
  have hlen := uni_len hu
  have : n * w + w ≤ els.length * w := by rw [← Nat.succ_mul]; exact Nat.mul_le_mul_right _ hn
  have := h.part (o := n * w) (m := w) (by omega)
  rw [uni_at hu hn] at this
  exact this

/-- impl.rawElem -/
theorem c_irawElem {r : Rg} {H : AH} {a b c : Sl} {n w : Nat} (hw : widthR r = (w : Int)) (hn : (n + 1) * w ≤ c.c) (hc : c.c ≤ 4611686018427387904) (hn2 : n ≤ 4611686018427387904) :
    R (.fn F.irawElem) [r.pv, tpv a b c, isc (n : Int)] H = some ⟨1, [ssc (partAt c w n)], H⟩ := by
  rw [R_eq, e_irawElem, c_irawWidth, hw]
  simp only [Option.bind_some, one_int]
  have h0 : n * w ≤ (n + 1) * w := Nat.mul_le_mul_right _ (by omega)
  have e0 : IntKind.wrap .i64 ((n : Int) + 1) = ((n + 1 : Nat) : Int) := by rw [wrap_id] <;> omega
  have e1 : IntKind.wrap .i64 ((n : Int) * (w : Int)) = ((n * w : Nat) : Int) := by
    rw [← Int.natCast_mul, wrap_id] <;> omega
  have e2 : IntKind.wrap .i64 (((n + 1 : Nat) : Int) * (w : Int)) = (((n + 1) * w : Nat) : Int) := by
    rw [← Int.natCast_mul, wrap_id] <;> omega
  rw [e0, e1, e2, slB_mid h0 hn]
  have e3 : (n + 1) * w - n * w = w := by rw [Nat.succ_mul]; omega
  simp only [Option.bind_some, e3]

/-- 'copy' of an element into its place. -/
theorem cp_ics {H : AH} {d s : Sl} {cs v : List Int} (hb : H[d.b]? = some ⟨ics cs, .rw, 1⟩) (hs : IS H s v) (hd : d.n = v.length) (h : d.o + v.length ≤ cs.length) : cpB H 1 d s = some (((v.length : Nat) : Int), H.set d.b ⟨ics (putL cs d.o v), .rw, 1⟩) := by
  unfold cpB
  have hm : min s.n d.n = s.n := by rw [hd, hs.n]; simp
  rw [hm, hs.rng]
  simp only [Option.bind_some, putR_ics hb h, Option.map_some, hs.n]

/-- spec.l05Put -/
theorem c_sl05Put {r : Rg} {H : AH} {a b c s : Sl} {els : List (List Int)} {v : List Int} {n w : Nat} (hw : widthR r = (w : Int)) (hu : Uni w els) (hn : n < els.length) (hv : v.length = w) (hb : H[c.b]? = some ⟨ics els.flatten, .rw, 1⟩)
    (ho : c.o = 0) (hc : c.n = els.length * w) (hs : IS H s v) (hsb : v ≠ [] → s.b ≠ c.b) (hsm : els.length * w ≤ 1048576) :
    R (.fn F.sl05Put) [r.pv, tpv a b c, isc (n : Int), ssc s] H = some ⟨1, [], H.set c.b ⟨ics (els.set n v).flatten, .rw, 1⟩⟩ := by
  have hnw : n * w + w ≤ els.length * w := by rw [← Nat.succ_mul]; exact Nat.mul_le_mul_right _ hn
  have hlen := uni_len hu
  have hfit : n * w + v.length ≤ els.flatten.length := by omega
  have hw1 : w ≤ 1048576 := by omega
  have hcs : c = ⟨c.b, 0, els.length * w, c.c, c.x⟩ := by cases c; simp_all
  have key : ∀ (k i : Nat), i + k = v.length → R (.loop F.sl05Put 0) [isc (n : Int), ssc s, isc (w : Int), isc (v.length : Int), isc (i : Int), tpv a b c] (H.set c.b ⟨ics (putL els.flatten (n * w) (v.take i)), .rw, 1⟩) =
      some ⟨2, [], H.set c.b ⟨ics (putL els.flatten (n * w) v), .rw, 1⟩⟩ := by
    intro k
    induction k with
    | zero =>
      intro i hi
      obtain rfl : i = v.length := by omega
      rw [List.take_of_length_le (Nat.le_refl _), R_eq, e_sl05Put_0, lt_self]; rfl
    | succ k ih =>
      intro i hi
      have hlt : i < v.length := by omega
      have hne : v ≠ [] := fun e => by rw [e] at hlt; simp at hlt
      have e1 : IntKind.wrap .i64 (IntKind.wrap .i64 ((n : Int) * (w : Int)) + (i : Int)) = ((n * w + i : Nat) : Int) := by
        rw [← Int.natCast_mul, wrap_id (x := ((n * w : Nat) : Int)) (by omega) (by omega), wrap_id] <;> omega
      rw [R_eq, e_sl05Put_0, (hs.set (fun h => hsb h)).ldk hlt, lt_true hlt, w1 hlt (by omega), cond_true, e1, hcs]
      have hpl : (putL els.flatten (n * w) (v.take i)).length = els.flatten.length := putL_len (by rw [List.length_take]; omega)
      rw [st_own0 (set_get hb) (by omega) (by omega), set_set, putL_set hfit hlt, ← hcs]
      exact ih (i + 1) (by omega)
  have h0 := key v.length 0 (by omega)
  rw [List.take_zero, putL_nil, set_same hb, putL_flat hu hn hv] at h0
  have h0 : R (.loop F.sl05Put 0) [isc (n : Int), ssc s, isc (w : Int), isc (v.length : Int), isc 0, tpv a b c] H = _ := h0
  rw [R_eq, e_sl05Put, c_sl02Width, hw, hs.n]
  simp only [Option.bind_some, one_int]
  rw [h0]
  rfl
end Go.Abs
/- Contracts: tensors that are made. -/
namespace Go.Abs
set_option linter.unusedVariables false
set_option linter.unusedSimpArgs false

theorem prodC_eq : ∀ {l : List Int} {a : Int}, 1 ≤ a → (∀ d ∈ l, 1 ≤ d) → a * prd l ≤ 4096 → prodC 4096 a l = a * prd l
  | [], a, _, _, _ => by simp [prodC, prd]
  | d :: l, a, h, hd, hp => by
    have h1 := hd d List.mem_cons_self
    have h2 := prd_pos (a := l) fun x hx => hd x (List.mem_cons_of_mem _ hx)
    have h3 : a * 1 ≤ a * d := Int.mul_le_mul_of_nonneg_left h1 (by omega)
    have hp' : a * d * prd l ≤ 4096 := by simpa [prd, Int.mul_assoc] using hp
    have h4 : a * d * 1 ≤ a * d * prd l := Int.mul_le_mul_of_nonneg_left h2 (by omega)
    unfold prodC
    rw [if_neg (by omega), prodC_eq (by omega) (fun x hx => hd x (List.mem_cons_of_mem _ hx)) hp']
    simp [prd, Int.mul_assoc]

/-- Rows of a new tensor. -/
structure NewT (H H' : AH) (a b c : Sl) (t : Tn) : Prop where
  le : Le H H'
  rows : Rows H.length H' (rows3 a b c t)
theorem NewT.ts {H H' : AH} {a b c : Sl} {t : Tn} (h : NewT H H' a b c t) : TS H' a b c t :=
  ⟨(h.rows.own (a, t.L) (by simp)).is, (h.rows.own (b, t.D) (by simp)).is, (h.rows.own (c, t.X) (by simp)).is⟩

/-- A row grows by elements that are copied. -/
theorem grow_le {n0 : Nat} {H0 H H' : AH} {s s' : Sl} (h : Le H0 H) (hf : ∀ b, b < H.length → (b ≠ s.b ∨ False) → H'[b]? = H[b]?) (hl : H.length ≤ H'.length) (hs : H0.length ≤ s.b) : Le H0 H' :=
  ⟨Nat.le_trans h.len hl, fun b hb => (hf b (Nat.lt_of_lt_of_le hb h.len) (.inl (by omega))).trans (h.get b hb)⟩

/-- spec.l05Zero: the data -/
theorem c_sl05Zero_0 {r : Rg} (hr : ringB r = true) {a b : Sl} {n0 : Nat} : ∀ (k : Nat) (X : List Int) (c : Sl) (H : AH), n0 ≤ H.length → Own n0 H c X → X.length + k * 6 ≤ 1048576 →
    ∃ c' H', R (.loop F.sl05Zero 0) [isc (k : Int), r.pv, tpv a b c] H = some ⟨2, [tpv a b c'], H'⟩ ∧ Own n0 H' c' (X ++ (List.replicate k (zeroR r)).flatten) ∧ H.length ≤ H'.length ∧
      (∀ d, d < H.length → (d ≠ c.b ∨ X = []) → H'[d]? = H[d]?) ∧ (X ++ (List.replicate k (zeroR r)).flatten ≠ [] → H.length ≤ c'.b ∨ (c'.b = c.b ∧ X ≠ []))
  | 0, X, c, H, hn, ho, hX => by
    refine ⟨c, H, ?_, by simpa using ho, Nat.le_refl _, fun _ _ _ => rfl, fun h => .inr ⟨rfl, by simpa using h⟩⟩
    rw [R_eq, e_sl05Zero_0]; rfl
  | k + 1, X, c, H, hn, ho, hX => by
    have hw := width_range hr
    have hz := zeroR_len r
    obtain ⟨s, H1, e1, n1⟩ := c_sl02Zero hr H
    obtain ⟨c2, H2, e2, o2, l2, f2, _, b2⟩ := app_own (m := zeroR r) (by rw [n1.len]; omega) (ho.le n1.le) (by omega)
    have hzne : zeroR r ≠ [] := fun e => by rw [e] at hz; simp at hz; omega
    obtain ⟨c', H', e3, o3, l3, f3, b3⟩ := c_sl05Zero_0 hr (a := a) (b := b) k (X ++ zeroR r) c2 H2 (by rw [n1.len] at l2; omega) o2 (by simp; omega)
    have hne : X ++ zeroR r ≠ [] := by simp [hzne]
    have b2 := b2 hzne
    have nl := n1.len
    refine ⟨c', H', ?_, by simpa [List.replicate_succ] using o3, by omega, fun d hd hc => ?_, fun _ => ?_⟩
    · have hk : decide (((k + 1 : Nat) : Int) > 0) = true := decide_eq_true (by omega)
      rw [R_eq, e_sl05Zero_0, hk, cond_true, e1]
      simp only [Option.bind_some, one_sl, n1.own.is.rng]
      have : s.n = (zeroR r).length := n1.own.n
      rw [this, e2]
      simp only [Option.bind_some]
      have e : IntKind.wrap .i64 (((k + 1 : Nat) : Int) - 1) = (k : Int) := by rw [wrap_id] <;> omega
      rw [e]; exact e3
    · rw [f3 d (by omega) (.inl (by omega)), f2 d (by omega) hc, n1.le.get d hd]
    · rcases b3 (fun e => hne (List.append_eq_nil_iff.1 e).1) with h | ⟨h, _⟩
      · exact .inl (by omega)
      · exact .inl (by omega)

def DimsOk (D : List Int) : Prop := D.length ≤ 12 ∧ (∀ d ∈ D, 1 ≤ d ∧ d ≤ 8) ∧ prd D ≤ 4096
theorem DimsOk.ge {D : List Int} (h : DimsOk D) : ∀ d ∈ D, 1 ≤ d := fun d hd => (h.2.1 d hd).1
theorem DimsOk.nat {D : List Int} (h : DimsOk D) : ∃ N : Nat, prd D = (N : Int) ∧ 1 ≤ N ∧ N ≤ 4096 ∧ (prd D).toNat = N := ⟨(prd D).toNat, by have := prd_pos h.ge; omega, by have := prd_pos h.ge; omega, by have := h.2.2; omega, rfl⟩

/-- spec.l05Zero -/
theorem c_sl05Zero {r : Rg} (hr : ringB r = true) {H : AH} {u v : Sl} {L D : List Int} (hu : IS H u L) (hv : IS H v D) (hL : L.length ≤ 1048576) (hD : DimsOk D) :
    ∃ a b c H', R (.fn F.sl05Zero) [r.pv, ssc u, ssc v] H = some ⟨1, [tpv a b c], H'⟩ ∧ NewT H H' a b c ⟨L, D, (List.replicate (prd D).toNat (zeroR r)).flatten⟩ := by
  obtain ⟨N, hN, hN1, hN2, hN3⟩ := hD.nat
  obtain ⟨a, H1, e1, l1, o1⟩ := c_sl05Ints hu (by omega)
  obtain ⟨b, H2, e2, l2, o2⟩ := c_sl05Ints (hv.le l1) (by have := hD.1; omega)
  have l12 := l1.trans l2
  obtain ⟨c, H', e3, o3, l3, f3, b3⟩ := c_sl05Zero_0 hr (a := a) (b := b) (n0 := H.length) N [] ⟨0, 0, 0, 0, true⟩ H2 l12.len (Own.nil _ _ _) (by simp; omega)
  have hp : prodC 4096 1 D = (N : Int) := by rw [prodC_eq (by omega) hD.ge (by have := hD.2.2; omega), hN]; omega
  refine ⟨a, b, c, H', ?_, ⟨⟨by have := l12.len; omega, fun d hd => by rw [f3 d (by have := l12.len; omega) (.inr rfl)]; exact l12.get d hd⟩, ?_⟩⟩
  · rw [R_eq, e_sl05Zero, e1]
    simp only [Option.bind_some, one_sl]
    rw [e2]
    simp only [Option.bind_some, one_sl]
    rw [c_sl05Product ((hv.le l12)) (by have := hD.1; omega) (fun d hd => by have := hD.2.1 d hd; omega), hp]
    simp only [Option.bind_some, one_int]
    rw [e3]
    rfl
  · rw [hN3]
    have q1 : Rows H.length H2 [(a, L), (b, D)] :=
      Rows.cons (Rows.cons (Rows.nil _ _) (o2.low l1.len) (by simp)) (o1.le l2) (fun h1 q hq hq2 => by
        simp at hq; subst hq
        have := o1.lt h1
        rcases o2.lo with h | h
        · exact absurd h hq2
        · show a.b ≠ b.b; omega)
    have q2 : Rows H.length H2 [(a, L), (b, D), (⟨0, 0, 0, 0, true⟩, [])] := by
      refine ⟨fun p hp => ?_, ?_⟩
      · simp at hp
        rcases hp with rfl | rfl | rfl
        · exact q1.own _ (by simp)
        · exact q1.own _ (by simp)
        · exact Own.nil _ _ _
      · have := q1.apart
        simp [List.pairwise_cons, apartR] at this ⊢
        exact this
    have := Rows.upd (xs := [(a, L), (b, D)]) (ys := []) (p := (⟨0, 0, 0, 0, true⟩, [])) q2 (s' := c) (l' := (List.replicate N (zeroR r)).flatten) (H' := H') (by simpa using o3) (fun d hd h => f3 d hd (.inr rfl)) (fun h => by
      rcases b3 (by simpa using h) with h | ⟨_, h⟩
      · exact .inl h
      · exact absurd rfl h)
    exact this

/-- A row whose place is laid out grows into it. -/
theorem c_ifillTensor_0 {a b s : Sl} {x z : List Int} {w N : Nat} (hw : 0 < w) (hx : x.length = w) (hz : z.length = w) (hN : N * w ≤ 1048576) {H : AH} {d : Nat} {els : List (List Int)} (hs : IS H s x) (hsd : s.b ≠ d) (hd : d < H.length) :
    ∀ (k i : Nat), i + k = N → R (.loop F.ifillTensor 0) [ssc s, isc (N : Int), isc (i : Int), tpv a b ⟨d, 0, i * w, N * w, true⟩] (H.set d ⟨ics (List.replicate i x ++ List.replicate k z).flatten, .rw, 1⟩) =
      some ⟨2, [tpv a b ⟨d, 0, N * w, N * w, true⟩], H.set d ⟨ics (List.replicate N x).flatten, .rw, 1⟩⟩
  | 0, i, hi => by
    obtain rfl : i = N := by omega
    rw [R_eq, e_ifillTensor_0, lt_self]; simp
  | k + 1, i, hi => by
    have hlt : i < N := by omega
    have hu : Uni w (List.replicate i x ++ List.replicate (k + 1) z) := fun e he => by
      rcases List.mem_append.1 he with he | he
      · rw [(List.mem_replicate.1 he).2]; exact hx
      · rw [(List.mem_replicate.1 he).2]; exact hz
    have hfl := uni_len hu
    have hfl2 : (List.replicate i x ++ List.replicate (k + 1) z).length = N := by simp; omega
    rw [hfl2] at hfl
    have hb : (H.set d ⟨ics (List.replicate i x ++ List.replicate (k + 1) z).flatten, .rw, 1⟩)[d]? = some ⟨ics (List.replicate i x ++ List.replicate (k + 1) z).flatten, .rw, 1⟩ := by simp [hd]
    have hnw : i * w + w ≤ N * w := by rw [← Nat.succ_mul]; exact Nat.mul_le_mul_right _ (by omega)
    have hN1 : N ≤ 1048576 := Nat.le_trans (Nat.le_mul_of_pos_right N hw) hN
    rw [R_eq, e_ifillTensor_0, lt_true hlt, w1 hlt (by omega), cond_true, (hs.set (fun _ => hsd)).rng]
    simp only [Option.bind_some]
    have ha : appB (H.set d ⟨ics (List.replicate i x ++ List.replicate (k + 1) z).flatten, .rw, 1⟩) 1 8 ⟨d, 0, i * w, N * w, true⟩ (ics x) s.n = some (⟨d, 0, (i + 1) * w, N * w, true⟩, H.set d ⟨ics (List.replicate (i + 1) x ++ List.replicate k z).flatten, .rw, 1⟩) := by
      unfold appB
      rw [hs.n, hx, if_pos (by show i * w + w ≤ N * w; omega)]
      simp only [Nat.zero_add, Nat.mul_one]
      rw [putR_ics hb (by rw [hfl, hx]; omega), set_set, putL_flat hu (by rw [hfl2]; omega) hx]
      simp only [Option.map_some, Nat.add_mul, Nat.one_mul]
      have : (List.replicate i x ++ List.replicate (k + 1) z).set i x = List.replicate (i + 1) x ++ List.replicate k z := by
        rw [List.set_append_right _ _ (by simp), List.length_replicate, Nat.sub_self, List.replicate_succ (n := k), List.set_cons_zero, List.replicate_succ' (n := i)]
        simp
      rw [this]
    rw [ha]
    simp only [Option.bind_some]
    exact c_ifillTensor_0 hw hx hz hN hs hsd hd (els := els) k (i + 1) (by omega)

/-- impl.fillTensor -/
theorem c_ifillTensor {r : Rg} {H : AH} {u v s : Sl} {L D x : List Int} {w : Nat} (hu : IS H u L) (hv : IS H v D) (hs : IS H s x) (hL : L.length ≤ 1048576) (hD : DimsOk D) (hw : 0 < w) (hw6 : w ≤ 6) (hx : x.length = w) :
    ∃ a b c H', R (.fn F.ifillTensor) [r.pv, ssc u, ssc v, ssc s] H = some ⟨1, [tpv a b c], H'⟩ ∧ NewT H H' a b c ⟨L, D, (List.replicate (prd D).toNat x).flatten⟩ := by
  obtain ⟨N, hN, hN1, hN2, hN3⟩ := hD.nat
  obtain ⟨a, H1, e1, l1, o1⟩ := c_icopyInts hu (by omega)
  obtain ⟨b, H2, e2, l2, o2⟩ := c_icopyInts (hv.le l1) (by have := hD.1; omega)
  have l12 := l1.trans l2
  have hNw : N * w ≤ 4096 * 6 := Nat.mul_le_mul hN2 hw6
  have hs2 := hs.le l12
  have hxne : x ≠ [] := fun e => by rw [e] at hx; simp at hx; omega
  have hle := Le.app H2 [⟨ics (List.replicate (N * w) 0), .rw, 1⟩]
  have hpi : prodI 1 D = (N : Int) := by rw [prodI_eq, hN]; omega
  have hmk : mkB H2 1 8 [.int .i64 0] 0 ((N * w : Nat) : Int) = some (⟨H2.length, 0, 0, N * w, true⟩, H2 ++ [⟨ics (List.replicate (N * w) 0), .rw, 1⟩]) := by
    unfold mkB
    have := most_ok (n := N * w) (by omega)
    rw [if_pos ⟨by omega, by omega, by omega, by omega, by omega⟩]
    rw [Int.toNat_natCast, Int.toNat_zero]
    simp [List.map_replicate, List.flatten_replicate_singleton]
  have hz0 : (List.replicate 0 x ++ List.replicate N (List.replicate w (0 : Int))).flatten = List.replicate (N * w) 0 := by simp
  have hlt : s.b ≠ H2.length := by have := hs2.lt hxne; omega
  have lp := c_ifillTensor_0 (a := a) (b := b) (s := s) hw hx (z := List.replicate w 0) (by simp) (N := N) (by omega) (H := H2 ++ [⟨ics (List.replicate (N * w) 0), .rw, 1⟩]) (d := H2.length) (els := []) (hs2.le hle) hlt (by simp) N 0 (by omega)
  rw [hz0, set_same (by simp), app_set] at lp
  have lp : R (.loop F.ifillTensor 0) [ssc s, isc (N : Int), isc 0, tpv a b ⟨H2.length, 0, 0, N * w, true⟩] (H2 ++ [⟨ics (List.replicate (N * w) 0), .rw, 1⟩]) = some ⟨2, [tpv a b ⟨H2.length, 0, N * w, N * w, true⟩], H2 ++ [⟨ics (List.replicate N x).flatten, .rw, 1⟩]⟩ := by
    rw [Nat.zero_mul] at lp; exact lp
  have hfl : (List.replicate N x).flatten.length = N * w := by rw [uni_len (Uni.rep hx)]; simp
  refine ⟨a, b, ⟨H2.length, 0, N * w, N * w, true⟩, H2 ++ [⟨ics (List.replicate N x).flatten, .rw, 1⟩], ?_, ⟨l12.push _, ?_⟩⟩
  · have e4 : IntKind.wrap .i64 ((N : Int) * (s.n : Int)) = ((N * w : Nat) : Int) := by
      rw [hs.n, hx, ← Int.natCast_mul, wrap_id] <;> omega
    rw [R_eq, e_ifillTensor, e1]
    simp only [Option.bind_some, one_sl]
    rw [e2]
    simp only [Option.bind_some, one_sl]
    rw [c_iproductOf (hv.le l12) hD.1 hD.2.1, hpi]
    simp only [Option.bind_some, one_int]
    rw [e4, hmk]
    simp only [Option.bind_some]
    rw [lp]
    rfl
  · rw [hN3]
    have oc : Own H2.length (H2 ++ [⟨ics (List.replicate N x).flatten, .rw, 1⟩]) ⟨H2.length, 0, N * w, N * w, true⟩ (List.replicate N x).flatten := by
      have := own_at (n0 := H2.length) (H := H2 ++ [⟨ics (List.replicate N x).flatten, .rw, 1⟩]) (l := (List.replicate N x).flatten) (Nat.le_refl _) (by simp)
      unfold rowAt at this
      rw [hfl] at this; exact this
    refine Rows.cons (Rows.cons (Rows.cons (Rows.nil _ _) (oc.low l12.len) (by simp)) ((o2.low l1.len).le (Le.app _ _)) (fun h1 q hq hq2 => ?_)) ((o1.le l2).le (Le.app _ _)) (fun h1 q hq hq2 => ?_)
    · simp at hq; subst hq
      have := o2.lt h1
      show b.b ≠ H2.length; omega
    · have ha := o1.lt h1
      have hl2 := l2.len
      simp at hq
      rcases hq with rfl | rfl
      · rcases o2.lo with h | h
        · exact absurd h hq2
        · show a.b ≠ b.b; omega
      · show a.b ≠ H2.length; omega
end Go.Abs
/- Contracts: pairs; uses of a label; a clause's truth; rows that are collected. -/
namespace Go.Abs
set_option linter.unusedVariables false
set_option linter.unusedSimpArgs false

/-- What a walk collects. -/
def colF {α : Type} (g : Nat → α → Option Int) : List α → Nat → List Int
  | [], _ => []
  | a :: l, i => (g i a).toList ++ colF g l (i + 1)
theorem collect {α : Type} {l : List α} {H0 : AH} {F : Nat → Sl → AH → Option Out} {fin : Sl → AH → Option Out} (g : Nat → α → Option Int) (hend : ∀ s H, F l.length s H = fin s H)
    (hstep : ∀ i (h : i < l.length) s H acc, Le H0 H → Own H0.length H s acc → acc.length ≤ l.length → ∃ s' H', F i s H = F (i + 1) s' H' ∧ Own H0.length H' s' (acc ++ (g i l[i]).toList) ∧ Le H0 H') {s0 : Sl} {H : AH} (hle : Le H0 H) (ho : Own H0.length H s0 []) :
    ∃ s' H', F 0 s0 H = fin s' H' ∧ Own H0.length H' s' (colF g l 0) ∧ Le H0 H' := by
  have key : ∀ k i, i + k = l.length → ∀ s H acc, Le H0 H → Own H0.length H s acc → acc.length ≤ i → ∃ s' H', F i s H = fin s' H' ∧ Own H0.length H' s' (acc ++ colF g (l.drop i) i) ∧ Le H0 H' := by
    intro k
    induction k with
    | zero =>
      intro i hi s H acc h1 h2 h3
      obtain rfl : i = l.length := by omega
      exact ⟨s, H, hend s H, by simpa [colF] using h2, h1⟩
    | succ k ih =>
      intro i hi s H acc h1 h2 h3
      have hlt : i < l.length := by omega
      obtain ⟨s1, H1, e1, o1, l1⟩ := hstep i hlt s H acc h1 h2 (by omega)
      have hle1 : (g i l[i]).toList.length ≤ 1 := by cases g i l[i] <;> simp
      obtain ⟨s', H', e2, o2, l2⟩ := ih (i + 1) (by omega) s1 H1 _ l1 o1 (by rw [List.length_append]; omega)
      refine ⟨s', H', by rw [e1, e2], ?_, l2⟩
      rw [List.drop_eq_getElem_cons hlt]
      simpa [colF] using o2
  have := key l.length 0 (by omega) s0 H [] hle ho (Nat.le_refl _)
  simpa using this

/-- spec.l12Uses -/
def usesF (x : Int) (ts : List Tn) : List Int := colF (fun i t => if 0 ≤ findF t.L x 0 then some (i : Int) else none) ts 0
theorem push_le {H0 H : AH} {s : Sl} {l : List Int} (hle : Le H0 H) (h : Own H0.length H s l) (hl : l.length < 134217728) (v : Int) :
    ∃ s' H', (∀ {α : Type} (k : Sl × AH → Option α), ((newB H 1 [.int .i64 v]).bind fun h => (rng h.2 h.1 0 (1 * 1)).bind fun q => (appB h.2 1 8 s q 1).bind k) = k (s', H')) ∧ Own H0.length H' s' (l ++ [v]) ∧ Le H0 H' := by
  obtain ⟨s', H', e, o, l1, f, b⟩ := push_own hle.len h hl v
  refine ⟨s', H', e, o, hle.lo_trans (Lo.mk l1 fun d hd => f d (by have := hle.len; omega) ?_)⟩
  rcases h.lo with h | h
  · exact .inr h
  · exact .inl (by omega)
theorem c_sl12Uses {H : AH} {s : Sl} {ts : List Tn} (h : T3 H s ts) (hm : ts.length ≤ 1048576) (ht : ∀ t ∈ ts, t.L.length ≤ 1048576) (x : Int) :
    ∃ s' H', R (.fn F.sl12Uses) [ssc s, isc x] H = some ⟨1, [ssc s'], H'⟩ ∧ Own H.length H' s' (usesF x ts) ∧ Le H H' := by
  have cl := collect (l := ts) (H0 := H) (F := fun i u Hc => R (.loop F.sl12Uses 0) [isc x, ssc u, ssc s, isc (ts.length : Int), isc (i : Int)] Hc) (fin := fun u Hc => some ⟨2, [ssc u], Hc⟩) (fun i t => if 0 ≤ findF t.L x 0 then some (i : Int) else none)
    (fun u Hc => by rw [R_eq, e_sl12Uses_0, lt_self]; rfl)
    (fun i hi u Hc acc hle ho ha => by
      obtain ⟨a, b, c, hT, hk⟩ := (h.le hle).ld hi
      have hfind := c_sl05Find hT.L (ht _ (List.getElem_mem hi)) x
      by_cases h0 : 0 ≤ findF ts[i].L x 0
      · obtain ⟨s', H', e, o, l⟩ := push_le hle ho (by omega) (i : Int)
        refine ⟨s', H', ?_, by simpa [h0] using o, l⟩
        have hd : decide (findF ts[i].L x 0 ≥ 0) = true := decide_eq_true h0
        rw [R_eq, e_sl12Uses_0, lt_true hi, w1 hi (by omega), cond_true, hk, hfind]
        simp only [Option.bind_some, one_int, hd, cond_true]
        rw [e]
      · refine ⟨u, Hc, ?_, by simpa [h0] using ho, hle⟩
        have hd : decide (findF ts[i].L x 0 ≥ 0) = false := decide_eq_false h0
        rw [R_eq, e_sl12Uses_0, lt_true hi, w1 hi (by omega), cond_true, hk, hfind]
        simp only [Option.bind_some, one_int, hd, cond_false])
    (s0 := ⟨H.length, 0, 0, 0, true⟩) (H := H ++ [⟨[], .rw, 1⟩]) (Le.app _ _) (Own.nil _ _ _)
  obtain ⟨s', H', e, o, l⟩ := cl
  refine ⟨s', H', ?_, o, l⟩
  have e : R (.loop F.sl12Uses 0) [isc x, ssc ⟨H.length, 0, 0, 0, true⟩, ssc s, isc (ts.length : Int), isc 0] (H ++ [⟨[], .rw, 1⟩]) = _ := e
  rw [R_eq, e_sl12Uses, newB_one]
  simp only [Option.bind_some, h.1]
  rw [e]
  rfl

theorem pair_rows {H : AH} {x : List Int} {v : Int} {H2 H' : AH} {c : Sl} (hH2 : H2 = H ++ [⟨[.int .i64 v], .rw, 1⟩] ++ [⟨[.int .i64 2], .rw, 1⟩]) (hle : Le H2 H') (ho : Own H2.length H' c x) :
    NewT H H' ⟨H.length, 0, 1, 1, true⟩ ⟨H.length + 1, 0, 1, 1, true⟩ c ⟨[v], [2], x⟩ := by
  subst hH2
  have g1 : H'[H.length]? = some ⟨ics [v], .rw, 1⟩ := by rw [hle.get _ (by simp)]; simp
  have g2 : H'[H.length + 1]? = some ⟨ics [2], .rw, 1⟩ := by rw [hle.get _ (by simp)]; simp
  refine ⟨((Le.app H _).trans (Le.app _ _)).trans hle, ?_⟩
  simp at ho
  refine Rows.cons (Rows.cons (Rows.cons (Rows.nil _ _) (ho.low (by omega)) (by simp)) (own_at (l := [2]) (by omega) g2) (fun _ q hq hq2 => ?_)) (own_at (l := [v]) (Nat.le_refl _) g1) (fun _ q hq hq2 => ?_)
  · simp at hq; subst hq
    rcases ho.lo with h | h
    · exact absurd h hq2
    · show H.length + 1 ≠ c.b; omega
  · simp at hq
    rcases hq with rfl | rfl
    · show H.length ≠ H.length + 1; omega
    · rcases ho.lo with h | h
      · exact absurd h hq2
      · show H.length ≠ c.b; omega
theorem pair_app {H2 H3 : AH} {s6 u2 : Sl} {x y : List Int} (hle : Le H2 H3) (ho : Own H2.length H3 s6 x) (hy : IS H3 u2 y) (hl : x.length + y.length ≤ 1048576) :
    ∃ c H', ((rng H3 u2.b u2.o (u2.n * 1)).bind fun l => (appB H3 1 8 s6 l u2.n)) = some (c, H') ∧ Le H2 H' ∧ Own H2.length H' c (x ++ y) := by
  obtain ⟨c, H', e, o, l, f, _, _⟩ := app_own (m := y) hle.len ho (by omega)
  refine ⟨c, H', ?_, hle.lo_trans (Lo.mk l fun d hd => f d (by have := hle.len; omega) ?_), o⟩
  · rw [hy.rng, hy.n]; exact e
  · rcases ho.lo with h | h
    · exact .inr h
    · exact .inl (by omega)
/-- spec.l37Pair -/
theorem c_sl37Pair {H : AH} {s1 s2 : Sl} {x y : List Int} (hx : IS H s1 x) (hy : IS H s2 y) (hl : x.length + y.length ≤ 1048576) (v : Int) :
    ∃ a b c H', R (.fn F.sl37Pair) [isc v, ssc s1, ssc s2] H = some ⟨1, [tpv a b c], H'⟩ ∧ NewT H H' a b c ⟨[v], [2], x ++ y⟩ := by
  have hle0 := (Le.app H [⟨[.int .i64 v], .rw, 1⟩]).trans (Le.app _ [⟨[.int .i64 2], .rw, 1⟩])
  obtain ⟨s6, H3, e1, l1, o1⟩ := c_sl05Ints (hx.le hle0) (by omega)
  obtain ⟨c, H', e2, l2, o2⟩ := pair_app l1 o1 (hy.le (hle0.trans l1)) hl
  refine ⟨_, _, c, H', ?_, pair_rows rfl l2 o2⟩
  rw [R_eq, e_sl37Pair, newB_one]
  simp only [Option.bind_some, newB_one]
  rw [e1]
  simp only [Option.bind_some, one_sl]
  rw [← Option.bind_assoc, e2]
  simp
/-- impl.pairTensor -/
theorem c_ipairTensor {H : AH} {s1 s2 : Sl} {x y : List Int} (hx : IS H s1 x) (hy : IS H s2 y) (hl : x.length + y.length ≤ 1048576) (v : Int) :
    ∃ a b c H', R (.fn F.ipairTensor) [isc v, ssc s1, ssc s2] H = some ⟨1, [tpv a b c], H'⟩ ∧ NewT H H' a b c ⟨[v], [2], x ++ y⟩ := by
  have hle0 := (Le.app H [⟨[.int .i64 v], .rw, 1⟩]).trans (Le.app _ [⟨[.int .i64 2], .rw, 1⟩])
  obtain ⟨s6, H3, e1, l1, o1⟩ := c_icopyInts (hx.le hle0) (by omega)
  obtain ⟨c, H', e2, l2, o2⟩ := pair_app l1 o1 (hy.le (hle0.trans l1)) hl
  refine ⟨_, _, c, H', ?_, pair_rows rfl l2 o2⟩
  rw [R_eq, e_ipairTensor, newB_one]
  simp only [Option.bind_some, newB_one]
  rw [e1]
  simp only [Option.bind_some, one_sl]
  rw [← Option.bind_assoc, e2]
  simp

/-- A literal under values that are nought or one. -/
def litT (vals : List Int) (x : Int) : Bool := (vals.getD (x.natAbs - 1) 0 == 1) == decide (x > 0)
structure ValsOk (vals : List Int) (l : List Int) : Prop where
  bit : ∀ v ∈ vals, v = 0 ∨ v = 1
  lit : ∀ x ∈ l, x ≠ 0 ∧ x.natAbs ≤ vals.length
  len : vals.length ≤ 1048576
  cl : l.length ≤ 1048576
theorem c_ivariableOf {x : Int} (h : -1048576 ≤ x ∧ x ≤ 1048576) (H : AH) : R (.fn F.ivariableOf) [isc x] H = some ⟨1, [isc (x.natAbs : Int)], H⟩ := by
  rw [R_eq, e_ivariableOf]
  have : IntKind.wrap .i64 (0 - x) = -x := by rw [wrap_id] <;> omega
  rw [this]
  have : (if -x > x then -x else x) = (x.natAbs : Int) := by split <;> omega
  rw [this]
theorem ld_vals {H : AH} {s : Sl} {vals : List Int} (h : IS H s vals) {x : Int} (h0 : x ≠ 0) (hx : x.natAbs ≤ vals.length) (hl : vals.length ≤ 1048576) {α : Type} (k : Int → Option α) :
    ((ixA s (IntKind.wrap .i64 ((x.natAbs : Int) - 1)) 1).bind fun o => (rdB H s.b).bind fun c => (intAt .i64 c o).bind k) = k (vals.getD (x.natAbs - 1) 0) := by
  have e : IntKind.wrap .i64 ((x.natAbs : Int) - 1) = ((x.natAbs - 1 : Nat) : Int) := by rw [wrap_id] <;> omega
  have hlt : x.natAbs - 1 < vals.length := by omega
  rw [e, h.ldk hlt]
  congr 1
  simp [List.getD_eq_getElem?_getD, hlt]
/-- impl.clauseTrue -/
theorem c_iclauseTrue {H : AH} {s u : Sl} {l vals : List Int} (h : IS H s l) (hu : IS H u vals) (hv : ValsOk vals l) : R (.fn F.iclauseTrue) [ssc s, ssc u] H = some ⟨1, [bsc (l.any (litT vals))], H⟩ := by
  have lp := loop_any (F := fun i : Nat => R (.loop F.iclauseTrue 0) [ssc u, ssc s, isc (l.length : Int), isc (i : Int)] H) (l := l) (litT vals) (some ⟨1, [bsc true], H⟩) (some ⟨2, [], H⟩)
    (by rw [R_eq, e_iclauseTrue_0, lt_self]; rfl) (fun i hi => by
      obtain ⟨h0, hx⟩ := hv.lit l[i] (List.getElem_mem hi)
      have hlen := hv.len
      rw [R_eq, e_iclauseTrue_0, lt_true hi, w1 hi (by have := hv.cl; omega), cond_true, h.ldk hi, c_ivariableOf (by omega)]
      simp only [Option.bind_some, one_int]
      rw [ld_vals hu h0 hx hlen, if_cond]
      rfl)
  have lp : R (.loop F.iclauseTrue 0) [ssc u, ssc s, isc (l.length : Int), isc 0] H = _ := lp
  rw [R_eq, e_iclauseTrue, h.n, lp]
  cases l.any (litT vals) <;> rfl
/-- spec.l38True -/
theorem c_sl38True {H : AH} {s u : Sl} {l vals : List Int} (h : IS H s l) (hu : IS H u vals) (hv : ValsOk vals l) : R (.fn F.sl38True) [ssc s, ssc u] H = some ⟨1, [bsc (l.any (litT vals))], H⟩ := by
  have lp := loop_any (F := fun i : Nat => R (.loop F.sl38True 0) [ssc u, ssc s, isc (l.length : Int), isc (i : Int)] H) (l := l) (litT vals) (some ⟨1, [bsc true], H⟩) (some ⟨2, [], H⟩)
    (by rw [R_eq, e_sl38True_0, lt_self]; rfl) (fun i hi => by
      obtain ⟨h0, hx⟩ := hv.lit l[i] (List.getElem_mem hi)
      have hlen := hv.len
      have hbit : vals.getD (l[i].natAbs - 1) 0 = 0 ∨ vals.getD (l[i].natAbs - 1) 0 = 1 := by
        have hlt : l[i].natAbs - 1 < vals.length := by omega
        have : vals.getD (l[i].natAbs - 1) 0 = vals[l[i].natAbs - 1] := by simp [List.getD_eq_getElem?_getD, hlt]
        rw [this]
        exact hv.bit _ (List.getElem_mem hlt)
      rw [R_eq, e_sl38True_0, lt_true hi, w1 hi (by have := hv.cl; omega), cond_true, h.ldk hi, if_cond]
      by_cases hp : l[i] > 0
      · have hn : decide (l[i] < 0) = false := decide_eq_false (by omega)
        have hp' : decide (l[i] > 0) = true := decide_eq_true hp
        have e : l[i] = (l[i].natAbs : Int) := by omega
        rw [hp', cond_true, hn]
        have := ld_vals hu h0 hx hlen (k := fun n6 => cond (n6 == 1) (some (⟨1, [bsc true], H⟩ : Out)) (R (.loop F.sl38True 0) [ssc u, ssc s, isc (l.length : Int), isc ((i + 1 : Nat) : Int)] H))
        rw [← e] at this
        simp only [cond_false]
        rw [this]
        unfold litT
        rw [hp']
        rcases hbit with hb | hb <;> rw [hb] <;> rfl
      · have hn : decide (l[i] < 0) = true := decide_eq_true (by omega)
        have hp' : decide (l[i] > 0) = false := decide_eq_false hp
        have e : IntKind.wrap .i64 (0 - l[i]) = (l[i].natAbs : Int) := by rw [wrap_id] <;> omega
        rw [hp', cond_false, hn, cond_true, e, ld_vals hu h0 hx hlen]
        unfold litT
        rw [hp']
        rcases hbit with hb | hb <;> rw [hb] <;> rfl)
  have lp : R (.loop F.sl38True 0) [ssc u, ssc s, isc (l.length : Int), isc 0] H = _ := lp
  rw [R_eq, e_sl38True, h.n, lp]
  cases l.any (litT vals) <;> rfl
end Go.Abs
/- Words: what a function has made so far (a frame), and how it changes. -/
namespace Go.Abs
set_option linter.unusedVariables false
set_option linter.unusedSimpArgs false

/-- A row changes in place. -/
structure Mut (n0 : Nat) (H H' : AH) (s : Sl) (l l' : List Int) : Prop where
  own : Own n0 H' s l'
  len : H'.length = H.length
  fr : ∀ b, (b ≠ s.b ∨ l = []) → H'[b]? = H[b]?
theorem Mut.trans {n0 : Nat} {H H1 H2 : AH} {s : Sl} {l l1 l2 : List Int} (h : Mut n0 H H1 s l l1) (k : Mut n0 H1 H2 s l1 l2) (e : l = [] → l1 = []) : Mut n0 H H2 s l l2 :=
  ⟨k.own, k.len.trans h.len, fun b hb => (k.fr b (hb.imp id e)).trans (h.fr b hb)⟩
theorem Mut.le {n0 : Nat} {H0 H H' : AH} {s : Sl} {l l' : List Int} (h : Mut n0 H H' s l l') (hle : Le H0 H) (hs : l = [] ∨ H0.length ≤ s.b) : Le H0 H' :=
  ⟨by rw [h.len]; exact hle.len, fun b hb => (h.fr b (by
    rcases hs with h | h
    · exact .inr h
    · exact .inl (by omega))).trans (hle.get b hb)⟩
theorem Mut.refl {n0 : Nat} {H : AH} {s : Sl} {l : List Int} (h : Own n0 H s l) : Mut n0 H H s l l := ⟨h, rfl, fun _ _ => rfl⟩
/-- The block of a row that is not empty is overwritten. -/
theorem Mut.set {n0 : Nat} {H : AH} {s : Sl} {l l' : List Int} (h : Own n0 H s l) (hl : l ≠ []) (hn : l'.length = l.length) : Mut n0 H (H.set s.b ⟨ics l', .rw, 1⟩) s l l' := by
  have hlt := h.lt hl
  refine ⟨⟨h.o, by rw [hn]; exact h.n, by rw [hn]; exact h.c, ?_, .inr ⟨fun e => hl (by rw [e] at hn; exact List.length_eq_zero_iff.1 hn.symm), by simp [hlt]⟩⟩, by simp, fun b hb => ?_⟩
  · rcases h.lo with h | h
    · exact absurd h hl
    · exact .inr h
  · rcases hb with hb | hb
    · rw [List.getElem?_set_ne (Ne.symm hb)]
    · exact absurd hb hl
theorem Own.blk' {n0 : Nat} {H : AH} {s : Sl} {l : List Int} (h : Own n0 H s l) (hl : l ≠ []) : H[s.b]? = some ⟨ics l, .rw, 1⟩ := by
  rcases h.blk with ⟨e, _⟩ | ⟨_, e⟩
  · exact absurd e hl
  · exact e
theorem Own.eta {n0 : Nat} {H : AH} {s : Sl} {l : List Int} (h : Own n0 H s l) : s = ⟨s.b, 0, l.length, l.length, s.x⟩ := by
  have h1 := h.o; have h2 := h.n; have h3 := h.c
  cases s; simp_all

structure Fr (H0 H : AH) (rs : List Row) : Prop where
  le : Le H0 H
  rows : Rows H0.length H rs
theorem Fr.start (H : AH) : Fr H H [] := ⟨Le.refl H, Rows.nil _ _⟩
theorem Fr.of {H0 H : AH} (h : Le H0 H) : Fr H0 H [] := ⟨h, Rows.nil _ _⟩
theorem Fr.own {H0 H : AH} {rs : List Row} (h : Fr H0 H rs) {s : Sl} {l : List Int} (hp : (s, l) ∈ rs) : Own H0.length H s l := h.rows.own _ hp
theorem Fr.is {H0 H : AH} {rs : List Row} (h : Fr H0 H rs) {s : Sl} {l : List Int} (hp : (s, l) ∈ rs) : IS H s l := (h.own hp).is
theorem Fr.sub {H0 H : AH} {rs qs : List Row} (h : Fr H0 H rs) (hs : qs.Sublist rs) : Fr H0 H qs := ⟨h.le, h.rows.sub hs⟩
theorem Fr.perm {H0 H : AH} {rs qs : List Row} (h : Fr H0 H rs) (hp : qs.Perm rs) : Fr H0 H qs := ⟨h.le, h.rows.perm hp⟩
theorem Fr.mut {H0 H H' : AH} (xs : List Row) {ys : List Row} {s : Sl} {l l' : List Int} (h : Fr H0 H (xs ++ (s, l) :: ys)) (m : Mut H0.length H H' s l l') (he : l = [] → l' = []) : Fr H0 H' (xs ++ (s, l') :: ys) :=
  ⟨m.le h.le (h.own (s := s) (l := l) (by simp)).lo, h.rows.upd (p := (s, l)) m.own (fun b hb hne => m.fr b hne) fun hl => .inr ⟨rfl, fun e => hl (he e)⟩⟩
/-- Memory that is no longer asked for. -/
theorem Fr.ext {H0 H H' : AH} {rs : List Row} (h : Fr H0 H rs) (k : Le H H') : Fr H0 H' rs := ⟨h.le.trans k, h.rows.le k⟩
theorem rows_after {n0 : Nat} {H H' : AH} {rs qs : List Row} (h : Rows n0 H rs) (hn : n0 ≤ H.length) (hle : Le H H') (k : Rows H.length H' qs) : Rows n0 H' (qs ++ rs) := by
  have := (h.le hle).app k hn h.lt
  exact this.perm List.perm_append_comm
theorem Fr.new {H0 H H' : AH} {rs : List Row} {s : Sl} {l : List Int} (h : Fr H0 H rs) (hle : Le H H') (ho : Own H.length H' s l) : Fr H0 H' ((s, l) :: rs) :=
  ⟨h.le.trans hle, rows_after (qs := [(s, l)]) h.rows h.le.len hle ((Rows.nil _ _).cons ho (by simp))⟩
theorem Fr.newN {H0 H H' : AH} {rs : List Row} {s : Sl} {l : List Int} (h : Fr H0 H rs) (k : New H H' s l) : Fr H0 H' ((s, l) :: rs) := h.new k.le k.own
theorem Fr.newT {H0 H H' : AH} {rs : List Row} {a b c : Sl} {t : Tn} (h : Fr H0 H rs) (k : NewT H H' a b c t) : Fr H0 H' ((a, t.L) :: (b, t.D) :: (c, t.X) :: rs) :=
  ⟨h.le.trans k.le, rows_after (qs := rows3 a b c t) h.rows h.le.len k.le k.rows⟩
theorem Fr.empty {H0 H : AH} {rs : List Row} (h : Fr H0 H rs) (b : Nat) : Fr H0 H ((⟨b, 0, 0, 0, true⟩, []) :: rs) := ⟨h.le, h.rows.cons (Own.nil _ _ _) (by simp)⟩
theorem Fr.mk0 {H0 H : AH} {rs : List Row} (h : Fr H0 H rs) (n : Nat) : Fr H0 (H ++ [⟨ics (List.replicate n 0), .rw, 1⟩]) ((⟨H.length, 0, n, n, true⟩, List.replicate n 0) :: rs) := by
  have := h.newN (new_app H (List.replicate n 0))
  unfold rowAt at this
  rw [List.length_replicate] at this
  exact this
/-- A row grows. -/
theorem Fr.app {H0 H : AH} (xs : List Row) {ys : List Row} {s : Sl} {l m : List Int} (h : Fr H0 H (xs ++ (s, l) :: ys)) (hl : l.length + m.length ≤ 134217728) :
    ∃ s' H', appB H 1 8 s (ics m) m.length = some (s', H') ∧ Fr H0 H' (xs ++ (s', l ++ m) :: ys) ∧ H.length ≤ H'.length := by
  obtain ⟨s', H', e, o, l1, f, f2, f3⟩ := app_own h.le.len (h.own (s := s) (l := l) (by simp)) hl
  refine ⟨s', H', e, ⟨h.le.lo_trans (Lo.mk l1 fun d hd => f d (by have := h.le.len; omega) ?_), h.rows.upd (p := (s, l)) o f fun hne => ?_⟩, l1⟩
  · rcases (h.own (s := s) (l := l) (by simp)).lo with h | h
    · exact .inr h
    · exact .inl (by omega)
  · by_cases hm : m = []
    · subst hm
      rw [List.append_nil] at hne
      exact .inr ⟨by rw [(f2 rfl).1], hne⟩
    · exact .inl (f3 hm)
theorem Fr.push {H0 H : AH} (xs : List Row) {ys : List Row} {s : Sl} {l : List Int} (h : Fr H0 H (xs ++ (s, l) :: ys)) (hl : l.length < 134217728) (v : Int) :
    ∃ s' H', (∀ {α : Type} (k : Sl × AH → Option α), ((newB H 1 [.int .i64 v]).bind fun h => (rng h.2 h.1 0 (1 * 1)).bind fun q => (appB h.2 1 8 s q 1).bind k) = k (s', H')) ∧ Fr H0 H' (xs ++ (s', l ++ [v]) :: ys) := by
  obtain ⟨s', H', e, o, l1, f, f3⟩ := push_own h.le.len (h.own (s := s) (l := l) (by simp)) hl v
  refine ⟨s', H', e, ⟨h.le.lo_trans (Lo.mk l1 fun d hd => f d (by have := h.le.len; omega) ?_), h.rows.upd (p := (s, l)) o f fun hne => .inl f3⟩⟩
  rcases (h.own (s := s) (l := l) (by simp)).lo with h | h
  · exact .inr h
  · exact .inl (by omega)

/-- impl.nextIndex -/
theorem m_inextIndex {n0 : Nat} {H : AH} {s u : Sl} {D I : List Int} (h : IS H s D) (hl : D.length ≤ 1048576) (ho : Own n0 H u I) (hs : D ≠ [] → s.b ≠ u.b) (hi : I.length = D.length) (hx : ∀ x ∈ I, 0 ≤ x ∧ x ≤ 1048576) :
    ∃ H', R (.fn F.inextIndex) [ssc s, ssc u] H = some ⟨1, [bsc (nextF D I).1], H'⟩ ∧ Mut n0 H H' u I (nextF D I).2 := by
  by_cases he : I = []
  · subst he
    have : D = [] := List.length_eq_zero_iff.1 (by simpa using hi.symm)
    subst this
    refine ⟨H, ?_, Mut.refl ho⟩
    rw [R_eq, e_inextIndex, h.n]
    have : R (.loop F.inextIndex 0) [ssc s, ssc u, isc (IntKind.wrap .i64 (((([] : List Int).length : Nat) : Int) - 1))] H = some ⟨2, [], H⟩ := by
      rw [wdown (by simp), R_eq, e_inextIndex_0]; rfl
    rw [this]; rfl
  · have hc := c_inextIndex (x := u.x) h hl (ho.blk' he) hs hi hx
    rw [← ho.eta] at hc
    refine ⟨_, hc, Mut.set ho he ?_⟩
    unfold nextF
    rw [List.length_reverse, nextR_len (by simp [hi])]
    simp [hi]
/-- spec.l05Put -/
theorem m_sl05Put {n0 : Nat} {r : Rg} {H : AH} {a b c s : Sl} {els : List (List Int)} {v : List Int} {n w : Nat} (hw : widthR r = (w : Int)) (hw0 : 0 < w) (hu : Uni w els) (hn : n < els.length) (hv : v.length = w) (ho : Own n0 H c els.flatten)
    (hs : IS H s v) (hsb : s.b ≠ c.b) (hsm : els.length * w ≤ 1048576) :
    ∃ H', R (.fn F.sl05Put) [r.pv, tpv a b c, isc (n : Int), ssc s] H = some ⟨1, [], H'⟩ ∧ Mut n0 H H' c els.flatten (els.set n v).flatten := by
  have hl := uni_len hu
  have hne : els.flatten ≠ [] := fun e => by
    rw [e] at hl
    have : 0 < els.length * w := Nat.mul_pos (by omega) hw0
    simp at hl; omega
  refine ⟨_, c_sl05Put hw hu hn hv (ho.blk' hne) ho.o (by rw [ho.n, hl]) hs (fun _ => hsb) hsm, Mut.set ho hne ?_⟩
  rw [uni_len (hu.set hv), hl]; simp
/-- 'copy' into an element's place. -/
theorem m_cp {n0 : Nat} {H : AH} {c s : Sl} {els : List (List Int)} {v : List Int} {n w : Nat} (hw0 : 0 < w) (hu : Uni w els) (hn : n < els.length) (hv : v.length = w) (ho : Own n0 H c els.flatten) (hs : IS H s v) :
    ∃ H', cpB H 1 (partAt c w n) s = some ((w : Int), H') ∧ Mut n0 H H' c els.flatten (els.set n v).flatten := by
  have hl := uni_len hu
  have hne : els.flatten ≠ [] := fun e => by
    rw [e] at hl
    have : 0 < els.length * w := Nat.mul_pos (by omega) hw0
    simp at hl; omega
  have hnw : n * w + w ≤ els.length * w := by rw [← Nat.succ_mul]; exact Nat.mul_le_mul_right _ hn
  have := cp_ics (d := partAt c w n) (ho.blk' hne) hs (by simp [hv]) (by show c.o + n * w + v.length ≤ _; rw [ho.o, hl, hv]; omega)
  refine ⟨_, by rw [this, hv], ?_⟩
  have e : putL els.flatten (partAt c w n).o v = (els.set n v).flatten := by
    show putL els.flatten (c.o + n * w) v = _
    rw [ho.o, Nat.zero_add, putL_flat hu hn hv]
  rw [e]
  refine Mut.set ho hne ?_
  rw [uni_len (hu.set hv), hl]; simp
end Go.Abs
