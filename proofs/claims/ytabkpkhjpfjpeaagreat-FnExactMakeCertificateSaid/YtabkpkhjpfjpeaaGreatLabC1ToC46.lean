/- Part of the proof of FnExactMakeCertificate: that for every input the law answers true and leaves what it reads as it was. Conditions: none beyond the given statement. -/
import Derived.Test.YtabkpkhjpfjpeaaGreatLabAevToCtr
import Derived.Test.YtabkpkhjpfjpeaaGreatLabEq
set_option linter.all false
/- Contracts: words, and small functions. -/
namespace Go.Abs
set_option linter.unusedVariables false
set_option linter.unusedSimpArgs false

noncomputable abbrev R : Oracle := run P T
theorem R_eq (p : Proc) (xs : List PV) (H : AH) : R p xs H = (procM P T R p xs H).run := run_eq T p xs H

@[reducible] def isc (x : Int) : PV := .sc (.int .i64 x)
@[reducible] def bsc (b : Bool) : PV := .sc (.bool b)
@[reducible] def ssc (s : Sl) : PV := .sc (.sl s)
theorem one_int (x : Int) {α : Type} (k : Int → Option α) : ((oneP [.sc (.int .i64 x)]).bind fun p => p.sc?.bind fun c => (intAt .i64 [c] 0).bind k) = k x := rfl
theorem one_bool (x : Bool) {α : Type} (k : Bool → Option α) : ((oneP [.sc (.bool x)]).bind fun p => p.sc?.bind fun c => (boolAt [c] 0).bind k) = k x := rfl
theorem one_sl (x : Sl) {α : Type} (k : Sl → Option α) : ((oneP [.sc (.sl x)]).bind fun p => p.sc?.bind fun c => (slAt [c] 0).bind k) = k x := rfl
theorem nth_bool (x : Bool) {α : Type} (k : Bool → Option α) : ((nthP [.sc (.bool x)] 0).bind fun p => p.sc?.bind fun c => (boolAt [c] 0).bind k) = k x := rfl
theorem nth_sl (x : Sl) {α : Type} (k : Sl → Option α) : ((nthP [.sc (.sl x)] 0).bind fun p => p.sc?.bind fun c => (slAt [c] 0).bind k) = k x := rfl

/-- A walk over a row. -/
theorem loopG {α β : Type} {F : Nat → β} {l : List α} (g : List α → Nat → β) (hend : F l.length = g [] l.length) (hstep : ∀ i (h : i < l.length) r, F (i + 1) = g r (i + 1) → F i = g (l[i] :: r) i) : F 0 = g l 0 := by
  have key : ∀ k i, i + k = l.length → F i = g (l.drop i) i := by
    intro k
    induction k with
    | zero =>
      intro i hi
      obtain rfl : i = l.length := by omega
      rw [List.drop_eq_nil_of_le (Nat.le_refl _)]; exact hend
    | succ k ih =>
      intro i hi
      have hlt : i < l.length := by omega
      rw [List.drop_eq_getElem_cons hlt]
      exact hstep i hlt _ (ih (i + 1) (by omega))
  have := key l.length 0 (by omega)
  rwa [List.drop_zero] at this
/-- A walk over a row with a state, of which something holds at each place. -/
theorem loopS {σ α β : Type} {F : σ → Nat → β} {l : List α} (Inv : σ → Nat → Prop) (g : σ → List α → Nat → β) (hend : ∀ s, Inv s l.length → F s l.length = g s [] l.length)
    (hstep : ∀ s i (h : i < l.length) r, Inv s i → (∀ s', Inv s' (i + 1) → F s' (i + 1) = g s' r (i + 1)) → F s i = g s (l[i] :: r) i) : ∀ s, Inv s 0 → F s 0 = g s l 0 := by
  have key : ∀ k i, i + k = l.length → ∀ s, Inv s i → F s i = g s (l.drop i) i := by
    intro k
    induction k with
    | zero =>
      intro i hi s hs
      obtain rfl : i = l.length := by omega
      rw [List.drop_eq_nil_of_le (Nat.le_refl _)]; exact hend s hs
    | succ k ih =>
      intro i hi s hs
      have hlt : i < l.length := by omega
      rw [List.drop_eq_getElem_cons hlt]
      exact hstep s i hlt _ hs fun s' h' => ih (i + 1) (by omega) s' h'
  intro s hs
  have := key l.length 0 (by omega) s hs
  rwa [List.drop_zero] at this
/-- The common walk: over a row, out at the first that is of a kind. -/
theorem loop_any {α β : Type} {F : Nat → β} {l : List α} (p : α → Bool) (b fin : β) (hend : F l.length = fin) (hstep : ∀ i (h : i < l.length), F i = if p l[i] then b else F (i + 1)) : F 0 = if l.any p then b else fin :=
  loopG (F := F) (l := l) (fun l _ => if l.any p then b else fin) hend fun i h r hr => by
    rw [hstep i h, hr]
    simp only [List.any_cons]
    rcases Bool.eq_false_or_eq_true (p l[i]) with h | h <;> simp [h]

theorem bf {a b : Int} (h : ¬ a = b) : (a == b) = false := by simp [h]
theorem w1 {i n : Nat} (h : i < n) (hn : n ≤ 4194304) : IntKind.wrap .i64 ((i : Int) + 1) = ((i + 1 : Nat) : Int) := by rw [wrap_id] <;> omega
theorem lt_true {i n : Nat} (h : i < n) : decide ((i : Int) < (n : Int)) = true := by simp; omega
theorem lt_self (n : Nat) : decide ((n : Int) < (n : Int)) = false := by simp

def inB (n lo hi : Int) : Bool := decide (n ≥ lo) && decide (n ≤ hi)
/-- spec.l01In -/
theorem c_sl01In (a b c : Int) (H : AH) : R (.fn F.sl01In) [isc a, isc b, isc c] H = some ⟨1, [bsc (inB a b c)], H⟩ := by
  rw [R_eq, e_sl01In]
  unfold inB
  cases decide (a ≥ b) <;> rfl

/-- spec.l05Find: the place of a number, from a place on. -/
def findF : List Int → Int → Nat → Int
  | [], _, _ => -1
  | x :: l, n, i => if x == n then (i : Int) else findF l n (i + 1)
theorem findF_lo : ∀ (l : List Int) (n : Int) (i : Nat), findF l n i = -1 ∨ (i : Int) ≤ findF l n i
  | [], n, i => .inl rfl
  | x :: l, n, i => by
    unfold findF
    split
    · exact .inr (Int.le_refl _)
    · rcases findF_lo l n (i + 1) with h | h
      · exact .inl h
      · exact .inr (by omega)
theorem findF_mem : ∀ (l : List Int) (n : Int) (i : Nat), (0 ≤ findF l n i) ↔ n ∈ l
  | [], n, i => by simp [findF]
  | x :: l, n, i => by
    unfold findF
    split
    · rename_i h; simp at h; subst h; simp
    · rename_i h; simp at h; rw [findF_mem l n (i + 1)]; simp [Ne.symm h]
theorem c_sl05Find {H : AH} {s : Sl} {l : List Int} (h : IS H s l) (hm : l.length ≤ 1048576) (n : Int) : R (.fn F.sl05Find) [ssc s, isc n] H = some ⟨1, [isc (findF l n 0)], H⟩ := by
  rw [R_eq, e_sl05Find, h.1]
  have := loopG (F := fun i : Nat => R (.loop F.sl05Find 0) [isc n, ssc s, isc (l.length : Int), isc (i : Int)] H) (l := l) (fun l i => if findF l n i = -1 then some ⟨2, [], H⟩ else some ⟨1, [isc (findF l n i)], H⟩)
    (by rw [R_eq, e_sl05Find_0, lt_self]; rfl) (fun i hi r hr => by
      rw [R_eq, e_sl05Find_0, h.ldk hi, lt_true hi, w1 hi (by omega)]
      unfold findF
      rcases Bool.eq_false_or_eq_true (l[i] == n) with hb | hb
      · simp only [hb, cond_true, if_true]
        rw [if_neg (by omega)]
      · simp only [hb, cond_true, cond_false, Bool.false_eq_true, if_false]
        exact hr)
  rw [show ((0 : Int)) = ((0 : Nat) : Int) from rfl, this]
  split
  · rename_i e; rw [e]; rfl
  · rfl

/-- impl.hasInt -/
theorem c_ihasInt {H : AH} {s : Sl} {l : List Int} (h : IS H s l) (hm : l.length ≤ 1048576) (n : Int) : R (.fn F.ihasInt) [ssc s, isc n] H = some ⟨1, [bsc (l.any fun x => n == x)], H⟩ := by
  rw [R_eq, e_ihasInt, h.1]
  have := loop_any (F := fun i : Nat => R (.loop F.ihasInt 0) [isc n, ssc s, isc (l.length : Int), isc (i : Int)] H) (l := l) (fun x => n == x) (some ⟨1, [bsc true], H⟩) (some ⟨2, [], H⟩)
    (by rw [R_eq, e_ihasInt_0, lt_self]; rfl) (fun i hi => by
      rw [R_eq, e_ihasInt_0, h.ldk hi, lt_true hi, w1 hi (by omega)]
      cases hb : n == l[i] <;> rfl)
  rw [show ((0 : Int)) = ((0 : Nat) : Int) from rfl, this]
  cases l.any fun x => n == x <;> rfl

/- Rings. -/
structure Rg where
  k : Int
  p : Int
  n : Int
@[reducible] def Rg.pv (r : Rg) : PV := .agg [.int .i64 r.k, .int .i64 r.p, .int .i64 r.n]

def widthR (r : Rg) : Int := if r.k = 7 then r.n else if r.k = 8 then 4 else 1
theorem c_sl02Width (r : Rg) (H : AH) : R (.fn F.sl02Width) [r.pv] H = some ⟨1, [isc (widthR r)], H⟩ := by
  rw [R_eq, e_sl02Width]
  unfold widthR
  by_cases h : r.k = 7
  · simp [h]
  by_cases h' : r.k = 8
  · simp [h']
  · simp [h, h', bf h, bf h']
theorem c_irawWidth (r : Rg) (H : AH) : R (.fn F.irawWidth) [r.pv] H = some ⟨1, [isc (widthR r)], H⟩ := by
  rw [R_eq, e_irawWidth]
  unfold widthR
  by_cases h : r.k = 7
  · simp [h]
  by_cases h' : r.k = 8
  · simp [h']
  · simp [h, h', bf h, bf h']

/-- The top number of a ring's coefficients. -/
def topR (r : Rg) : Int := if r.k = 1 then 1 else if r.k = 3 ∨ r.k = 4 ∨ r.k = 5 then r.p else if r.k = 6 then IntKind.wrap .i64 (shlL .i64 1 r.n - 1) else IntKind.wrap .i64 (r.p - 1)
theorem c_sl02Top (r : Rg) (hr : r.k = 6 → 0 ≤ r.n) (H : AH) : R (.fn F.sl02Top) [r.pv] H = some ⟨1, [isc (topR r)], H⟩ := by
  rw [R_eq, e_sl02Top]
  unfold topR
  by_cases h1 : r.k = 1
  · simp [h1]
  by_cases h3 : r.k = 3
  · simp [h3, nthP, PV.sc?, boolAt]
  by_cases h4 : r.k = 4
  · simp [h4, nthP, PV.sc?, boolAt]
  by_cases h5 : r.k = 5
  · simp [h5, nthP, PV.sc?, boolAt]
  by_cases h6 : r.k = 6
  · have : ¬ r.n < 0 := by have := hr h6; omega
    simp [h6, nthP, PV.sc?, boolAt, this]
  · simp [h1, h3, h4, h5, h6, bf h1, bf h3, bf h4, bf h5, bf h6, nthP, PV.sc?, boolAt]
theorem c_irawTop (r : Rg) (hr : r.k = 6 → 0 ≤ r.n) (H : AH) : R (.fn F.irawTop) [r.pv] H = some ⟨1, [isc (topR r)], H⟩ := by
  rw [R_eq, e_irawTop]
  unfold topR
  by_cases h1 : r.k = 1
  · simp [h1]
  by_cases h3 : r.k = 3
  · simp [h3, nthP, PV.sc?, boolAt]
  by_cases h4 : r.k = 4
  · simp [h4, nthP, PV.sc?, boolAt]
  by_cases h5 : r.k = 5
  · simp [h5, nthP, PV.sc?, boolAt]
  by_cases h6 : r.k = 6
  · have : ¬ r.n < 0 := by have := hr h6; omega
    simp [h6, nthP, PV.sc?, boolAt, this]
  · simp [h1, h3, h4, h5, h6, bf h1, bf h3, bf h4, bf h5, bf h6, nthP, PV.sc?, boolAt]

/-- Has a number a divisor from here on? -/
def hasDiv : Nat → Int → Int → Bool
  | 0, _, _ => false
  | k + 1, n, d => if d * d ≤ n then (n.tmod d == 0) || hasDiv k n (d + 1) else false
def primeB (n : Int) : Bool := decide (2 ≤ n) && decide (n ≤ 1000003) && !hasDiv 999 n 2

theorem div_step {n d : Int} {k : Nat} (hn : n ≤ 1000003) (hd : 2 ≤ d) (hk : d + (k : Int) = 1001) : d * d ≤ n → k ≠ 0 := fun h hk0 => by
  subst hk0
  have : d = 1001 := by omega
  subst this
  omega
theorem sq_wrap {d : Int} (h0 : 2 ≤ d) (h : d ≤ 1001) : IntKind.wrap .i64 (d * d) = d * d := by
  have h1 : d * d ≤ 1001 * 1001 := Int.mul_le_mul h h (by omega) (by omega)
  have h2 : 0 ≤ d * d := Int.mul_nonneg (by omega) (by omega)
  rw [wrap_id] <;> omega
theorem c_iIsPrime_0 {n : Int} (hn : n ≤ 1000003) (H : AH) : ∀ (k : Nat) (d : Int), 2 ≤ d → d + (k : Int) = 1001 → R (.loop F.iIsPrime 0) [isc n, isc d] H = if hasDiv k n d then some ⟨1, [bsc false], H⟩ else some ⟨2, [], H⟩ := by
  intro k
  induction k with
  | zero =>
    intro d hd hk
    have hs := sq_wrap hd (by omega)
    rw [R_eq, e_iIsPrime_0, hs]
    have : ¬ d * d ≤ n := fun h => div_step hn hd hk h rfl
    simp [this, hasDiv]
  | succ k ih =>
    intro d hd hk
    have hs := sq_wrap hd (by omega)
    rw [R_eq, e_iIsPrime_0, hs]
    unfold hasDiv
    by_cases h : d * d ≤ n
    · have h0 : (d == 0) = false := by simp; omega
      have hw : IntKind.wrap .i64 (d + 1) = d + 1 := by rw [wrap_id] <;> omega
      simp only [h, decide_true, cond_true, if_true, h0, cond_false, hw]
      cases hm : n.tmod d == 0 with
      | true => simp
      | false => simp only [cond_false, Bool.false_or]; exact ih (d + 1) (by omega) (by omega)
    · simp [h]
theorem c_iIsPrime (n : Int) (H : AH) : R (.fn F.iIsPrime) [isc n] H = some ⟨1, [bsc (primeB n)], H⟩ := by
  rw [R_eq, e_iIsPrime]
  unfold primeB
  by_cases h2 : n < 2
  · have : ¬ 2 ≤ n := by omega
    simp [h2, this]
  by_cases hm : n > 1000003
  · have : ¬ n ≤ 1000003 := by omega
    simp [h2, hm, this]
  have h2' : 2 ≤ n := by omega
  have hm' : n ≤ 1000003 := by omega
  have := c_iIsPrime_0 hm' H 999 2 (by omega) (by omega)
  simp only [h2, decide_false, cond_false, hm, this, h2', hm', decide_true, Bool.true_and]
  cases hasDiv 999 n 2 <;> rfl
theorem c_sIsPrime_0 {n : Int} (hn : n ≤ 1000003) (H : AH) : ∀ (k : Nat) (d : Int), 2 ≤ d → d + (k : Int) = 1001 → R (.loop F.sIsPrime 0) [isc n, isc d] H = if hasDiv k n d then some ⟨1, [bsc false], H⟩ else some ⟨2, [], H⟩ := by
  intro k
  induction k with
  | zero =>
    intro d hd hk
    have hs := sq_wrap hd (by omega)
    rw [R_eq, e_sIsPrime_0, hs]
    have : ¬ d * d ≤ n := fun h => div_step hn hd hk h rfl
    simp [this, hasDiv]
  | succ k ih =>
    intro d hd hk
    have hs := sq_wrap hd (by omega)
    rw [R_eq, e_sIsPrime_0, hs]
    unfold hasDiv
    by_cases h : d * d ≤ n
    · have h0 : (d == 0) = false := by simp; omega
      have hw : IntKind.wrap .i64 (d + 1) = d + 1 := by rw [wrap_id] <;> omega
      simp only [h, hn, decide_true, cond_true, if_true, h0, cond_false, hw]
      cases hm : n.tmod d == 0 with
      | true => simp
      | false => simp only [cond_false, Bool.false_or]; exact ih (d + 1) (by omega) (by omega)
    · simp [h]
theorem c_sIsPrime (n : Int) (H : AH) : R (.fn F.sIsPrime) [isc n] H = some ⟨1, [bsc (primeB n)], H⟩ := by
  rw [R_eq, e_sIsPrime]
  unfold primeB
  by_cases hm : n ≤ 1000003
  · have := c_sIsPrime_0 hm H 999 2 (by omega) (by omega)
    rw [this]
    by_cases h2 : 2 ≤ n
    · cases hasDiv 999 n 2 with
      | true => simp [nthP, PV.sc?, boolAt]
      | false =>
        simp only [Bool.false_eq_true, if_false, Option.bind_some, Nat.beq]
        rw [show R (.fn F.sl01In) [.sc (.int .i64 n), .sc (.int .i64 2), .sc (.int .i64 1000003)] H = _ from c_sl01In n 2 1000003 H]
        simp [oneP, PV.sc?, boolAt, inB, h2, hm]
    · have : hasDiv 999 n 2 = false := by
        unfold hasDiv; rw [if_neg (by omega)]
      rw [this]
      simp only [Bool.false_eq_true, if_false, Option.bind_some, Nat.beq]
      rw [show R (.fn F.sl01In) [.sc (.int .i64 n), .sc (.int .i64 2), .sc (.int .i64 1000003)] H = _ from c_sl01In n 2 1000003 H]
      simp [oneP, PV.sc?, boolAt, inB, h2, hm]
  · have e0 : R (.loop F.sIsPrime 0) [.sc (.int .i64 n), .sc (.int .i64 2)] H = some ⟨2, [], H⟩ := by
      rw [R_eq, e_sIsPrime_0]
      simp only [hm, decide_false, cond_false]
      cases decide (IntKind.wrap .i64 (2 * 2) ≤ n) <;> rfl
    rw [e0]
    simp only [Option.bind_some, Nat.beq]
    rw [show R (.fn F.sl01In) [.sc (.int .i64 n), .sc (.int .i64 2), .sc (.int .i64 1000003)] H = _ from c_sl01In n 2 1000003 H]
    simp [oneP, PV.sc?, boolAt, inB, hm]
end Go.Abs
/- Contracts: rings, sizes, tensors. -/
namespace Go.Abs
set_option linter.unusedVariables false
set_option linter.unusedSimpArgs false

def ringB (r : Rg) : Bool :=
  if r.k = 1 then r.p == 0 && r.n == 0
  else if r.k = 2 then primeB r.p && r.n == 0
  else if r.k = 3 ∨ r.k = 4 ∨ r.k = 5 then inB r.p 1 1000000 && r.n == 0
  else if r.k = 6 then r.p == 0 && inB r.n 1 20
  else if r.k = 7 then primeB r.p && inB r.n 1 6
  else if r.k = 8 then primeB r.p && decide (r.p > 2) && r.n == 0
  else false
theorem cond_and (a b : Bool) (H : AH) : (cond a (some (⟨1, [.sc (.bool b)], H⟩ : Out)) (some ⟨1, [.sc (.bool false)], H⟩)) = some ⟨1, [bsc (a && b)], H⟩ := by cases a <;> rfl
theorem c_sRingOk (r : Rg) (H : AH) : R (.fn F.sRingOk) [r.pv] H = some ⟨1, [bsc (ringB r)], H⟩ := by
  rw [R_eq, e_sRingOk]
  unfold ringB
  by_cases h1 : r.k = 1
  · simp only [h1, beq_self_eq_true, cond_true, if_true]
    exact cond_and _ _ _
  by_cases h2 : r.k = 2
  · simp only [h2, bf (show ¬ (2 : Int) = 1 by omega), beq_self_eq_true, cond_true, cond_false, if_true, show ¬ (2 : Int) = 1 by omega, if_false, c_sIsPrime, Option.bind_some, one_bool]
    exact cond_and _ _ _
  by_cases h3 : r.k = 3 ∨ r.k = 4 ∨ r.k = 5
  · have e : (((cond (r.k == 3) (some (⟨0, [.sc (.bool (r.k == 3))], H⟩ : Out)) (cond (r.k == 4) (some ⟨0, [.sc (.bool (r.k == 4))], H⟩) (some ⟨0, [.sc (.bool (r.k == 5))], H⟩))) : Option Out)) = some ⟨0, [.sc (.bool true)], H⟩ := by
      rcases h3 with h | h | h <;> simp [h]
    simp only [bf h1, bf h2, cond_false, e, Option.bind_some, Nat.beq, cond_true, nth_bool, c_sl01In, one_bool, if_neg h1, if_neg h2, if_pos h3]
    exact cond_and _ _ _
  have e : (((cond (r.k == 3) (some (⟨0, [.sc (.bool (r.k == 3))], H⟩ : Out)) (cond (r.k == 4) (some ⟨0, [.sc (.bool (r.k == 4))], H⟩) (some ⟨0, [.sc (.bool (r.k == 5))], H⟩))) : Option Out)) = some ⟨0, [.sc (.bool false)], H⟩ := by
    have h3' : ¬ r.k = 3 := fun h => h3 (.inl h)
    have h4' : ¬ r.k = 4 := fun h => h3 (.inr (.inl h))
    have h5' : ¬ r.k = 5 := fun h => h3 (.inr (.inr h))
    simp [bf h3', bf h4', bf h5']
  simp only [bf h1, bf h2, cond_false, e, Option.bind_some, Nat.beq, cond_true, nth_bool, if_neg h1, if_neg h2, if_neg h3]
  by_cases h6 : r.k = 6
  · simp only [h6, beq_self_eq_true, cond_true, if_true, c_sl01In, Option.bind_some, one_bool]
    exact cond_and _ _ _
  by_cases h7 : r.k = 7
  · simp only [h7, bf (show ¬ (7 : Int) = 6 by omega), beq_self_eq_true, cond_true, cond_false, if_true, show ¬ (7 : Int) = 6 by omega, if_false, c_sIsPrime, c_sl01In, Option.bind_some, one_bool]
    exact cond_and _ _ _
  by_cases h8 : r.k = 8
  · simp only [h8, bf (show ¬ (8 : Int) = 6 by omega), bf (show ¬ (8 : Int) = 7 by omega), beq_self_eq_true, cond_true, cond_false, if_true, show ¬ (8 : Int) = 6 by omega, show ¬ (8 : Int) = 7 by omega, if_false, c_sIsPrime, Option.bind_some, one_bool]
    cases primeB r.p <;> cases decide (r.p > 2) <;> rfl
  · simp only [bf h6, bf h7, bf h8, cond_false, if_neg h6, if_neg h7, if_neg h8]
theorem prime_two {p : Int} (h : primeB p = true) : 2 ≤ p ∧ p ≤ 1000003 := by
  unfold primeB at h
  simp only [Bool.and_eq_true, decide_eq_true_eq] at h
  exact ⟨h.1.1, h.1.2⟩
theorem c_iRingOk (r : Rg) (H : AH) : R (.fn F.iRingOk) [r.pv] H = some ⟨1, [bsc (ringB r)], H⟩ := by
  rw [R_eq, e_iRingOk]
  unfold ringB
  by_cases h1 : r.k = 1
  · simp only [h1, beq_self_eq_true, cond_true, if_true]
    exact cond_and _ _ _
  by_cases h2 : r.k = 2
  · simp only [h2, bf (show ¬ (2 : Int) = 1 by omega), beq_self_eq_true, cond_true, cond_false, if_true, show ¬ (2 : Int) = 1 by omega, if_false, c_iIsPrime, Option.bind_some, one_bool]
    exact cond_and _ _ _
  by_cases h3 : r.k = 3 ∨ r.k = 4 ∨ r.k = 5
  · have e : (((cond (r.k == 3) (some (⟨0, [.sc (.bool (r.k == 3))], H⟩ : Out)) (cond (r.k == 4) (some ⟨0, [.sc (.bool (r.k == 4))], H⟩) (some ⟨0, [.sc (.bool (r.k == 5))], H⟩))) : Option Out)) = some ⟨0, [.sc (.bool true)], H⟩ := by
      rcases h3 with h | h | h <;> simp [h]
    simp only [bf h1, bf h2, cond_false, e, Option.bind_some, Nat.beq, cond_true, nth_bool, if_neg h1, if_neg h2, if_pos h3, inB]
    cases decide (r.p ≥ 1) <;> cases decide (r.p ≤ 1000000) <;> rfl
  have e : (((cond (r.k == 3) (some (⟨0, [.sc (.bool (r.k == 3))], H⟩ : Out)) (cond (r.k == 4) (some ⟨0, [.sc (.bool (r.k == 4))], H⟩) (some ⟨0, [.sc (.bool (r.k == 5))], H⟩))) : Option Out)) = some ⟨0, [.sc (.bool false)], H⟩ := by
    have h3' : ¬ r.k = 3 := fun h => h3 (.inl h)
    have h4' : ¬ r.k = 4 := fun h => h3 (.inr (.inl h))
    have h5' : ¬ r.k = 5 := fun h => h3 (.inr (.inr h))
    simp [bf h3', bf h4', bf h5']
  simp only [bf h1, bf h2, cond_false, e, Option.bind_some, Nat.beq, cond_true, nth_bool, if_neg h1, if_neg h2, if_neg h3]
  by_cases h6 : r.k = 6
  · simp only [h6, beq_self_eq_true, cond_true, if_true, inB]
    cases r.p == 0 <;> cases decide (r.n ≥ 1) <;> rfl
  by_cases h7 : r.k = 7
  · simp only [h7, bf (show ¬ (7 : Int) = 6 by omega), beq_self_eq_true, cond_true, cond_false, if_true, show ¬ (7 : Int) = 6 by omega, if_false, c_iIsPrime, Option.bind_some, one_bool, inB]
    cases primeB r.p <;> cases decide (r.n ≥ 1) <;> rfl
  by_cases h8 : r.k = 8
  · simp only [h8, bf (show ¬ (8 : Int) = 6 by omega), bf (show ¬ (8 : Int) = 7 by omega), beq_self_eq_true, cond_true, cond_false, if_true, show ¬ (8 : Int) = 6 by omega, show ¬ (8 : Int) = 7 by omega, if_false, c_iIsPrime, Option.bind_some, one_bool]
    cases hp : primeB r.p with
    | false => rfl
    | true =>
      have := prime_two hp
      have e2 : (r.p != 2) = decide (r.p > 2) := by
        by_cases h : r.p = 2
        · simp [h]
        · have : r.p > 2 := by omega
          simp [h, this]
      rw [e2]
      cases decide (r.p > 2) <;> rfl
  · simp only [bf h6, bf h7, bf h8, cond_false, if_neg h6, if_neg h7, if_neg h8]
theorem ring6 {r : Rg} (h : ringB r = true) : r.k = 6 → 1 ≤ r.n ∧ r.n ≤ 20 := fun e => by
  unfold ringB at h
  simp [e, inB] at h
  omega

/-- spec.l05Product: a product, cut above a limit. -/
def prodC (lim : Int) : Int → List Int → Int
  | a, [] => a
  | a, d :: l => prodC lim (if lim + 1 < a * d then lim + 1 else a * d) l
theorem c_sl05Product {H : AH} {s : Sl} {l : List Int} (h : IS H s l) (hm : l.length ≤ 1048576) (hd : ∀ d ∈ l, 0 ≤ d ∧ d ≤ 1048576) : R (.fn F.sl05Product) [ssc s, isc 4096] H = some ⟨1, [isc (prodC 4096 1 l)], H⟩ := by
  rw [R_eq, e_sl05Product, h.1]
  have := loopS (F := fun (a : Int) (i : Nat) => R (.loop F.sl05Product 0) [isc 4096, isc a, ssc s, isc (l.length : Int), isc (i : Int)] H) (l := l) (fun a _ => 0 ≤ a ∧ a ≤ 4097) (fun a l _ => some ⟨2, [isc (prodC 4096 a l)], H⟩)
    (fun a _ => by rw [R_eq, e_sl05Product_0, lt_self]; rfl) (fun a i hi r ha ih => by
      rw [R_eq, e_sl05Product_0, h.ldk hi, lt_true hi, w1 hi (by omega)]
      have hdi := hd l[i] (List.getElem_mem hi)
      have h1 : 0 ≤ a * l[i] := Int.mul_nonneg ha.1 hdi.1
      have h2 : a * l[i] ≤ 4097 * 1048576 := Int.mul_le_mul ha.2 hdi.2 hdi.1 (by omega)
      have e1 : IntKind.wrap .i64 (a * l[i]) = a * l[i] := by rw [wrap_id] <;> omega
      have e2 : IntKind.wrap .i64 ((4096 : Int) + 1) = 4097 := by rw [wrap_id] <;> omega
      simp only [cond_true, e1, e2, prodC]
      exact ih _ (by split <;> omega)) 1 (by omega)
  rw [show ((0 : Int)) = ((0 : Nat) : Int) from rfl, this]
  rfl
end Go.Abs
/- Contracts: the size of a tensor, and whether it is one. -/
namespace Go.Abs
set_option linter.unusedVariables false
set_option linter.unusedSimpArgs false

def axesG : List Int → List Int → List Int → Bool
  | pre, n :: ls, d :: ds => inB n 0 99 && inB d 1 8 && !(pre.any fun x => n == x) && axesG (pre ++ [n]) ls ds
  | _, [], _ => true
  | _, _, _ => false
def axesB (ls ds : List Int) : Bool := decide (ls.length ≤ 12) && decide (ls.length = ds.length) && axesG [] ls ds

theorem find_any (l : List Int) (n : Int) : decide (findF l n 0 ≥ 0) = l.any fun x => n == x := by
  have := findF_mem l n 0
  by_cases h : n ∈ l
  · have h1 : findF l n 0 ≥ 0 := this.2 h
    simp only [h1, decide_true]
    exact (List.any_eq_true.2 ⟨n, h, by simp⟩).symm
  · have h1 : ¬ findF l n 0 ≥ 0 := fun e => h (this.1 e)
    simp only [h1, decide_false]
    symm
    rw [Bool.eq_false_iff]
    intro e
    obtain ⟨x, h2, h3⟩ := List.any_eq_true.1 e
    simp at h3; subst h3
    exact h h2

theorem take_snoc {l : List Int} {i : Nat} (h : i < l.length) : l.take (i + 1) = l.take i ++ [l[i]] := by
  rw [List.take_succ, List.getElem?_eq_getElem h]; rfl

/-- spec.l05Axes -/
theorem c_sl05Axes {H : AH} {a b : Sl} {ls ds : List Int} (ha : IS H a ls) (hb : IS H b ds) : R (.fn F.sl05Axes) [ssc a, ssc b] H = some ⟨1, [bsc (axesB ls ds)], H⟩ := by
  rw [R_eq, e_sl05Axes, ha.n, hb.n]
  unfold axesB
  by_cases h1 : (ls.length : Int) > 12
  · have : ¬ ls.length ≤ 12 := by omega
    simp [h1, this]
  by_cases h2 : ls.length = ds.length
  · have h1' : ls.length ≤ 12 := by omega
    have := loopG (F := fun i : Nat => R (.loop F.sl05Axes 0) [ssc a, ssc b, ssc a, isc (ls.length : Int), isc (i : Int)] H) (l := ls) (fun r i => if axesG (ls.take i) r (ds.drop i) then some ⟨2, [], H⟩ else some ⟨1, [bsc false], H⟩)
      (by rw [R_eq, e_sl05Axes_0, lt_self]; rw [List.drop_eq_nil_of_le (by omega)]; rfl) (fun i hi r hr => by
        rw [R_eq, e_sl05Axes_0, ha.ldk hi, lt_true hi, w1 hi (by omega)]
        have hi2 : i < ds.length := by omega
        rw [List.drop_eq_getElem_cons hi2]
        unfold axesG
        simp only [cond_true, c_sl01In, Option.bind_some, one_bool]
        cases hA : inB ls[i] 0 99 with
        | false => simp
        | true =>
          simp only [Bool.not_true, cond_false, Bool.true_and]
          rw [hb.ldk hi2]
          cases hB : inB ds[i] 1 8 with
          | false => simp
          | true =>
            simp only [Bool.not_true, cond_false, Bool.true_and]
            rw [slB_take (by have := ha.c; rw [ha.n] at this; omega)]
            simp only [Option.bind_some]
            rw [c_sl05Find (ha.take (Nat.le_of_lt hi)) (by simp; omega)]
            simp only [Option.bind_some, one_int, find_any]
            cases hC : (List.take i ls).any fun x => ls[i] == x with
            | true => simp
            | false =>
              simp only [cond_false, Bool.not_false, Bool.true_and]
              rw [← take_snoc hi]
              exact hr)
    simp only [List.take_zero, List.drop_zero] at this
    have h3 : ((ls.length : Int) != (ds.length : Int)) = false := by rw [h2]; simp
    simp only [h1, decide_false, cond_false, h3]
    rw [show ((0 : Int)) = ((0 : Nat) : Int) from rfl, this]
    have h4 : decide (ls.length ≤ 12) = true := by simpa using h1'
    have h5 : decide (ls.length = ds.length) = true := by simpa using h2
    rw [h4, h5]
    cases axesG [] ls ds <;> rfl
  · have h3 : ((ls.length : Int) != (ds.length : Int)) = true := by simp; omega
    simp [h1, h2, h3]

def sizeB (ls ds : List Int) : Int := if axesB ls ds then (if prodC 4096 1 ds > 4096 then -1 else prodC 4096 1 ds) else -1

theorem axesG_dims : ∀ {pre ls ds : List Int}, axesG pre ls ds = true → ls.length = ds.length → ∀ d ∈ ds, 1 ≤ d ∧ d ≤ 8
  | pre, n :: ls, d :: ds, h, hl, x, hx => by
    simp only [axesG, Bool.and_eq_true] at h
    rcases List.mem_cons.1 hx with rfl | hx
    · have := h.1.1.2
      simp only [inB, Bool.and_eq_true, decide_eq_true_eq] at this
      omega
    · exact axesG_dims h.2 (by simpa using hl) x hx
  | pre, [], [], _, _, x, hx => by simp at hx
  | pre, [], d :: ds, _, hl, _, _ => by simp at hl
  | pre, n :: ls, [], _, hl, _, _ => by simp at hl
theorem axes_dims {ls ds : List Int} (h : axesB ls ds = true) : ls.length ≤ 12 ∧ ls.length = ds.length ∧ ∀ d ∈ ds, 1 ≤ d ∧ d ≤ 8 := by
  simp only [axesB, Bool.and_eq_true, decide_eq_true_eq] at h
  exact ⟨h.1.1, h.1.2, axesG_dims h.2 h.1.2⟩

theorem c_sTensorSize {H : AH} {a b c : Sl} {ls ds : List Int} (ha : IS H a ls) (hb : IS H b ds) : R (.fn F.sTensorSize) [.agg [.sl a, .sl b, .sl c]] H = some ⟨1, [isc (sizeB ls ds)], H⟩ := by
  rw [R_eq, e_sTensorSize, c_sl05Axes ha hb]
  unfold sizeB
  simp only [Option.bind_some, one_bool]
  cases h : axesB ls ds with
  | false => rfl
  | true =>
    obtain ⟨h1, h2, h3⟩ := axes_dims h
    rw [c_sl05Product hb (by omega) fun d hd => by have := h3 d hd; omega]
    simp only [Option.bind_some, one_int, Bool.not_true, cond_false, if_true]
    by_cases h4 : prodC 4096 1 ds > 4096
    · simp [h4]
    · simp [h4]

def sizeG : Int → List Int → List Int → List Int → Int
  | a, pre, n :: ls, d :: ds => if n < 0 ∨ n > 99 then -1 else if (pre.any fun x => n == x) = true then -1 else if d < 1 ∨ d > 8 then -1 else if a * d > 4096 then -1 else sizeG (a * d) (pre ++ [n]) ls ds
  | a, _, _, _ => a

theorem prodC_top : ∀ {ds : List Int}, (∀ d ∈ ds, 1 ≤ d) → prodC 4096 4097 ds = 4097
  | [], _ => rfl
  | d :: ds, h => by
    have hd := h d List.mem_cons_self
    unfold prodC
    have : (if (4096 : Int) + 1 < 4097 * d then (4096 : Int) + 1 else 4097 * d) = 4097 := by
      split <;> omega
    rw [this]
    exact prodC_top fun x hx => h x (List.mem_cons_of_mem _ hx)

theorem sizeG_eq : ∀ {ls ds pre : List Int} {a : Int}, 1 ≤ a → a ≤ 4096 → ls.length = ds.length → sizeG a pre ls ds = if axesG pre ls ds then (if prodC 4096 a ds > 4096 then -1 else prodC 4096 a ds) else -1
  | [], [], pre, a, h1, h2, _ => by
    have : ¬ a > 4096 := by omega
    simp [sizeG, axesG, prodC, this]
  | [], _ :: _, _, _, _, _, h => by simp at h
  | _ :: _, [], _, _, _, _, h => by simp at h
  | n :: ls, d :: ds, pre, a, h1, h2, h => by
    unfold sizeG axesG
    by_cases hA : n < 0 ∨ n > 99
    · have : inB n 0 99 = false := by simp [inB]; omega
      simp [hA, this]
    have hA' : inB n 0 99 = true := by simp [inB]; omega
    by_cases hB : d < 1 ∨ d > 8
    · have : inB d 1 8 = false := by simp [inB]; omega
      simp [hA, hB, this]
    have hB' : inB d 1 8 = true := by simp [inB]; omega
    rcases Bool.eq_false_or_eq_true (pre.any fun x => n == x) with hC | hC
    · simp [hA, hC]
    simp only [hA, if_false, hC, Bool.false_eq_true, hB, hA', hB', Bool.true_and, Bool.not_false]
    have had : 1 ≤ a * d := by
      have : 1 * 1 ≤ a * d := Int.mul_le_mul h1 (by omega) (by omega) (by omega)
      omega
    unfold prodC
    by_cases hD : a * d > 4096
    · rw [if_pos hD]
      have e : (if (4096 : Int) + 1 < a * d then (4096 : Int) + 1 else a * d) = 4097 := by split <;> omega
      rw [e]
      cases hx : axesG (pre ++ [n]) ls ds with
      | false => rfl
      | true =>
        rw [prodC_top fun x hx' => (axesG_dims hx (by simpa using h) x hx').1]
        rfl
    · rw [if_neg hD, sizeG_eq had (by omega) (by simpa using h)]
      have e : (if (4096 : Int) + 1 < a * d then (4096 : Int) + 1 else a * d) = a * d := by split <;> omega
      rw [e]
/-- impl.TensorSize -/
theorem c_iTensorSize {H : AH} {a b c : Sl} {ls ds : List Int} (ha : IS H a ls) (hb : IS H b ds) : R (.fn F.iTensorSize) [.agg [.sl a, .sl b, .sl c]] H = some ⟨1, [isc (sizeB ls ds)], H⟩ := by
  rw [R_eq, e_iTensorSize, ha.n, hb.n]
  unfold sizeB axesB
  by_cases h1 : (ls.length : Int) > 12
  · have : ¬ ls.length ≤ 12 := by omega
    simp [h1, this]
  by_cases h2 : ls.length = ds.length
  · have h1' : ls.length ≤ 12 := by omega
    have := loopS (F := fun (v : Int) (i : Nat) => R (.loop F.iTensorSize 0) [isc v, ssc a, isc (ls.length : Int), isc (i : Int), .agg [.sl a, .sl b, .sl c]] H) (l := ls) (fun v _ => 1 ≤ v ∧ v ≤ 4096)
      (fun v r i => if sizeG v (ls.take i) r (ds.drop i) = -1 then some ⟨1, [isc (-1)], H⟩ else some ⟨2, [isc (sizeG v (ls.take i) r (ds.drop i))], H⟩)
      (fun v hv => by
        rw [R_eq, e_iTensorSize_0, lt_self, List.drop_eq_nil_of_le (by omega)]
        have e : sizeG v (List.take ls.length ls) [] [] = v := rfl
        rw [if_neg (by rw [e]; omega), e]; rfl) (fun v i hi r hv ih => by
        rw [R_eq, e_iTensorSize_0, ha.ldk hi, lt_true hi, w1 hi (by omega)]
        have hi2 : i < ds.length := by omega
        rw [List.drop_eq_getElem_cons hi2]
        unfold sizeG
        simp only [cond_true]
        by_cases hA : ls[i] < 0
        · simp [hA]
        by_cases hA2 : ls[i] > 99
        · simp [hA, hA2]
        have hA3 : ¬ (ls[i] < 0 ∨ ls[i] > 99) := by omega
        rw [slB_take (by have := ha.c; rw [ha.n] at this; omega)]
        simp only [hA, decide_false, cond_false, hA2, Option.bind_some, hA3, if_false]
        rw [c_ihasInt (ha.take (Nat.le_of_lt hi)) (by simp; omega)]
        simp only [Option.bind_some, one_bool]
        rcases Bool.eq_false_or_eq_true ((List.take i ls).any fun x => ls[i] == x) with hC | hC
        · simp [hC]
        simp only [hC, cond_false, Bool.false_eq_true, if_false]
        rw [hb.ldk hi2]
        by_cases hB : ds[i] < 1
        · simp [hB]
        by_cases hB2 : ds[i] > 8
        · simp [hB, hB2]
        have hB3 : ¬ (ds[i] < 1 ∨ ds[i] > 8) := by omega
        have hm : 1 * 1 ≤ v * ds[i] := Int.mul_le_mul hv.1 (by omega) (by omega) (by omega)
        have hm2 : v * ds[i] ≤ 4096 * 8 := Int.mul_le_mul hv.2 (by omega) (by omega) (by omega)
        have hw : IntKind.wrap .i64 (v * ds[i]) = v * ds[i] := by rw [wrap_id] <;> omega
        simp only [hB, decide_false, cond_false, hB2, hB3, if_false, hw]
        by_cases hD : v * ds[i] > 4096
        · simp [hD]
        simp only [hD, decide_false, cond_false, if_false]
        rw [← take_snoc hi]
        exact ih _ ⟨by omega, by omega⟩) 1 (by omega)
    simp only [List.take_zero, List.drop_zero] at this
    have h3 : ((ls.length : Int) != (ds.length : Int)) = false := by rw [h2]; simp
    simp only [h1, decide_false, cond_false, h3]
    rw [show ((0 : Int)) = ((0 : Nat) : Int) from rfl, this]
    have hg := sizeG_eq (pre := []) (a := 1) (by omega) (by omega) h2
    have h4 : decide (ls.length ≤ 12) = true := by simpa using h1'
    have h5 : decide (ls.length = ds.length) = true := by simpa using h2
    rw [h4, h5, Bool.true_and, Bool.true_and, ← hg]
    split
    · rename_i e; rw [e]; rfl
    · rfl
  · have h3 : ((ls.length : Int) != (ds.length : Int)) = true := by simp; omega
    simp [h1, h2, h3]
theorem prodC_le : ∀ {ds : List Int} {a : Int}, 0 ≤ a → a ≤ 4097 → (∀ d ∈ ds, 0 ≤ d) → 0 ≤ prodC 4096 a ds ∧ prodC 4096 a ds ≤ 4097
  | [], a, h0, h1, _ => by simp [prodC]; omega
  | d :: ds, a, h0, h1, h => by
    unfold prodC
    have := Int.mul_nonneg h0 (h d List.mem_cons_self)
    exact prodC_le (by split <;> omega) (by split <;> omega) fun x hx => h x (List.mem_cons_of_mem _ hx)
theorem sizeB_range (ls ds : List Int) : sizeB ls ds = -1 ∨ (0 ≤ sizeB ls ds ∧ sizeB ls ds ≤ 4096) := by
  unfold sizeB
  split
  · rename_i h
    split
    · exact .inl rfl
    · have := (prodC_le (ds := ds) (a := 1) (by omega) (by omega) fun d hd => by have := (axes_dims h).2.2 d hd; omega)
      exact .inr (by omega)
  · exact .inl rfl
end Go.Abs
/- Contracts: tensors. -/
namespace Go.Abs
set_option linter.unusedVariables false
set_option linter.unusedSimpArgs false

structure Tn where
  L : List Int
  D : List Int
  X : List Int
structure TS (H : AH) (a b c : Sl) (t : Tn) : Prop where
  L : IS H a t.L
  D : IS H b t.D
  X : IS H c t.X
theorem TS.le {H H' : AH} (h : Le H H') {a b c : Sl} {t : Tn} (k : TS H a b c t) : TS H' a b c t := ⟨k.L.le h, k.D.le h, k.X.le h⟩
@[reducible] def tpv (a b c : Sl) : PV := .agg [.sl a, .sl b, .sl c]

def tensorB (r : Rg) (t : Tn) : Bool := ringB r && decide (sizeB t.L t.D ≠ -1) && decide ((t.X.length : Int) = sizeB t.L t.D * widthR r) && t.X.all fun x => inB x 0 (topR r)

theorem width_range {r : Rg} (h : ringB r = true) : 1 ≤ widthR r ∧ widthR r ≤ 6 := by
  unfold ringB at h
  unfold widthR
  by_cases h7 : r.k = 7
  · simp [h7, inB] at h
    rw [if_pos h7]; omega
  · rw [if_neg h7]
    split <;> omega

theorem all_not {l : List Int} {p : Int → Bool} : (l.any fun x => !p x) = !(l.all p) := by
  induction l with
  | nil => rfl
  | cons x l ih => simp only [List.any_cons, List.all_cons, ih, Bool.not_and]

/-- spec.TensorOk -/
theorem c_sTensorOk (r : Rg) {H : AH} {a b c : Sl} {t : Tn} (h : TS H a b c t) : R (.fn F.sTensorOk) [r.pv, tpv a b c] H = some ⟨1, [bsc (tensorB r t)], H⟩ := by
  rw [R_eq, e_sTensorOk, c_sTensorSize h.L h.D]
  unfold tensorB
  simp only [Option.bind_some, one_int, c_sRingOk, one_bool]
  cases hr : ringB r with
  | false => rfl
  | true =>
    have hw := width_range hr
    simp only [Bool.not_true, cond_false, Bool.true_and]
    rcases sizeB_range t.L t.D with hs | hs
    · simp [hs]
    · have h1 : ¬ sizeB t.L t.D < 0 := by omega
      have h2 : sizeB t.L t.D ≠ -1 := by omega
      have hm0 : 0 ≤ sizeB t.L t.D * widthR r := Int.mul_nonneg hs.1 (by omega)
      have hm : sizeB t.L t.D * widthR r ≤ 4096 * 6 := Int.mul_le_mul hs.2 hw.2 (by omega) (by omega)
      have hwr : IntKind.wrap .i64 (sizeB t.L t.D * widthR r) = sizeB t.L t.D * widthR r := by rw [wrap_id] <;> omega
      simp only [h1, decide_false, cond_false, c_sl02Width, Option.bind_some, one_int, hwr, h2, ne_eq, not_false_eq_true, decide_true, Bool.true_and, h.X.n]
      by_cases h3 : (t.X.length : Int) = sizeB t.L t.D * widthR r
      · have e : ((t.X.length : Int) != sizeB t.L t.D * widthR r) = false := by rw [h3]; simp
        have := loop_any (F := fun i : Nat => R (.loop F.sTensorOk 0) [ssc c, isc (t.X.length : Int), isc (i : Int), r.pv] H) (l := t.X) (fun x => !inB x 0 (topR r)) (some ⟨1, [bsc false], H⟩) (some ⟨2, [], H⟩)
          (by rw [R_eq, e_sTensorOk_0, lt_self]; rfl) (fun i hi => by
            rw [R_eq, e_sTensorOk_0, h.X.ldk hi, lt_true hi, w1 hi (by omega)]
            simp only [cond_true, c_sl02Top r (fun e => by have := ring6 hr e; omega), Option.bind_some, one_int, c_sl01In, one_bool]
            cases inB t.X[i] 0 (topR r) <;> rfl)
        rw [show ((0 : Int)) = ((0 : Nat) : Int) from rfl, this, all_not, e]
        simp only [h3, decide_true, Bool.true_and, cond_false]
        cases t.X.all fun x => inB x ((0 : Nat) : Int) (topR r) <;> rfl
      · have e : ((t.X.length : Int) != sizeB t.L t.D * widthR r) = true := by simp [h3]
        simp [e, h3]

/-- impl.inRing -/
theorem c_iinRing (r : Rg) (hr : ringB r = true) {H : AH} {s : Sl} {l : List Int} (h : IS H s l) (hm : l.length ≤ 1048576) : R (.fn F.iinRing) [r.pv, ssc s] H = some ⟨1, [bsc (l.all fun x => inB x 0 (topR r))], H⟩ := by
  rw [R_eq, e_iinRing, c_irawTop r (fun e => by have := ring6 hr e; omega), h.n]
  have := loop_any (F := fun i : Nat => R (.loop F.iinRing 0) [isc (topR r), ssc s, isc (l.length : Int), isc (i : Int)] H) (l := l) (fun x => !inB x 0 (topR r)) (some ⟨1, [bsc false], H⟩) (some ⟨2, [], H⟩)
    (by rw [R_eq, e_iinRing_0, lt_self]; rfl) (fun i hi => by
      rw [R_eq, e_iinRing_0, h.ldk hi, lt_true hi, w1 hi (by omega)]
      simp only [cond_true, inB]
      by_cases h1 : l[i] < 0
      · have : ¬ l[i] ≥ 0 := by omega
        simp [h1, this]
      · have h1' : l[i] ≥ 0 := by omega
        by_cases h2 : l[i] > topR r
        · have : ¬ l[i] ≤ topR r := by omega
          simp [h1, h1', h2, this]
        · have h2' : l[i] ≤ topR r := by omega
          simp [h1, h1', h2, h2'])
  simp only [Option.bind_some, one_int]
  rw [show ((0 : Int)) = ((0 : Nat) : Int) from rfl, this, all_not]
  cases l.all fun x => inB x ((0 : Nat) : Int) (topR r) <;> rfl

/-- impl.TensorOk -/
theorem c_iTensorOk (r : Rg) {H : AH} {a b c : Sl} {t : Tn} (h : TS H a b c t) : R (.fn F.iTensorOk) [r.pv, tpv a b c] H = some ⟨1, [bsc (tensorB r t)], H⟩ := by
  rw [R_eq, e_iTensorOk, c_iRingOk]
  unfold tensorB
  simp only [Option.bind_some, one_bool]
  cases hr : ringB r with
  | false => rfl
  | true =>
    have hw := width_range hr
    simp only [Bool.not_true, cond_false, Bool.true_and]
    rw [c_iTensorSize h.L h.D]
    simp only [Option.bind_some, one_int]
    rcases sizeB_range t.L t.D with hs | hs
    · simp [hs]
    · have h2 : sizeB t.L t.D ≠ -1 := by omega
      have h2' : (sizeB t.L t.D != -1) = true := by simp [h2]
      have hm0 : 0 ≤ sizeB t.L t.D * widthR r := Int.mul_nonneg hs.1 (by omega)
      have hm : sizeB t.L t.D * widthR r ≤ 4096 * 6 := Int.mul_le_mul hs.2 hw.2 (by omega) (by omega)
      have hwr : IntKind.wrap .i64 (sizeB t.L t.D * widthR r) = sizeB t.L t.D * widthR r := by rw [wrap_id] <;> omega
      simp only [h2', cond_true, c_irawWidth, Option.bind_some, one_int, hwr, h2, ne_eq, not_false_eq_true, decide_true, Bool.true_and, h.X.n]
      by_cases h3 : (t.X.length : Int) = sizeB t.L t.D * widthR r
      · rw [c_iinRing r hr h.X (by omega)]
        simp only [h3, beq_self_eq_true, cond_true, Option.bind_some, one_bool, decide_true, Bool.true_and]
      · simp only [bf h3, cond_false, h3, decide_false, Bool.false_and]

/- Rows of tensors. -/
def T3 (H : AH) (s : Sl) (ts : List Tn) : Prop := s.n = ts.length ∧ s.n ≤ s.c ∧ (ts = [] ∨ ∃ cs, rdB H s.b = some cs ∧ ∀ (i : Nat) t, ts[i]? = some t → ∃ a b c, cs[s.o + i * 3]? = some (.sl a) ∧ cs[s.o + i * 3 + 1]? = some (.sl b) ∧ cs[s.o + i * 3 + 1 + 1]? = some (.sl c) ∧ TS H a b c t)
theorem T3.le {H H' : AH} (h : Le H H') {s : Sl} {ts : List Tn} (k : T3 H s ts) : T3 H' s ts :=
  ⟨k.1, k.2.1, k.2.2.imp id fun ⟨cs, h1, h2⟩ => ⟨cs, h.rdB h1, fun i t hi => let ⟨a, b, c, e1, e2, e3, e4⟩ := h2 i t hi; ⟨a, b, c, e1, e2, e3, e4.le h⟩⟩⟩
theorem slAt_get {l : List Sc} {i : Nat} {x : Sl} (h : l[i]? = some (.sl x)) : slAt l i = some x := by
  unfold slAt; rw [h]
theorem T3.ld {H : AH} {s : Sl} {ts : List Tn} (h : T3 H s ts) {i : Nat} (hi : i < ts.length) : ∃ a b c, TS H a b c ts[i] ∧ ∀ {α : Type} (k : Sl → Sl → Sl → Option α),
    ((ixA s (i : Int) 3).bind fun o => (rdB H s.b).bind fun q => (slAt q o).bind fun x => (slAt q (o + 1)).bind fun y => (slAt q (o + 1 + 1)).bind fun z => k x y z) = k a b c := by
  obtain ⟨hn, _, rfl | ⟨cs, h1, h2⟩⟩ := h
  · simp at hi
  · obtain ⟨a, b, c, e1, e2, e3, e4⟩ := h2 i _ (List.getElem?_eq_getElem hi)
    refine ⟨a, b, c, e4, fun k => ?_⟩
    rw [ixA_nat (by omega)]
    simp only [Option.bind_some, h1, slAt_get e1, slAt_get e2, slAt_get e3]
theorem T3.take {H : AH} {s : Sl} {ts : List Tn} (h : T3 H s ts) {i : Nat} (hi : i ≤ ts.length) : T3 H ⟨s.b, s.o, i, s.c, s.x⟩ (ts.take i) := by
  refine ⟨by simp; omega, by have := h.1; have := h.2.1; show i ≤ s.c; omega, ?_⟩
  rcases h.2.2 with rfl | ⟨cs, h1, h2⟩
  · exact .inl (by simp)
  · refine .inr ⟨cs, h1, fun j x hj => h2 j x ?_⟩
    rw [List.getElem?_take] at hj
    split at hj
    · exact hj
    · cases hj

/-- spec.l12Dim: the size of a label's axis. -/
def dimF : List Tn → Int → Int
  | [], _ => 0
  | t :: ts, x => if 0 ≤ findF t.L x 0 then t.D.getD (findF t.L x 0).toNat 0 else dimF ts x
end Go.Abs
/- Contracts: rows that grow. -/
namespace Go.Abs
set_option linter.unusedVariables false
set_option linter.unusedSimpArgs false

/-- Heaps that agree below a place. -/
structure Lo (n0 : Nat) (H H' : AH) : Prop where
  len : H.length ≤ H'.length
  get : ∀ b, b < n0 → H'[b]? = H[b]?
theorem Lo.refl (n0 : Nat) (H : AH) : Lo n0 H H := ⟨Nat.le_refl _, fun _ _ => rfl⟩
theorem Lo.trans {n0 : Nat} {a b c : AH} (h : Lo n0 a b) (k : Lo n0 b c) : Lo n0 a c := ⟨Nat.le_trans h.len k.len, fun i hi => (k.get i hi).trans (h.get i hi)⟩
theorem Le.lo {H H' : AH} (h : Le H H') {n0 : Nat} (hn : n0 ≤ H.length) : Lo n0 H H' := ⟨h.len, fun b hb => h.get b (by omega)⟩
theorem Le.lo_trans {H0 H H' : AH} (h : Le H0 H) (k : Lo H0.length H H') : Le H0 H' := ⟨Nat.le_trans h.len k.len, fun b hb => (k.get b hb).trans (h.get b hb)⟩
theorem Lo.low {n0 n1 : Nat} {H H' : AH} (h : Lo n0 H H') (hn : n1 ≤ n0) : Lo n1 H H' := ⟨h.len, fun b hb => h.get b (by omega)⟩

/-- A row of its own grows. -/
theorem app_own {n0 : Nat} {H : AH} {s : Sl} {l m : List Int} (hn : n0 ≤ H.length) (h : Own n0 H s l) (hl : l.length + m.length ≤ 134217728) :
    ∃ s' H', appB H 1 8 s (ics m) m.length = some (s', H') ∧ Own n0 H' s' (l ++ m) ∧ H.length ≤ H'.length ∧ (∀ b, b < H.length → (b ≠ s.b ∨ l = []) → H'[b]? = H[b]?) ∧ (m = [] → s' = s ∧ H' = H) ∧ (m ≠ [] → H.length ≤ s'.b) := by
  by_cases hm : m = []
  · subst hm
    refine ⟨s, H, ?_, by rw [List.append_nil]; exact h, Nat.le_refl _, fun _ _ _ => rfl, fun _ => ⟨rfl, rfl⟩, fun h => absurd rfl h⟩
    unfold appB
    rw [if_pos (by rw [h.n, h.c]; simp)]
    simp [putR]
  · have hm0 : m.length ≠ 0 := fun e => hm (List.length_eq_zero_iff.1 e)
    have hmost : (s.n + m.length) * 8 ≤ most := by rw [h.n]; exact most_ok hl
    unfold appB
    rw [if_neg (by rw [h.n, h.c]; omega), if_pos ⟨by omega, by omega, hmost⟩, h.is.rng]
    simp only [Option.bind_some]
    have hcells : ics l ++ ics m = ics (l ++ m) := by simp
    by_cases hx : s.x = true
    · simp only [hx, hcells]
      refine ⟨_, _, rfl, ?_, by simp, fun b hb _ => List.getElem?_append_left hb, fun e => absurd e hm, fun _ => Nat.le_refl _⟩
      have := Own.new (n0 := n0) (H := H) (l := l ++ m) (x := false) hn (fun e => by simp at e; exact absurd e.2 hm)
      rw [h.n]; simpa using this
    · have hx' : s.x = false := by cases e : s.x <;> simp_all
      have hlb : l ≠ [] ∧ H[s.b]? = some ⟨ics l, .rw, 1⟩ := by
        rcases h.blk with ⟨_, e⟩ | hb
        · exact absurd e hx
        · exact hb
      have hrw : rwB H s.b 1 = some (ics l) := by unfold rwB; rw [hlb.2]; rfl
      simp only [hx', hrw, Option.bind_some, hcells]
      refine ⟨_, _, rfl, ?_, by simp [killB], fun b hb hne => ?_, fun e => absurd e hm, fun _ => Nat.le_refl _⟩
      · have hk : (killB H s.b).length = H.length := by simp [killB]
        have := Own.new (n0 := n0) (H := killB H s.b) (l := l ++ m) (x := false) (by rw [hk]; exact hn) (fun e => by simp at e; exact absurd e.2 hm)
        rw [h.n]
        rw [hk] at this
        simpa using this
      · rw [List.getElem?_append_left (by simp [killB]; exact hb)]
        rcases hne with hne | hne
        · unfold killB
          rw [List.getElem?_modify]
          have : ¬ s.b = b := fun e => hne e.symm
          simp [this]
        · exact absurd hne hlb.1

/-- One number more. -/
theorem push_own {n0 : Nat} {H : AH} {s : Sl} {l : List Int} (hn : n0 ≤ H.length) (h : Own n0 H s l) (hl : l.length < 134217728) (v : Int) :
    ∃ s' H', (∀ {α : Type} (k : Sl × AH → Option α), ((newB H 1 [.int .i64 v]).bind fun h => (rng h.2 h.1 0 (1 * 1)).bind fun q => (appB h.2 1 8 s q 1).bind k) = k (s', H')) ∧ Own n0 H' s' (l ++ [v]) ∧ H.length ≤ H'.length ∧
      (∀ b, b < H.length → (b ≠ s.b ∨ l = []) → H'[b]? = H[b]?) ∧ H.length ≤ s'.b := by
  have hle := Le.app H [⟨[.int .i64 v], .rw, 1⟩]
  obtain ⟨s', H', e, h1, h2, h3, _, h5⟩ := app_own (m := [v]) (H := H ++ [⟨[.int .i64 v], .rw, 1⟩]) (by simp; omega) (h.le hle) (by simp; omega)
  refine ⟨s', H', fun k => ?_, h1, by simp at h2; omega, fun b hb hne => ?_, by have := h5 (by simp); simp at this; omega⟩
  · have hr : rng (H ++ [⟨[.int .i64 v], .rw, 1⟩]) H.length 0 (1 * 1) = some [.int .i64 v] := by
      unfold rng
      have : rdB (H ++ [⟨[Sc.int .i64 v], BS.rw, 1⟩]) H.length = some [.int .i64 v] := by unfold rdB; simp
      rw [this]; rfl
    have hnb : newB H 1 [.int .i64 v] = some (H.length, H ++ [⟨[.int .i64 v], .rw, 1⟩]) := rfl
    rw [hnb]
    simp only [Option.bind_some, hr]
    have : appB (H ++ [⟨[Sc.int .i64 v], BS.rw, 1⟩]) 1 8 s [.int .i64 v] 1 = some (s', H') := e
    rw [this]; rfl
  · rw [h3 b (by simp; omega) hne]
    exact List.getElem?_append_left hb
theorem Own.keeps {n0 : Nat} {H H' : AH} {s : Sl} {l : List Int} (h : Own n0 H s l) (hf : ∀ b, b < H.length → (b ≠ s.b ∨ l = []) → H'[b]? = H[b]?) (hn : n0 ≤ H.length) (hl : H.length ≤ H'.length) : Lo n0 H H' :=
  ⟨hl, fun b hb => hf b (by omega) (by
    rcases h.lo with h | h
    · exact .inr h
    · exact .inl (by omega))⟩

/-- spec.l12Dim -/
theorem c_sl12Dim {H : AH} {s : Sl} {ts : List Tn} (h : T3 H s ts) (hm : ts.length ≤ 1048576) (ht : ∀ t ∈ ts, t.L.length = t.D.length ∧ t.L.length ≤ 1048576) (x : Int) : R (.fn F.sl12Dim) [ssc s, isc x] H = some ⟨1, [isc (dimF ts x)], H⟩ := by
  rw [R_eq, e_sl12Dim, h.1]
  have := loopG (F := fun i : Nat => R (.loop F.sl12Dim 0) [isc x, ssc s, isc (ts.length : Int), isc (i : Int)] H) (l := ts) (fun r i => if r.any (fun t => decide (0 ≤ findF t.L x 0)) then some ⟨1, [isc (dimF r x)], H⟩ else some ⟨2, [], H⟩)
    (by rw [R_eq, e_sl12Dim_0, lt_self]; rfl) (fun i hi r hr => by
      rw [R_eq, e_sl12Dim_0, lt_true hi, w1 hi (by omega)]
      obtain ⟨a, b, c, hT, hk⟩ := h.ld hi
      have hti := ht ts[i] (List.getElem_mem hi)
      rw [cond_true, hk]
      simp only [c_sl05Find hT.L hti.2, Option.bind_some, one_int]
      simp only [List.any_cons, dimF]
      by_cases h0 : 0 ≤ findF ts[i].L x 0
      · have hb : ((findF ts[i].L x 0).toNat : Int) = findF ts[i].L x 0 := by omega
        have hlt : (findF ts[i].L x 0).toNat < ts[i].D.length := by
          have key : ∀ (l : List Int) (k : Nat), findF l x k < l.length + k := by
            intro l
            induction l with
            | nil => intro k; simp [findF]; omega
            | cons y l ih => intro k; unfold findF; split
                             · simp; omega
                             · have := ih (k + 1); simp; omega
          have := key ts[i].L 0
          omega
        have h0' : findF ts[i].L x 0 ≥ 0 := h0
        simp only [h0', decide_true, cond_true, h0, if_true, Bool.true_or]
        rw [← hb, hT.D.ldk hlt, hb]
        simp [List.getD_eq_getElem?_getD, hlt]
      · have h0' : ¬ findF ts[i].L x 0 ≥ 0 := h0
        simp only [h0', decide_false, cond_false, h0, if_false, Bool.false_or]
        exact hr)
  rw [show ((0 : Int)) = ((0 : Nat) : Int) from rfl, this]
  have key : ∀ (l : List Tn), (l.any fun t => decide (0 ≤ findF t.L x 0)) = false → dimF l x = 0 := by
    intro l
    induction l with
    | nil => intro _; rfl
    | cons t l ih =>
      intro h
      simp only [List.any_cons, Bool.or_eq_false_iff, decide_eq_false_iff_not] at h
      unfold dimF
      rw [if_neg h.1]
      exact ih h.2
  rcases Bool.eq_false_or_eq_true (ts.any fun t => decide (0 ≤ findF t.L x ((0 : Nat) : Int).toNat)) with hh | hh
  · simp at hh
    have : (ts.any fun t => decide (0 ≤ findF t.L x 0)) = true := by simpa using hh
    simp only [this, if_true]; rfl
  · have : (ts.any fun t => decide (0 ≤ findF t.L x 0)) = false := by simpa using hh
    simp only [this, Bool.false_eq_true, if_false]
    rw [key ts this]; rfl
end Go.Abs
/- Contracts: networks, as the reference has them. -/
namespace Go.Abs
set_option linter.unusedVariables false
set_option linter.unusedSimpArgs false

def TsOk (ts : List Tn) : Prop := ts.length ≤ 1048576 ∧ ∀ t ∈ ts, t.L.length = t.D.length ∧ t.L.length ≤ 1048576

theorem newB_one {H : AH} {cs : List Sc} : newB H 1 cs = some (H.length, H ++ [⟨cs, .rw, 1⟩]) := rfl

/-- spec.l12Dims -/
theorem c_sl12Dims {H : AH} {s u : Sl} {ts : List Tn} {ls : List Int} (h : T3 H s ts) (ht : TsOk ts) (hu : IS H u ls) (hl : ls.length ≤ 1048576) :
    ∃ s' H', R (.fn F.sl12Dims) [ssc s, ssc u] H = some ⟨1, [ssc s'], H'⟩ ∧ Le H H' ∧ Own H.length H' s' (ls.map (dimF ts)) := by
  have loop : ∀ (k i : Nat), i + k = ls.length → ∀ (Hc : AH) (sc : Sl) (acc : List Int), Le H Hc → Own H.length Hc sc acc → acc.length = i →
      ∃ s' H', R (.loop F.sl12Dims 0) [ssc s, ssc sc, ssc u, isc (ls.length : Int), isc (i : Int)] Hc = some ⟨2, [ssc s'], H'⟩ ∧ Le H H' ∧ Own H.length H' s' (acc ++ (ls.drop i).map (dimF ts)) := by
    intro k
    induction k with
    | zero =>
      intro i hi Hc sc acc hle ho ha
      obtain rfl : i = ls.length := by omega
      exact ⟨sc, Hc, by rw [R_eq, e_sl12Dims_0, lt_self]; rfl, hle, by simpa using ho⟩
    | succ k ih =>
      intro i hi Hc sc acc hle ho ha
      have hlt : i < ls.length := by omega
      obtain ⟨s1, H1, hk, o1, l1, f1, _⟩ := push_own hle.len ho (by omega) (dimF ts ls[i])
      have hle1 := hle.lo_trans (ho.keeps f1 hle.len l1)
      obtain ⟨s', H', e, l2, o2⟩ := ih (i + 1) (by omega) H1 s1 (acc ++ [dimF ts ls[i]]) hle1 o1 (by simp [ha])
      refine ⟨s', H', ?_, l2, ?_⟩
      · rw [R_eq, e_sl12Dims_0, lt_true hlt, w1 hlt (by omega), cond_true, (hu.le hle).ldk hlt]
        simp only [c_sl12Dim (h.le hle) ht.1 ht.2, Option.bind_some, one_int]
        rw [hk]
        exact e
      · rw [List.drop_eq_getElem_cons hlt, List.map_cons]
        rw [List.append_assoc, List.singleton_append] at o2
        exact o2
  have h1 := Le.app H [⟨[], .rw, 1⟩]
  obtain ⟨s', H', e, l2, o2⟩ := loop ls.length 0 (by omega) (H ++ [⟨[], .rw, 1⟩]) ⟨H.length, 0, 0, 0, true⟩ [] h1 (Own.nil _ _ _) rfl
  refine ⟨s', H', ?_, l2, by simpa using o2⟩
  rw [R_eq, e_sl12Dims, newB_one, hu.n]
  simp only [Option.bind_some]
  rw [show ((0 : Int)) = ((0 : Nat) : Int) from rfl, e]
  rfl

def agreeB (pre : List Tn) (t : Tn) : Bool := (t.L.zip t.D).all fun y => !(decide (dimF pre y.1 > 0) && dimF pre y.1 != y.2)
def consG (r : Rg) : List Tn → List Tn → Bool
  | pre, t :: ts => tensorB r t && agreeB pre t && consG r (pre ++ [t]) ts
  | _, [] => true
structure Nw where
  r : Rg
  ts : List Tn
  op : List Int
def netB (n : Nw) : Bool := ringB n.r && decide (n.ts.length ≤ 12) && consG n.r [] n.ts && decide (sizeB n.op (n.op.map (dimF n.ts)) ≠ -1)
structure NS (H : AH) (s u : Sl) (n : Nw) : Prop where
  ts : T3 H s n.ts
  op : IS H u n.op
theorem NS.le {H H' : AH} (h : Le H H') {s u : Sl} {n : Nw} (k : NS H s u n) : NS H' s u n := ⟨k.ts.le h, k.op.le h⟩
@[reducible] def npv (r : Rg) (s u : Sl) : PV := .agg [.int .i64 r.k, .int .i64 r.p, .int .i64 r.n, .sl s, .sl u]

theorem tensor_dims {r : Rg} {t : Tn} (h : tensorB r t = true) : t.L.length = t.D.length ∧ t.L.length ≤ 12 ∧ axesB t.L t.D = true := by
  simp only [tensorB, Bool.and_eq_true, decide_eq_true_eq] at h
  have h1 := h.1.1.2
  unfold sizeB at h1
  split at h1
  · rename_i e
    have := axes_dims e
    exact ⟨this.2.1, this.1, e⟩
  · exact absurd rfl h1

theorem cons_mem {r : Rg} : ∀ {ts pre : List Tn}, consG r pre ts = true → ∀ t ∈ ts, tensorB r t = true
  | [], _, _, t, ht => by simp at ht
  | u :: ts, pre, h, t, ht => by
    simp only [consG, Bool.and_eq_true] at h
    rcases List.mem_cons.1 ht with rfl | ht
    · exact h.1.1
    · exact cons_mem h.2 t ht

theorem take_snocT {l : List Tn} {i : Nat} (h : i < l.length) : l.take (i + 1) = l.take i ++ [l[i]] := by
  rw [List.take_succ, List.getElem?_eq_getElem h]; rfl

/-- spec.NetworkOk, a tensor among those before it -/
theorem c_sNetworkOk_1 {r : Rg} {H : AH} {s u a b c : Sl} {ts : List Tn} {t : Tn} (h : T3 H s ts) (hl : ts.length ≤ 12) {i : Nat} (hi : i ≤ ts.length) (hpre : ∀ t ∈ ts.take i, t.L.length = t.D.length ∧ t.L.length ≤ 12) (hT : TS H a b c t) (htl : t.L.length = t.D.length) (ht12 : t.L.length ≤ 12) :
    R (.loop F.sNetworkOk 1) [isc (i : Int), ssc a, isc (t.L.length : Int), isc 0, npv r s u, tpv a b c] H = cond (agreeB (ts.take i) t) (some ⟨4, [], H⟩) (some ⟨1, [bsc false], H⟩) := by
  have := loopG (F := fun k : Nat => R (.loop F.sNetworkOk 1) [isc (i : Int), ssc a, isc (t.L.length : Int), isc (k : Int), npv r s u, tpv a b c] H) (l := t.L)
    (fun q k => cond ((q.zip (t.D.drop k)).all (fun y => !(decide (dimF (ts.take i) y.1 > 0) && dimF (ts.take i) y.1 != y.2))) (some ⟨4, [], H⟩) (some ⟨1, [bsc false], H⟩))
    (by rw [R_eq, e_sNetworkOk_1, lt_self]; rfl) (fun k hk q hq => by
      have hk2 : k < t.D.length := by omega
      rw [R_eq, e_sNetworkOk_1, hT.L.ldk hk, lt_true hk, w1 hk (by omega), cond_true, slB_take (by have := h.2.1; rw [h.1] at this; omega)]
      simp only [Option.bind_some]
      rw [c_sl12Dim (h.take hi) (by simp; omega) (fun t ht => by have := hpre t ht; omega)]
      simp only [Option.bind_some, one_int]
      rw [List.drop_eq_getElem_cons hk2, List.zip_cons_cons, List.all_cons]
      by_cases hd : dimF (ts.take i) t.L[k] > 0
      · simp only [hd, decide_true, cond_true, Bool.true_and]
        rw [hT.D.ldk hk2]
        by_cases he : dimF (ts.take i) t.L[k] = t.D[k]
        · have hb : (dimF (ts.take i) t.L[k] != t.D[k]) = false := by rw [he]; simp
          simp only [hb, cond_false, Bool.not_false, Bool.true_and]
          exact hq
        · have hb : (dimF (ts.take i) t.L[k] != t.D[k]) = true := by simp [he]
          simp [hb]
      · simp only [hd, decide_false, cond_false, Bool.false_and, Bool.not_false, Bool.true_and]
        exact hq)
  rw [show ((0 : Int)) = ((0 : Nat) : Int) from rfl, this, List.drop_zero]
  rfl

/-- spec.NetworkOk -/
theorem c_sNetworkOk {H : AH} {s u : Sl} {n : Nw} (h : NS H s u n) (ho : n.op.length ≤ 1048576) : ∃ H', R (.fn F.sNetworkOk) [npv n.r s u] H = some ⟨1, [bsc (netB n)], H'⟩ ∧ Le H H' := by
  unfold netB
  cases hr : ringB n.r with
  | false => exact ⟨H, by rw [R_eq, e_sNetworkOk, c_sRingOk, hr]; rfl, Le.refl H⟩
  | true =>
  by_cases hl : n.ts.length ≤ 12
  · have := loopG (F := fun i : Nat => R (.loop F.sNetworkOk 0) [ssc s, isc (n.ts.length : Int), isc (i : Int), npv n.r s u] H) (l := n.ts)
      (fun q i => if (∀ t ∈ n.ts.take i, tensorB n.r t = true) then (cond (consG n.r (n.ts.take i) q) (some ⟨2, [], H⟩) (some ⟨1, [bsc false], H⟩)) else R (.loop F.sNetworkOk 0) [ssc s, isc (n.ts.length : Int), isc (i : Int), npv n.r s u] H)
      (by
        split
        · rw [R_eq, e_sNetworkOk_0, lt_self]; rfl
        · rfl) (fun i hi q hq => by
        split
        · rename_i hpre
          obtain ⟨a, b, c, hT, hk⟩ := h.ts.ld hi
          rw [R_eq, e_sNetworkOk_0, lt_true hi, w1 hi (by omega), cond_true, hk, c_sTensorOk n.r hT]
          simp only [Option.bind_some, one_bool, consG]
          cases ht : tensorB n.r n.ts[i] with
          | false => rfl
          | true =>
            obtain ⟨d1, d2, _⟩ := tensor_dims ht
            have := c_sNetworkOk_1 (r := n.r) (u := u) h.ts hl (Nat.le_of_lt hi) (fun t ht => by have := tensor_dims (hpre t ht); exact ⟨this.1, this.2.1⟩) hT d1 d2
            simp only [Bool.not_true, cond_false, Bool.true_and, hT.L.n]
            rw [this]
            cases hag : agreeB (n.ts.take i) n.ts[i] with
            | false => rfl
            | true =>
              simp only [Option.bind_some, Nat.beq, cond_false, cond_true, Bool.true_and]
              rw [hq, if_pos]
              · rw [take_snocT hi]
              · rw [take_snocT hi]
                intro t ht'
                rcases List.mem_append.1 ht' with h | h
                · exact hpre t h
                · simp at h; subst h; exact ht
        · rfl)
    simp only [List.take_zero, List.not_mem_nil, false_implies, implies_true, if_true] at this
    cases hc : consG n.r [] n.ts with
    | false =>
      refine ⟨H, ?_, Le.refl H⟩
      rw [R_eq, e_sNetworkOk, c_sRingOk, hr, h.ts.1]
      have hl' : ¬ (n.ts.length : Int) > 12 := by omega
      simp only [Option.bind_some, one_bool, Bool.not_true, cond_false, hl', decide_false]
      rw [show ((0 : Int)) = ((0 : Nat) : Int) from rfl, this, hc]
      simp [nthP, PV.sc?, boolAt]
    | true =>
      have hm := cons_mem hc
      obtain ⟨s', H', e, l1, o1⟩ := c_sl12Dims h.ts ⟨by omega, fun t ht => by have := tensor_dims (hm t ht); omega⟩ h.op ho
      refine ⟨H', ?_, l1⟩
      rw [R_eq, e_sNetworkOk, c_sRingOk, hr, h.ts.1]
      have hl' : ¬ (n.ts.length : Int) > 12 := by omega
      simp only [Option.bind_some, one_bool, Bool.not_true, cond_false, hl', decide_false]
      rw [show ((0 : Int)) = ((0 : Nat) : Int) from rfl, this, hc]
      simp only [Option.bind_some, Nat.beq, cond_false, cond_true]
      rw [e]
      simp only [Option.bind_some, one_sl]
      rw [c_sTensorSize (h.op.le l1) o1.is]
      simp only [Option.bind_some, one_int]
      have hd : decide (n.ts.length ≤ 12) = true := by simpa using hl
      rw [hd]
      rcases sizeB_range n.op (n.op.map (dimF n.ts)) with hz | hz
      · rw [hz]; rfl
      · have h1 : sizeB n.op (n.op.map (dimF n.ts)) ≥ 0 := hz.1
        have h2 : sizeB n.op (n.op.map (dimF n.ts)) ≠ -1 := by omega
        simp [h1, h2]
  · refine ⟨H, ?_, Le.refl H⟩
    rw [R_eq, e_sNetworkOk, c_sRingOk, hr, h.ts.1]
    have hl' : (n.ts.length : Int) > 12 := by omega
    simp [oneP, PV.sc?, boolAt, hl', hl]
end Go.Abs
/- Contracts: networks, as the program has them. -/
namespace Go.Abs
set_option linter.unusedVariables false
set_option linter.unusedSimpArgs false

/-- impl.copyInts -/
theorem c_icopyInts {H : AH} {s : Sl} {l : List Int} (h : IS H s l) (hl : l.length ≤ 134217728) : ∃ s' H', R (.fn F.icopyInts) [ssc s] H = some ⟨1, [ssc s'], H'⟩ ∧ Le H H' ∧ Own H.length H' s' l := by
  rw [R_eq, e_icopyInts, h.rng]
  simp only [Option.bind_some]
  rw [h.n, app_nil hl]
  by_cases hn : l = []
  · rw [if_pos hn]; subst hn
    exact ⟨_, _, rfl, Le.refl H, Own.nil _ _ _⟩
  · rw [if_neg hn]
    exact ⟨_, _, rfl, Le.app _ _, Own.new (Nat.le_refl _) fun e => absurd e hn⟩
/-- spec.l05Ints -/
theorem c_sl05Ints {H : AH} {s : Sl} {l : List Int} (h : IS H s l) (hl : l.length ≤ 134217728) : ∃ s' H', R (.fn F.sl05Ints) [ssc s] H = some ⟨1, [ssc s'], H'⟩ ∧ Le H H' ∧ Own H.length H' s' l := by
  have h1 := Le.app H [⟨[], .rw, 1⟩]
  rw [R_eq, e_sl05Ints, newB_one]
  simp only [Option.bind_some]
  rw [(h.le h1).rng]
  simp only [Option.bind_some]
  rw [h.n, app_nil hl]
  by_cases hn : l = []
  · rw [if_pos hn]; subst hn
    exact ⟨_, _, rfl, h1, Own.nil _ _ _⟩
  · rw [if_neg hn]
    exact ⟨_, _, rfl, h1.trans (Le.app _ _), Own.new (by simp) fun e => absurd e hn⟩

theorem zc_dims : zc P Y.t100_int = ics (List.replicate 100 0) := by kernel_rfl

def dimT : List Int → List (Int × Int) → Option (List Int)
  | d, [] => some d
  | d, (x, v) :: l => if d.getD x.toNat 0 ≠ 0 ∧ d.getD x.toNat 0 ≠ v then none else dimT (d.set x.toNat v) l
def dimTs : List Int → List Tn → Option (List Int)
  | d, [] => some d
  | d, t :: ts => (dimT d (t.L.zip t.D)).bind fun d' => dimTs d' ts

theorem ixA_100 {x : Int} (h0 : 0 ≤ x) (h1 : x ≤ 99) : ixA ⟨0, 0, 100, 100, true⟩ x 1 = some x.toNat := by
  unfold ixA
  rw [if_pos ⟨h0, by simp; omega⟩]
  simp
theorem int_at {d : List Int} {i : Nat} (h : i < d.length) : intAt .i64 (ics d) i = some (d.getD i 0) := by
  refine intAt_get ?_
  simp [List.getD_eq_getElem?_getD, h]
theorem setAll_len : ∀ (vs cs : List Sc) (o : Nat), (setAll cs o vs).length = cs.length
  | [], cs, o => rfl
  | v :: vs, cs, o => by simp only [setAll]; rw [setAll_len vs]; simp

def LabOk (t : Tn) : Prop := t.L.length = t.D.length ∧ t.L.length ≤ 12 ∧ ∀ x ∈ t.L, 0 ≤ x ∧ x ≤ 99

theorem ics_set (d : List Int) (i : Nat) (v : Int) : (ics d).set i (.int .i64 v) = ics (d.set i v) := by simp [List.map_set]

theorem c_idimsOf_1 {H : AH} {a b c : Sl} {t : Tn} (hT : TS H a b c t) (ht : LabOk t) {y2 : List Sc} (hy : y2.length = 100) : ∀ (k i : Nat), i + k = t.L.length → ∀ d : List Int, d.length = 100 →
    (∃ d', dimT d ((t.L.drop i).zip (t.D.drop i)) = some d' ∧ d'.length = 100 ∧ R (.loop F.idimsOf 1) [ssc a, isc (t.L.length : Int), isc (i : Int), .agg y2, .agg (ics d), tpv a b c] H = some ⟨4, [.agg y2, .agg (ics d')], H⟩) ∨
    (dimT d ((t.L.drop i).zip (t.D.drop i)) = none ∧ ∃ l2 l4, l2.length = 100 ∧ l4.length = 100 ∧ R (.loop F.idimsOf 1) [ssc a, isc (t.L.length : Int), isc (i : Int), .agg y2, .agg (ics d), tpv a b c] H = some ⟨1, [bsc false, .agg l2, .agg l4], H⟩)
  | 0, i, hi, d, hd => by
    obtain rfl : i = t.L.length := by omega
    refine .inl ⟨d, by simp [dimT], hd, ?_⟩
    rw [R_eq, e_idimsOf_1, lt_self]; rfl
  | k + 1, i, hi, d, hd => by
    have hlt : i < t.L.length := by omega
    have hlt2 : i < t.D.length := by have := ht.1; omega
    have hx := ht.2.2 t.L[i] (List.getElem_mem hlt)
    have hxn : t.L[i].toNat < d.length := by omega
    rw [List.drop_eq_getElem_cons hlt, List.drop_eq_getElem_cons hlt2, List.zip_cons_cons]
    simp only [dimT]
    have hd4 : (ics d).length = 100 := by simp [hd]
    rw [R_eq, e_idimsOf_1, hT.L.ldk hlt, lt_true hlt, w1 hlt (by have := ht.2.1; omega), cond_true, ixA_100 hx.1 hx.2]
    simp only [Option.bind_some, int_at hxn]
    by_cases h0 : d.getD t.L[i].toNat 0 = 0
    · have e0 : (d.getD t.L[i].toNat 0 != 0) = false := by rw [h0]; rfl
      have e1 : ¬ (d.getD t.L[i].toNat 0 ≠ 0 ∧ d.getD t.L[i].toNat 0 ≠ t.D[i]) := fun h => h.1 h0
      rw [if_neg e1]
      simp only [e0, cond_false, Option.bind_some, Nat.beq, cond_true, nthP, List.getElem?_cons_zero, PV.agg?, hy, decide_true]
      rw [hT.D.ldk hlt2]
      have e2 : decide (t.L[i].toNat + 1 ≤ (ics d).length) = true := by simp [hd4]; omega
      simp only [e2, cond_true, ics_set]
      exact c_idimsOf_1 hT ht hy k (i + 1) (by omega) _ (by simp [hd])
    · have e0 : (d.getD t.L[i].toNat 0 != 0) = true := by simp only [bne_iff_ne, ne_eq]; exact h0
      simp only [e0, cond_true]
      rw [hT.D.ldk hlt2]
      by_cases h1 : d.getD t.L[i].toNat 0 = t.D[i]
      · have e1 : (d.getD t.L[i].toNat 0 != t.D[i]) = false := by rw [h1]; simp
        have e3 : ¬ (d.getD t.L[i].toNat 0 ≠ 0 ∧ d.getD t.L[i].toNat 0 ≠ t.D[i]) := fun h => h.2 h1
        rw [if_neg e3]
        simp only [e1, cond_false, Option.bind_some, Nat.beq, cond_true, nthP, List.getElem?_cons_zero, PV.agg?, hy, decide_true]
        rw [hT.D.ldk hlt2]
        have e2 : decide (t.L[i].toNat + 1 ≤ (ics d).length) = true := by simp [hd4]; omega
        simp only [e2, cond_true, ics_set]
        exact c_idimsOf_1 hT ht hy k (i + 1) (by omega) _ (by simp [hd])
      · have e1 : (d.getD t.L[i].toNat 0 != t.D[i]) = true := by simp only [bne_iff_ne, ne_eq]; exact h1
        rw [if_pos ⟨h0, h1⟩]
        refine .inr ⟨rfl, setAll y2 0 (ics d), ics d, by rw [setAll_len]; exact hy, hd4, ?_⟩
        have e5 : (List.take 100 (List.drop 0 (ics d))) = ics d := by rw [List.drop_zero, List.take_of_length_le (by omega)]
        simp only [e1, cond_true, hd4, e5, hy, Nat.le_refl, Nat.zero_add, decide_true, Option.bind_some, Nat.beq, cond_false, setAll_len, nthP, List.getElem?_cons_zero, List.getElem?_cons_succ, PV.agg?, PV.sc?, boolAt]
end Go.Abs
/- Contracts: networks, as the program has them. -/
namespace Go.Abs
set_option linter.unusedVariables false
set_option linter.unusedSimpArgs false

theorem setAll_all : ∀ (vs cs : List Sc) (o : Nat), o + vs.length ≤ cs.length → setAll cs o vs = cs.take o ++ vs ++ cs.drop (o + vs.length)
  | [], cs, o, h => by simp [setAll]
  | v :: vs, cs, o, h => by
    simp only [setAll]
    simp only [List.length_cons] at h
    rw [setAll_all vs _ (o + 1) (by simp; omega)]
    have e1 : (cs.set o v).take (o + 1) = cs.take o ++ [v] := by
      have ho : o < cs.length := by omega
      have e : cs.take (o + 1) = cs.take o ++ [cs[o]] := by rw [List.take_succ, List.getElem?_eq_getElem ho]; rfl
      rw [List.take_set, e, List.set_append]
      simp [Nat.min_eq_left (Nat.le_of_lt ho)]
    rw [e1, List.drop_set_of_lt (by omega)]
    simp [Nat.add_assoc, Nat.add_comm 1]
theorem setAll_full {vs cs : List Sc} (h : vs.length = cs.length) : setAll cs 0 vs = vs := by
  rw [setAll_all vs cs 0 (by omega)]
  simp [h]

theorem c_idimsOf_0 {H : AH} {s : Sl} {ts : List Tn} (h : T3 H s ts) (hl : ts.length ≤ 12) (hok : ∀ t ∈ ts, LabOk t) {y2 : List Sc} (hy : y2.length = 100) : ∀ (k i : Nat), i + k = ts.length → ∀ d : List Int, d.length = 100 →
    (∃ d', dimTs d (ts.drop i) = some d' ∧ d'.length = 100 ∧ R (.loop F.idimsOf 0) [ssc s, isc (ts.length : Int), isc (i : Int), .agg y2, .agg (ics d)] H = some ⟨2, [.agg y2, .agg (ics d')], H⟩) ∨
    (dimTs d (ts.drop i) = none ∧ ∃ l2 l4, l2.length = 100 ∧ l4.length = 100 ∧ R (.loop F.idimsOf 0) [ssc s, isc (ts.length : Int), isc (i : Int), .agg y2, .agg (ics d)] H = some ⟨1, [bsc false, .agg l2, .agg l4], H⟩)
  | 0, i, hi, d, hd => by
    obtain rfl : i = ts.length := by omega
    refine .inl ⟨d, by simp [dimTs], hd, ?_⟩
    rw [R_eq, e_idimsOf_0, lt_self]; rfl
  | k + 1, i, hi, d, hd => by
    have hlt : i < ts.length := by omega
    obtain ⟨a, b, c, hT, hk⟩ := h.ld hlt
    have hoi := hok ts[i] (List.getElem_mem hlt)
    rw [List.drop_eq_getElem_cons hlt]
    simp only [dimTs]
    rw [R_eq, e_idimsOf_0, lt_true hlt, w1 hlt (by omega), cond_true, hk, hT.L.n]
    rcases c_idimsOf_1 hT hoi hy ts[i].L.length 0 (by omega) d hd with ⟨d', e1, e2, e3⟩ | ⟨e1, l2, l4, e2, e3, e4⟩
    · simp only [List.drop_zero] at e1
      rw [show ((0 : Int)) = ((0 : Nat) : Int) from rfl, e3, e1]
      have hd4 : (ics d').length = 100 := by simp [e2]
      simp only [Option.bind_some, Nat.beq, cond_false, cond_true, nthP, List.getElem?_cons_zero, List.getElem?_cons_succ, PV.agg?, hy, hd4, decide_true]
      exact c_idimsOf_0 h hl hok hy k (i + 1) (by omega) d' e2
    · simp only [List.drop_zero] at e1
      rw [show ((0 : Int)) = ((0 : Nat) : Int) from rfl, e4, e1]
      refine .inr ⟨rfl, l2, l4, e2, e3, ?_⟩
      simp only [Option.bind_some, Nat.beq, cond_false, cond_true, nthP, List.getElem?_cons_zero, List.getElem?_cons_succ, PV.agg?, PV.sc?, boolAt, e2, e3, decide_true]

/-- impl.dimsOf -/
theorem c_idimsOf {H : AH} {s : Sl} {ts : List Tn} (h : T3 H s ts) (hl : ts.length ≤ 12) (hok : ∀ t ∈ ts, LabOk t) :
    (∃ d, dimTs (List.replicate 100 0) ts = some d ∧ d.length = 100 ∧ R (.fn F.idimsOf) [ssc s] H = some ⟨1, [.agg (ics d), bsc true], H⟩) ∨
    (dimTs (List.replicate 100 0) ts = none ∧ ∃ l, l.length = 100 ∧ R (.fn F.idimsOf) [ssc s] H = some ⟨1, [.agg l, bsc false], H⟩) := by
  have hz : (ics (List.replicate 100 0)).length = 100 := by simp
  rcases c_idimsOf_0 h hl hok (y2 := ics (List.replicate 100 0)) hz ts.length 0 (by omega) (List.replicate 100 0) (by simp) with ⟨d', e1, e2, e3⟩ | ⟨e1, l2, l4, e2, e3, e4⟩
  · refine .inl ⟨d', by simpa using e1, e2, ?_⟩
    have e3 : R (.loop F.idimsOf 0) [ssc s, isc (ts.length : Int), isc 0, .agg (ics (List.replicate 100 0)), .agg (ics (List.replicate 100 0))] H = some ⟨2, [.agg (ics (List.replicate 100 0)), .agg (ics d')], H⟩ := e3
    rw [R_eq, e_idimsOf, h.1, zc_dims, e3]
    have hd4 : (ics d').length = 100 := by simp [e2]
    have e5 : (List.take 100 (List.drop 0 (ics d'))) = ics d' := by rw [List.drop_zero, List.take_of_length_le (by omega)]
    have e6 : setAll (ics (List.replicate 100 (0 : Int))) 0 (ics d') = ics d' := setAll_full (by rw [hd4]; simp)
    have hz' : (ics (List.replicate 100 (0 : Int))).length = 100 := by simp
    simp only [Option.bind_some, Nat.beq, cond_false, cond_true, nthP, List.getElem?_cons_zero, List.getElem?_cons_succ, PV.agg?, hz', hd4, decide_true, e5, Nat.le_refl, Nat.zero_add, e6]
  · refine .inr ⟨by simpa using e1, l2, e2, ?_⟩
    have e4 : R (.loop F.idimsOf 0) [ssc s, isc (ts.length : Int), isc 0, .agg (ics (List.replicate 100 0)), .agg (ics (List.replicate 100 0))] H = some ⟨1, [bsc false, .agg l2, .agg l4], H⟩ := e4
    rw [R_eq, e_idimsOf, h.1, zc_dims, e4]
    have e5 : (List.take 100 (List.drop 0 l2)) = l2 := by rw [List.drop_zero, List.take_of_length_le (by omega)]
    simp only [Option.bind_some, Nat.beq, cond_false, cond_true, nthP, List.getElem?_cons_zero, List.getElem?_cons_succ, PV.agg?, PV.sc?, boolAt, e2, e3, decide_true, e5, Nat.le_refl]

theorem mkAt_ints {H : AH} {i n : Nat} (hi : isRes H i = true) (hn : n ≤ 134217728) : mkAt H i 1 8 [.int .i64 0] (n : Int) (n : Int) = some (⟨i, 0, n, n, true⟩, H.set i ⟨ics (List.replicate n 0), .rw, 1⟩) := by
  unfold mkAt
  have := most_ok hn
  rw [if_pos ⟨hi, by omega, by omega, by omega, by omega, by omega⟩]
  simp [List.map_replicate, List.flatten_replicate_singleton]

/-- A number is stored. -/
theorem put_own {H : AH} {b n : Nat} {x : Bool} {cs : List Int} (hb : H[b]? = some ⟨ics cs, .rw, 1⟩) {i : Nat} (hi : i < n) (hc : i < cs.length) (v : Int) {α : Type} (k : AH → Option α) :
    ((ixA ⟨b, 0, n, n, x⟩ (i : Int) 1).bind fun o => (putR H b o [.int .i64 v]).bind k) = k (H.set b ⟨ics (cs.set i v), .rw, 1⟩) := by
  rw [ixA_nat (by exact hi)]
  simp only [Option.bind_some, Nat.zero_add, Nat.mul_one]
  rw [putR_one hb (by simpa using hc)]
  simp only [Option.bind_some, ics_set]

/-- impl.axesOf -/
theorem c_iaxesOf {H : AH} {u : Sl} {ls d : List Int} (hd : d.length = 100) (hu : IS H u ls) (hl : ls.length ≤ 100000) (hr : ∀ x ∈ ls, 0 ≤ x ∧ x ≤ 99) :
    ∃ a b H', R (.fn F.iaxesOf) [.agg (ics d), ssc u] H = some ⟨1, [tpv a b ⟨0, 0, 0, 0, true⟩], H'⟩ ∧ Le H H' ∧ IS H' a ls ∧ IS H' b (ls.map fun x => d.getD x.toNat 0) := by
  -- a place is kept, then the labels are copied
  have hr1 : (reserve H 1) = H ++ [resB] := rfl
  have hk1 : ((H ++ [resB]).set H.length deadB) = H ++ [deadB] := by simp
  have hle0 := Le.app H [deadB]
  obtain ⟨a, H1, e1, l1, o1⟩ := c_icopyInts (hu.le hle0) (by omega)
  have hlen1 : H.length + 1 ≤ H1.length := by have := l1.len; simpa using this
  have hrest : ∃ H2, restB (reserve H 1) H1 (H.length + 0) = H2 ∧ isRes H2 H.length = true ∧ H2.length = H1.length ∧ ∀ b, b ≠ H.length → H2[b]? = H1[b]? := by
    refine ⟨_, rfl, ?_, by simp [restB], fun b hb => ?_⟩
    · unfold isRes restB
      rw [hr1]
      simp [show H.length < H1.length by omega, resB]
    · simp only [restB, Nat.add_zero]
      rw [List.getElem?_set_ne (Ne.symm hb)]
  obtain ⟨H2, hH2, hres, hlen2, hoth⟩ := hrest
  have hle2 : Le H H2 := ⟨by omega, fun b hb => by rw [hoth b (by omega), l1.get b (by simp; omega)]; exact List.getElem?_append_left hb⟩
  -- the loop that fills the sizes
  have loop : ∀ (k i : Nat), i + k = ls.length → ∀ (Hc : AH) (cs : List Int), Le H Hc → Hc[H.length]? = some ⟨ics cs, .rw, 1⟩ → cs.length = ls.length → (∀ j x, j < i → ls[j]? = some x → cs[j]? = some (d.getD x.toNat 0)) → IS Hc a ls →
      ∃ H', R (.loop F.iaxesOf 0) [ssc u, isc (ls.length : Int), isc (i : Int), .agg (ics d), tpv a ⟨H.length, 0, ls.length, ls.length, true⟩ ⟨0, 0, 0, 0, true⟩] Hc = some ⟨2, [], H'⟩ ∧ Le H H' ∧ IS H' a ls ∧ H'[H.length]? = some ⟨ics (ls.map fun x => d.getD x.toNat 0), .rw, 1⟩ := by
    intro k
    induction k with
    | zero =>
      intro i hi Hc cs hle hb hcl hcs ha
      obtain rfl : i = ls.length := by omega
      refine ⟨Hc, by rw [R_eq, e_iaxesOf_0, lt_self]; rfl, hle, ha, ?_⟩
      have : cs = ls.map fun x => d.getD x.toNat 0 := by
        refine List.ext_getElem? fun j => ?_
        rcases Nat.lt_or_ge j ls.length with hj | hj
        · rw [hcs j ls[j] hj (List.getElem?_eq_getElem hj), List.getElem?_map, List.getElem?_eq_getElem hj]; rfl
        · rw [List.getElem?_eq_none (by omega), List.getElem?_eq_none (by simpa using hj)]
      rw [← this]; exact hb
    | succ k ih =>
      intro i hi Hc cs hle hb hcl hcs ha
      have hlt : i < ls.length := by omega
      have hx := hr ls[i] (List.getElem_mem hlt)
      rw [R_eq, e_iaxesOf_0, lt_true hlt, w1 hlt (by omega), cond_true, (hu.le hle).ldk hlt, ixA_100 hx.1 hx.2]
      simp only [Option.bind_some]
      rw [int_at (by omega)]
      simp only [Option.bind_some]
      rw [put_own hb hlt (by omega)]
      have hbl : H.length < Hc.length := (List.getElem?_eq_some_iff.1 hb).1
      refine ih (i + 1) (by omega) _ (cs.set i (d.getD ls[i].toNat 0)) ⟨by simp; exact hle.len, fun b hb' => by rw [List.getElem?_set_ne (by omega)]; exact hle.get b hb'⟩ (by simp [hbl]) (by simp [hcl]) (fun j x hj hjx => ?_) ?_
      · by_cases e : i = j
        · subst e
          rw [List.getElem?_eq_getElem hlt] at hjx
          cases hjx
          simp [hcl, hlt]
        · rw [List.getElem?_set_ne e]; exact hcs j x (by omega) hjx
      · by_cases hls : ls = []
        · subst hls; exact absurd hlt (by simp)
        · refine ⟨ha.n, ha.c, ?_⟩
          rcases ha.rd with h | ⟨q, h1, h2⟩
          · exact absurd h hls
          · refine .inr ⟨q, ?_, h2⟩
            have hne : a.b ≠ H.length := by
              rcases o1.lo with h | h
              · exact absurd h hls
              · simp at h; omega
            unfold rdB at h1 ⊢
            rw [List.getElem?_set_ne (Ne.symm hne)]; exact h1
  have ha2 : IS (H2.set H.length ⟨ics (List.replicate ls.length 0), .rw, 1⟩) a ls := by
    by_cases hls : ls = []
    · subst hls; exact ⟨o1.is.n, o1.is.c, .inl rfl⟩
    · refine ⟨o1.is.n, o1.is.c, ?_⟩
      rcases o1.is.rd with h | ⟨q, h1, h2⟩
      · exact absurd h hls
      · refine .inr ⟨q, ?_, h2⟩
        have hne : a.b ≠ H.length := by
          rcases o1.lo with h | h
          · exact absurd h hls
          · simp at h; omega
        unfold rdB at h1 ⊢
        rw [List.getElem?_set_ne (Ne.symm hne), hoth _ hne]; exact h1
  obtain ⟨H', e3, l3, a3, b3⟩ := loop ls.length 0 (by omega) (H2.set H.length ⟨ics (List.replicate ls.length 0), .rw, 1⟩) (List.replicate ls.length 0)
    ⟨by simp; exact hle2.len, fun b hb => by rw [List.getElem?_set_ne (by omega)]; exact hle2.get b hb⟩ (by simp [show H.length < H2.length by omega]) (by simp) (fun j x hj => by omega) ha2
  refine ⟨a, ⟨H.length, 0, ls.length, ls.length, true⟩, H', ?_, l3, a3, ⟨by simp, Nat.le_refl _, ?_⟩⟩
  · rw [R_eq, e_iaxesOf]
    have hq : (reserve H 1).set (H.length + 0) deadB = H ++ [deadB] := hk1
    rw [hq, e1]
    have hlr : decide (H1.length ≥ (reserve H 1).length) = true := by simp [hr1]; omega
    simp only [Option.bind_some, one_sl, hlr, cond_true]
    rw [hH2, hu.n]
    have := mkAt_ints (n := ls.length) hres (by omega)
    rw [Nat.add_zero, this]
    simp only [Option.bind_some]
    rw [show ((0 : Nat) : Int) = 0 from rfl] at e3
    rw [e3]
    rfl
  · refine .inr ⟨_, by unfold rdB; rw [b3]; rfl, fun i x hi => ?_⟩
    rw [Nat.zero_add]; simp only [List.getElem?_map, hi, Option.map_some]
end Go.Abs
/- Networks: the program's check is the reference's. -/
namespace Go.Abs
set_option linter.unusedVariables false
set_option linter.unusedSimpArgs false

def distI : List Int → Prop
  | [] => True
  | x :: l => x ∉ l ∧ distI l

theorem axesG_facts : ∀ {pre ls ds : List Int}, axesG pre ls ds = true → ls.length = ds.length → distI ls ∧ (∀ x ∈ ls, 0 ≤ x ∧ x ≤ 99 ∧ x ∉ pre)
  | pre, [], ds, _, _ => ⟨trivial, by simp⟩
  | pre, n :: ls, [], _, h => by simp at h
  | pre, n :: ls, d :: ds, h, hl => by
    simp only [axesG, Bool.and_eq_true, Bool.not_eq_true'] at h
    obtain ⟨i1, i2⟩ := axesG_facts h.2 (by simpa using hl)
    have hn : n ∉ pre := fun hm => by
      have := List.any_eq_true.2 ⟨n, hm, (by simp : (n == n) = true)⟩
      rw [h.1.2] at this; cases this
    have h0 := h.1.1.1
    simp only [inB, Bool.and_eq_true, decide_eq_true_eq] at h0
    refine ⟨⟨fun hm => (i2 n hm).2.2 (by simp), i1⟩, fun x hx => ?_⟩
    rcases List.mem_cons.1 hx with rfl | hx
    · exact ⟨by omega, by omega, hn⟩
    · have := i2 x hx
      exact ⟨this.1, this.2.1, fun hm => this.2.2 (by simp [hm])⟩
theorem tensor_facts {r : Rg} {t : Tn} (h : tensorB r t = true) : LabOk t ∧ distI t.L ∧ ∀ d ∈ t.D, 1 ≤ d ∧ d ≤ 8 := by
  obtain ⟨h1, h2, h3⟩ := tensor_dims h
  have h4 := axes_dims h3
  simp only [axesB, Bool.and_eq_true, decide_eq_true_eq] at h3
  obtain ⟨g1, g2⟩ := axesG_facts h3.2 h1
  exact ⟨⟨h1, h2, fun x hx => ⟨(g2 x hx).1, (g2 x hx).2.1⟩⟩, g1, h4.2.2⟩

/-- What is bound to a number. -/
def look : List (Int × Int) → Int → Option Int
  | [], _ => none
  | (x, v) :: l, y => if x = y then some v else look l y
theorem look_cons (x v y : Int) (l : List (Int × Int)) : look ((x, v) :: l) y = if x = y then some v else look l y := rfl
theorem look_none {y : Int} : ∀ {l : List (Int × Int)}, y ∉ l.map (·.1) → look l y = none
  | [], _ => rfl
  | (x, v) :: l, h => by
    simp only [List.map_cons, List.mem_cons, not_or] at h
    unfold look
    rw [if_neg (fun e => h.1 e.symm)]
    exact look_none h.2

def freeOf (d : List Int) (y : Int × Int) : Bool := !(decide (d.getD y.1.toNat 0 ≠ 0) && d.getD y.1.toNat 0 != y.2)

theorem getD_set {d : List Int} {i j : Nat} {v : Int} (hi : i < d.length) : (d.set i v).getD j 0 = if i = j then v else d.getD j 0 := by
  simp only [List.getD_eq_getElem?_getD, List.getElem?_set]
  by_cases e : i = j
  · subst e; simp [hi]
  · simp [e]

theorem dimT_spec : ∀ (l : List (Int × Int)) (d : List Int), d.length = 100 → distI (l.map (·.1)) → (∀ y ∈ l, 0 ≤ y.1 ∧ y.1 ≤ 99) →
    (l.all (freeOf d) = true ∧ ∃ d', dimT d l = some d' ∧ d'.length = 100 ∧ ∀ y : Int, 0 ≤ y → y ≤ 99 → d'.getD y.toNat 0 = (look l y).getD (d.getD y.toNat 0)) ∨ (l.all (freeOf d) = false ∧ dimT d l = none)
  | [], d, hd, _, _ => .inl ⟨rfl, d, rfl, hd, fun y _ _ => rfl⟩
  | (x, v) :: l, d, hd, hn, hr => by
    obtain ⟨h1, h2⟩ := hn
    have hx := hr (x, v) List.mem_cons_self
    simp only at hx
    have hxl : x.toNat < d.length := by omega
    simp only [dimT, List.all_cons]
    by_cases hc : d.getD x.toNat 0 ≠ 0 ∧ d.getD x.toNat 0 ≠ v
    · refine .inr ⟨?_, if_pos hc⟩
      have : freeOf d (x, v) = false := by
        unfold freeOf
        have e1 : decide (d.getD x.toNat 0 ≠ 0) = true := by simpa using hc.1
        have e2 : (d.getD x.toNat 0 != v) = true := by simpa using hc.2
        simp only [e1, e2]; rfl
      rw [this]; rfl
    · have hf : freeOf d (x, v) = true := by
        unfold freeOf
        by_cases h0 : d.getD x.toNat 0 = 0
        · have e1 : decide (d.getD x.toNat 0 ≠ 0) = false := by simpa using h0
          simp only [e1]; rfl
        · have hv : d.getD x.toNat 0 = v := Decidable.byContradiction fun h => hc ⟨h0, h⟩
          have e2 : (d.getD x.toNat 0 != v) = false := by simpa using hv
          simp only [e2, Bool.and_false]; rfl
      rw [if_neg hc, hf]
      have hsame : ∀ y ∈ l, (d.set x.toNat v).getD y.1.toNat 0 = d.getD y.1.toNat 0 := fun y hy => by
        rw [getD_set hxl]
        have hy2 := hr y (List.mem_cons_of_mem _ hy)
        have : x ≠ y.1 := fun e => h1 (List.mem_map.2 ⟨y, hy, e.symm⟩)
        rw [if_neg (by omega)]
      have hall : l.all (freeOf (d.set x.toNat v)) = l.all (freeOf d) := by
        have : ∀ (q : List (Int × Int)), (∀ y ∈ q, y ∈ l) → q.all (freeOf (d.set x.toNat v)) = q.all (freeOf d) := by
          intro q
          induction q with
          | nil => intro _; rfl
          | cons y q ih =>
            intro hq
            simp only [List.all_cons]
            rw [ih fun z hz => hq z (List.mem_cons_of_mem _ hz)]
            have : freeOf (d.set x.toNat v) y = freeOf d y := by unfold freeOf; rw [hsame y (hq y List.mem_cons_self)]
            rw [this]
        exact this l fun _ h => h
      rcases dimT_spec l (d.set x.toNat v) (by simpa using hd) h2 (fun y hy => hr y (List.mem_cons_of_mem _ hy)) with ⟨g1, d', g2, g3, g4⟩ | ⟨g1, g2⟩
      · refine .inl ⟨by rw [← hall, g1]; rfl, d', g2, g3, fun y hy0 hy1 => ?_⟩
        rw [g4 y hy0 hy1, look_cons]
        by_cases e : x = y
        · subst e
          rw [if_pos rfl, look_none (y := x) h1, getD_set hxl, if_pos rfl]; rfl
        · rw [if_neg e, getD_set hxl, if_neg (by omega)]
      · exact .inr ⟨by rw [← hall, g1]; rfl, g2⟩

theorem look_find : ∀ {L D : List Int} {y : Int} (k : Nat), L.length = D.length → look (L.zip D) y = if (k : Int) ≤ findF L y k then D[(findF L y k).toNat - k]? else none
  | [], D, y, k, h => by
    have : ¬ (k : Int) ≤ findF [] y k := by simp [findF]; omega
    rw [if_neg this]; rfl
  | x :: L, [], y, k, h => by simp at h
  | x :: L, v :: D, y, k, h => by
    rw [List.zip_cons_cons]
    unfold look findF
    by_cases e : x = y
    · subst e
      simp
    · have e' : (x == y) = false := by simp [e]
      rw [if_neg e, look_find (k + 1) (by simpa using h)]
      simp only [e', Bool.false_eq_true, if_false]
      rcases findF_lo L y (k + 1) with h0 | h0
      · rw [h0]
        rw [if_neg (by omega), if_neg (by omega)]
      · rw [if_pos h0, if_pos (by omega)]
        have : (findF L y (k + 1)).toNat - k = ((findF L y (k + 1)).toNat - (k + 1)) + 1 := by omega
        rw [this]; rfl
theorem look_dim {t : Tn} (h : t.L.length = t.D.length) (x : Int) : (look (t.L.zip t.D) x).getD 0 = dimF [t] x := by
  rw [look_find 0 h]
  unfold dimF
  by_cases h0 : 0 ≤ findF t.L x 0
  · rw [if_pos h0]
    simp only [Int.natCast_zero] at *
    rw [if_pos (by exact h0)]
    simp [List.getD_eq_getElem?_getD]
  · rw [if_neg h0]
    rw [if_neg (by exact h0)]
    rfl
end Go.Abs
/- The program's check of a network is the reference's. -/
namespace Go.Abs
set_option linter.unusedVariables false
set_option linter.unusedSimpArgs false

theorem dimF_app {r : Rg} {t : Tn} {x : Int} : ∀ {pre : List Tn}, (∀ u ∈ pre, tensorB r u = true) → 0 ≤ dimF pre x ∧ dimF (pre ++ [t]) x = if dimF pre x > 0 then dimF pre x else dimF [t] x
  | [], _ => ⟨by simp [dimF], by simp [dimF]⟩
  | u :: pre, h => by
    obtain ⟨i1, i2⟩ := dimF_app (t := t) (x := x) (pre := pre) fun v hv => h v (List.mem_cons_of_mem _ hv)
    have hu := tensor_facts (h u List.mem_cons_self)
    have hcons : ∀ q, dimF (u :: q) x = if 0 ≤ findF u.L x 0 then u.D.getD (findF u.L x 0).toNat 0 else dimF q x := fun q => rfl
    rw [List.cons_append, hcons, hcons]
    by_cases h0 : 0 ≤ findF u.L x 0
    · rw [if_pos h0, if_pos h0]
      have key : ∀ (l : List Int) (k : Nat), findF l x k < l.length + k := by
        intro l
        induction l with
        | nil => intro k; simp [findF]; omega
        | cons y l ih => intro k; unfold findF; split
                         · simp; omega
                         · have := ih (k + 1); simp; omega
      have hlt := key u.L 0
      have hD : (findF u.L x 0).toNat < u.D.length := by have := hu.1.1; omega
      have hge := hu.2.2 u.D[(findF u.L x 0).toNat] (List.getElem_mem hD)
      have e : u.D.getD (findF u.L x 0).toNat 0 = u.D[(findF u.L x 0).toNat] := by simp [List.getD_eq_getElem?_getD, hD]
      rw [e]
      exact ⟨by omega, by rw [if_pos (by omega)]⟩
    · rw [if_neg h0, if_neg h0]
      exact ⟨i1, i2⟩

structure Dm (d : List Int) (pre : List Tn) : Prop where
  len : d.length = 100
  get : ∀ y : Int, 0 ≤ y → y ≤ 99 → d.getD y.toNat 0 = dimF pre y

theorem all_congr {α : Type} {p q : α → Bool} : ∀ {l : List α}, (∀ x ∈ l, p x = q x) → l.all p = l.all q
  | [], _ => rfl
  | x :: l, h => by simp only [List.all_cons]; rw [h x List.mem_cons_self, all_congr fun y hy => h y (List.mem_cons_of_mem _ hy)]

theorem look_mem {y v : Int} : ∀ {l : List (Int × Int)}, look l y = some v → (y, v) ∈ l
  | [], h => by cases h
  | (x, u) :: l, h => by
    rw [look_cons] at h
    split at h
    · rename_i e; cases h; subst e; exact List.mem_cons_self
    · exact List.mem_cons_of_mem _ (look_mem h)

theorem map_zip_fst : ∀ {L D : List Int}, L.length = D.length → (L.zip D).map (·.1) = L
  | [], D, _ => by simp
  | x :: L, [], h => by simp at h
  | x :: L, d :: D, h => by simp [map_zip_fst (L := L) (D := D) (by simpa using h)]

theorem dimT_step {r : Rg} {pre : List Tn} {d : List Int} {t : Tn} (hd : Dm d pre) (hp : ∀ u ∈ pre, tensorB r u = true) (ht : tensorB r t = true) :
    (agreeB pre t = true ∧ ∃ d', dimT d (t.L.zip t.D) = some d' ∧ Dm d' (pre ++ [t])) ∨ (agreeB pre t = false ∧ dimT d (t.L.zip t.D) = none) := by
  obtain ⟨h1, h2, h3⟩ := tensor_facts ht
  have hmem : ∀ y ∈ t.L.zip t.D, 0 ≤ y.1 ∧ y.1 ≤ 99 := fun y hy => h1.2.2 y.1 (List.of_mem_zip hy).1
  have hall : (t.L.zip t.D).all (freeOf d) = agreeB pre t := by
    unfold agreeB
    refine all_congr fun y hy => ?_
    obtain ⟨y0, y1⟩ := hmem y hy
    unfold freeOf
    rw [hd.get y.1 y0 y1]
    have hge := (dimF_app (t := t) (x := y.1) hp).1
    by_cases h0 : dimF pre y.1 = 0
    · rw [h0]; rfl
    · have e1 : decide (dimF pre y.1 ≠ 0) = true := by simpa using h0
      have e2 : decide (dimF pre y.1 > 0) = true := by simp; omega
      rw [e1, e2]
  rcases dimT_spec (t.L.zip t.D) d hd.len (by rw [map_zip_fst h1.1]; exact h2) hmem with ⟨g1, d', g2, g3, g4⟩ | ⟨g1, g2⟩
  · refine .inl ⟨by rw [← hall]; exact g1, d', g2, g3, fun y y0 y1 => ?_⟩
    rw [g4 y y0 y1, (dimF_app (t := t) (x := y) hp).2, hd.get y y0 y1]
    have hld := look_dim h1.1 y
    have hge := (dimF_app (t := t) (x := y) hp).1
    cases hl : look (t.L.zip t.D) y with
    | none =>
      rw [hl] at hld
      simp only [Option.getD_none] at hld ⊢
      by_cases h0 : dimF pre y > 0
      · rw [if_pos h0]
      · rw [if_neg h0, ← hld]; omega
    | some v =>
      rw [hl] at hld
      simp only [Option.getD_some] at hld ⊢
      by_cases h0 : dimF pre y > 0
      · rw [if_pos h0]
        have := List.all_eq_true.1 g1 (y, v) (look_mem hl)
        unfold freeOf at this
        rw [hd.get y y0 y1] at this
        have e1 : decide (dimF pre y ≠ 0) = true := by simp; omega
        simp only [e1, Bool.true_and, Bool.not_eq_true', bne_eq_false_iff_eq] at this
        exact this.symm
      · rw [if_neg h0]; exact hld
  · exact .inr ⟨by rw [← hall]; exact g1, g2⟩

theorem dimTs_spec {r : Rg} : ∀ (ts pre : List Tn) (d : List Int), Dm d pre → (∀ u ∈ pre, tensorB r u = true) → (∀ u ∈ ts, tensorB r u = true) →
    (consG r pre ts = true ∧ ∃ d', dimTs d ts = some d' ∧ Dm d' (pre ++ ts)) ∨ (consG r pre ts = false ∧ dimTs d ts = none)
  | [], pre, d, hd, hp, ht => .inl ⟨rfl, d, rfl, by rw [List.append_nil]; exact hd⟩
  | t :: ts, pre, d, hd, hp, ht => by
    have ht0 := ht t List.mem_cons_self
    have hc : consG r pre (t :: ts) = (tensorB r t && agreeB pre t && consG r (pre ++ [t]) ts) := rfl
    have hdt : dimTs d (t :: ts) = (dimT d (t.L.zip t.D)).bind fun d' => dimTs d' ts := rfl
    rw [hc, hdt, ht0]
    rcases dimT_step hd hp ht0 with ⟨g1, d', g2, g3⟩ | ⟨g1, g2⟩
    · have hp' : ∀ u ∈ pre ++ [t], tensorB r u = true := fun u hu => by
        rcases List.mem_append.1 hu with h | h
        · exact hp u h
        · simp at h; subst h; exact ht0
      rw [g1, g2]
      rcases dimTs_spec ts (pre ++ [t]) d' g3 hp' (fun u hu => ht u (List.mem_cons_of_mem _ hu)) with ⟨k1, d2, k2, k3⟩ | ⟨k1, k2⟩
      · exact .inl ⟨by rw [k1]; rfl, d2, k2, by rw [List.append_assoc] at k3; exact k3⟩
      · exact .inr ⟨by rw [k1]; rfl, k2⟩
    · rw [g1, g2]
      exact .inr ⟨rfl, rfl⟩

theorem cons_false {r : Rg} : ∀ {ts pre : List Tn}, (ts.all fun t => tensorB r t) = false → consG r pre ts = false
  | [], _, h => by simp at h
  | t :: ts, pre, h => by
    simp only [List.all_cons, Bool.and_eq_false_iff] at h
    have hc : consG r pre (t :: ts) = (tensorB r t && agreeB pre t && consG r (pre ++ [t]) ts) := rfl
    rw [hc]
    rcases h with h | h
    · rw [h]; rfl
    · rw [cons_false h]; simp

theorem sizeB_open {ls ds : List Int} (h : sizeB ls ds ≠ -1) : ls.length ≤ 12 ∧ (∀ x ∈ ls, 0 ≤ x ∧ x ≤ 99) ∧ ∀ d ∈ ds, 1 ≤ d := by
  unfold sizeB at h
  split at h
  · rename_i e
    have h4 := axes_dims e
    simp only [axesB, Bool.and_eq_true, decide_eq_true_eq] at e
    obtain ⟨_, g2⟩ := axesG_facts e.2 e.1.2
    exact ⟨h4.1, fun x hx => ⟨(g2 x hx).1, (g2 x hx).2.1⟩, fun d hd => (h4.2.2 d hd).1⟩
  · exact absurd rfl h

/-- The open labels all have an axis. -/
def openB (d : List Int) (op : List Int) : Bool := op.all fun x => !(decide (x < 0) || decide (x > 99) || d.getD x.toNat 0 == 0)

theorem c_iNetworkOk_1 {H : AH} {u : Sl} {op d : List Int} (h : IS H u op) (hd : d.length = 100) (hl : op.length ≤ 12) : R (.loop F.iNetworkOk 1) [ssc u, isc (op.length : Int), isc 0, .agg (ics d)] H = cond (openB d op) (some ⟨4, [], H⟩) (some ⟨1, [bsc false], H⟩) := by
  have := loopG (F := fun i : Nat => R (.loop F.iNetworkOk 1) [ssc u, isc (op.length : Int), isc (i : Int), .agg (ics d)] H) (l := op) (fun q _ => cond (openB d q) (some ⟨4, [], H⟩) (some ⟨1, [bsc false], H⟩))
    (by rw [R_eq, e_iNetworkOk_1, lt_self]; rfl) (fun i hi q hq => by
      rw [R_eq, e_iNetworkOk_1, h.ldk hi, lt_true hi, w1 hi (by omega), cond_true]
      have hc : openB d (op[i] :: q) = (!(decide (op[i] < 0) || decide (op[i] > 99) || d.getD op[i].toNat 0 == 0) && openB d q) := rfl
      rw [hc]
      by_cases h1 : op[i] < 0
      · simp [h1]
      by_cases h2 : op[i] > 99
      · simp [h1, h2]
      rw [ixA_100 (by omega) (by omega)]
      have hlt : op[i].toNat < d.length := by omega
      simp only [h1, h2, decide_false, cond_false, Option.bind_some, int_at hlt, Bool.false_or]
      cases he : d.getD op[i].toNat 0 == 0 with
      | true => rfl
      | false => simp only [cond_false, Bool.not_false, Bool.true_and]; exact hq)
  exact this

/-- impl.NetworkOk -/
theorem c_iNetworkOk {H : AH} {s u : Sl} {n : Nw} (h : NS H s u n) (ho : n.op.length ≤ 1048576) : ∃ H', R (.fn F.iNetworkOk) [npv n.r s u] H = some ⟨1, [bsc (netB n)], H'⟩ ∧ Le H H' := by
  unfold netB
  cases hr : ringB n.r with
  | false => exact ⟨H, by rw [R_eq, e_iNetworkOk, c_iRingOk, hr]; rfl, Le.refl H⟩
  | true =>
  by_cases hl : n.ts.length ≤ 12
  · have hl' : ¬ (n.ts.length : Int) > 12 := by omega
    have hld : decide (n.ts.length ≤ 12) = true := by simpa using hl
    by_cases hop : n.op.length ≤ 12
    · have hop' : ¬ (n.op.length : Int) > 12 := by omega
      have lp := loop_any (F := fun i : Nat => R (.loop F.iNetworkOk 0) [ssc s, isc (n.ts.length : Int), isc (i : Int), npv n.r s u] H) (l := n.ts) (fun t => !tensorB n.r t) (some ⟨1, [bsc false], H⟩) (some ⟨2, [], H⟩)
        (by rw [R_eq, e_iNetworkOk_0, lt_self]; rfl) (fun i hi => by
          obtain ⟨a, b, c, hT, hk⟩ := h.ts.ld hi
          rw [R_eq, e_iNetworkOk_0, lt_true hi, w1 hi (by omega), cond_true, hk, c_iTensorOk n.r hT]
          simp only [Option.bind_some, one_bool]
          rcases Bool.eq_false_or_eq_true (tensorB n.r n.ts[i]) with hb | hb <;> simp [hb])
      have lp : R (.loop F.iNetworkOk 0) [ssc s, isc (n.ts.length : Int), isc 0, npv n.r s u] H = _ := lp
      have hany : (n.ts.any fun t => !tensorB n.r t) = !(n.ts.all fun t => tensorB n.r t) := by
        generalize n.ts = l
        induction l with
        | nil => rfl
        | cons x l ih => simp only [List.any_cons, List.all_cons, ih, Bool.not_and]
      rw [hany] at lp
      rcases Bool.eq_false_or_eq_true (n.ts.all fun t => tensorB n.r t) with hall | hall
      · have hm : ∀ t ∈ n.ts, tensorB n.r t = true := List.all_eq_true.1 hall
        rw [hall] at lp
        have hD0 : Dm (List.replicate 100 0) [] := ⟨by simp, fun y _ _ => by
          simp only [List.getD_eq_getElem?_getD, List.getElem?_replicate]
          split <;> rfl⟩
        have sp := dimTs_spec n.ts [] _ hD0 (fun _ h => by simp at h) hm
        rw [List.nil_append] at sp
        have cd := c_idimsOf h.ts hl fun t ht => (tensor_facts (hm t ht)).1
        rcases sp with ⟨k1, d, k2, k3⟩ | ⟨k1, k2⟩
        · rcases cd with ⟨d', e1, e2, e3⟩ | ⟨e1, _⟩
          · rw [k2] at e1; cases e1
            have hz : (zc P Y.t100_int).length = 100 := by rw [zc_dims]; simp
            have hdl : (ics d).length = 100 := by simp [e2]
            have e6 : setAll (zc P Y.t100_int) 0 (ics d) = ics d := setAll_full (by rw [hdl, hz])
            have e7 : (List.take 100 (List.drop 0 (ics d))) = ics d := by rw [List.drop_zero, List.take_of_length_le (by omega)]
            have hco := c_iNetworkOk_1 h.op e2 hop
            rw [k1, hld]
            cases hob : openB d n.op with
            | false =>
              rw [hob] at hco
              have : sizeB n.op (n.op.map (dimF n.ts)) = -1 := Decidable.byContradiction fun hne => by
                obtain ⟨q1, q2, q3⟩ := sizeB_open hne
                have : openB d n.op = true := by
                  unfold openB
                  refine List.all_eq_true.2 fun x hx => ?_
                  obtain ⟨x0, x1⟩ := q2 x hx
                  have hd1 := q3 (dimF n.ts x) (List.mem_map.2 ⟨x, hx, rfl⟩)
                  have h1 : ¬ x < 0 := by omega
                  have h2 : ¬ x > 99 := by omega
                  have h3 : ¬ d.getD x.toNat 0 = 0 := by rw [k3.get x x0 x1]; omega
                  simp only [h1, h2, decide_false, Bool.false_or, bf h3, Bool.not_false]
                rw [hob] at this; cases this
              refine ⟨H, ?_, Le.refl H⟩
              rw [R_eq, e_iNetworkOk, c_iRingOk, hr, h.ts.1, h.op.n, this]
              simp only [Option.bind_some, one_bool, Bool.not_true, cond_false, hl', hop', decide_false]
              rw [lp]
              simp only [Bool.not_true, Bool.false_eq_true, if_false, Option.bind_some, Nat.beq, cond_true, cond_false]
              rw [e3]
              simp only [Option.bind_some, lenP, List.length_cons, List.length_nil, if_true, nthP, List.getElem?_cons_zero, List.getElem?_cons_succ, PV.agg?, PV.sc?, boolAt, hdl, hz, decide_true, cond_true, Nat.beq, Nat.zero_add, Nat.le_refl, Bool.not_true, cond_false, e6]
              rw [hco]
              rfl
            | true =>
              rw [hob] at hco
              have hor : ∀ x ∈ n.op, 0 ≤ x ∧ x ≤ 99 := fun x hx => by
                have := List.all_eq_true.1 hob x hx
                simp only [Bool.not_eq_true', Bool.or_eq_false_iff, decide_eq_false_iff_not] at this
                omega
              obtain ⟨a, b, H', g1, g2, g3, g4⟩ := c_iaxesOf e2 h.op (by omega) hor
              have hmap : (n.op.map fun x => d.getD x.toNat 0) = n.op.map (dimF n.ts) := List.map_congr_left fun x hx => by
                obtain ⟨x0, x1⟩ := hor x hx
                exact k3.get x x0 x1
              rw [hmap] at g4
              refine ⟨H', ?_, g2⟩
              rw [R_eq, e_iNetworkOk, c_iRingOk, hr, h.ts.1, h.op.n]
              simp only [Option.bind_some, one_bool, Bool.not_true, cond_false, hl', hop', decide_false]
              rw [lp]
              simp only [Bool.not_true, Bool.false_eq_true, if_false, Option.bind_some, Nat.beq, cond_true, cond_false]
              rw [e3]
              simp only [Option.bind_some, lenP, List.length_cons, List.length_nil, if_true, nthP, List.getElem?_cons_zero, List.getElem?_cons_succ, PV.agg?, PV.sc?, boolAt, hdl, hz, decide_true, cond_true, Nat.beq, Nat.zero_add, Nat.le_refl, Bool.not_true, cond_false, e6]
              rw [hco]
              simp only [cond_true, Option.bind_some, Nat.beq, cond_false, hdl, Nat.le_refl, decide_true, e7]
              rw [g1]
              simp only [Option.bind_some, oneP, PV.agg?, List.length_cons, List.length_nil, decide_true, cond_true, slAt, List.getElem?_cons_zero, List.getElem?_cons_succ]
              rw [c_iTensorSize g3 g4]
              simp only [Option.bind_some, one_int, oneP, PV.sc?, intAt, List.getElem?_cons_zero, if_true]
              by_cases hz : sizeB n.op (n.op.map (dimF n.ts)) = -1
              · rw [hz]; rfl
              · have h1 : (sizeB n.op (n.op.map (dimF n.ts)) != -1) = true := by simpa using hz
                have h2 : decide (sizeB n.op (n.op.map (dimF n.ts)) ≠ -1) = true := by simpa using hz
                rw [h1, h2]; rfl
          · rw [k2] at e1; cases e1
        · rcases cd with ⟨d', e1, _⟩ | ⟨e1, l, e2, e3⟩
          · rw [k2] at e1; cases e1
          · have hz : (zc P Y.t100_int).length = 100 := by rw [zc_dims]; simp
            rw [k1, hld]
            refine ⟨H, ?_, Le.refl H⟩
            rw [R_eq, e_iNetworkOk, c_iRingOk, hr, h.ts.1, h.op.n]
            simp only [Option.bind_some, one_bool, Bool.not_true, cond_false, hl', hop', decide_false]
            rw [lp]
            simp only [Bool.not_true, Bool.false_eq_true, if_false, Option.bind_some, Nat.beq, cond_true, cond_false]
            rw [e3]
            simp only [Option.bind_some, lenP, List.length_cons, List.length_nil, if_true, nthP, List.getElem?_cons_zero, List.getElem?_cons_succ, PV.agg?, PV.sc?, boolAt, e2, hz, decide_true, cond_true, Nat.beq, Nat.zero_add, Nat.le_refl, Bool.not_false]
            rfl
      · rw [hall] at lp
        have hc : consG n.r [] n.ts = false := cons_false hall
        rw [hc]
        refine ⟨H, ?_, Le.refl H⟩
        rw [R_eq, e_iNetworkOk, c_iRingOk, hr, h.ts.1, h.op.n]
        simp only [Option.bind_some, one_bool, Bool.not_true, cond_false, hl', hop', decide_false]
        rw [lp]
        simp [nthP, PV.sc?, boolAt]
    · have hop' : (n.op.length : Int) > 12 := by omega
      have : sizeB n.op (n.op.map (dimF n.ts)) = -1 := Decidable.byContradiction fun hne => hop (sizeB_open hne).1
      refine ⟨H, ?_, Le.refl H⟩
      rw [R_eq, e_iNetworkOk, c_iRingOk, hr, h.ts.1, h.op.n, this]
      simp [oneP, PV.sc?, boolAt, hl', hop']
  · refine ⟨H, ?_, Le.refl H⟩
    rw [R_eq, e_iNetworkOk, c_iRingOk, hr, h.ts.1]
    have hl' : (n.ts.length : Int) > 12 := by omega
    simp [oneP, PV.sc?, boolAt, hl', hl]
end Go.Abs
/- Contracts: rows of rows; the law's own helpers that only read. -/
namespace Go.Abs
set_option linter.unusedVariables false
set_option linter.unusedSimpArgs false

/-- A row of rows of whole numbers. -/
def I2 (H : AH) (s : Sl) (ll : List (List Int)) : Prop := s.n = ll.length ∧ s.n ≤ s.c ∧ (ll = [] ∨ ∃ cs, rdB H s.b = some cs ∧ ∀ (i : Nat) l, ll[i]? = some l → ∃ a, cs[s.o + i]? = some (.sl a) ∧ IS H a l)
theorem I2.le {H H' : AH} (h : Le H H') {s : Sl} {ll : List (List Int)} (k : I2 H s ll) : I2 H' s ll :=
  ⟨k.1, k.2.1, k.2.2.imp id fun ⟨cs, h1, h2⟩ => ⟨cs, h.rdB h1, fun i l hi => let ⟨a, e1, e2⟩ := h2 i l hi; ⟨a, e1, e2.le h⟩⟩⟩
theorem I2.ld {H : AH} {s : Sl} {ll : List (List Int)} (h : I2 H s ll) {i : Nat} (hi : i < ll.length) : ∃ a, IS H a ll[i] ∧ ∀ {α : Type} (k : Sl → Option α),
    ((ixA s (i : Int) 1).bind fun o => (rdB H s.b).bind fun q => (slAt q o).bind k) = k a := by
  obtain ⟨hn, _, rfl | ⟨cs, h1, h2⟩⟩ := h
  · simp at hi
  · obtain ⟨a, e1, e2⟩ := h2 i _ (List.getElem?_eq_getElem hi)
    refine ⟨a, e2, fun k => ?_⟩
    rw [ixA_nat (by omega)]
    simp only [Option.bind_some, h1, Nat.mul_one, slAt_get e1]

/-- laws.szIntS -/
theorem c_wszIntS (s : Sl) (left : Int) (h0 : 0 ≤ left) (h1 : left ≤ 1048576) (hs : s.n ≤ 9223372036854775807) (H : AH) : R (.fn F.wszIntS) [ssc s, isc left] H = some ⟨1, [isc (if left - s.n < 0 then -1 else left - s.n)], H⟩ := by
  rw [R_eq, e_wszIntS]
  have : IntKind.wrap .i64 (left - (s.n : Int)) = left - s.n := by rw [wrap_id] <;> omega
  rw [this]
  by_cases h : left - (s.n : Int) < 0
  · simp [h]
  · simp [h]

/-- laws.eqIntS -/
theorem c_weqIntS_0 {H : AH} {a b : Sl} {l m : List Int} (ha : IS H a l) (hb : IS H b m) (hl : l.length = m.length) (hm : l.length ≤ 1048576) : R (.loop F.weqIntS 0) [ssc a, ssc b, isc 0] H = cond (l == m) (some ⟨2, [], H⟩) (some ⟨1, [bsc false], H⟩) := by
  have := loopG (F := fun i : Nat => R (.loop F.weqIntS 0) [ssc a, ssc b, isc (i : Int)] H) (l := l) (fun q i => cond (q == m.drop i) (some ⟨2, [], H⟩) (some ⟨1, [bsc false], H⟩))
    (by rw [R_eq, e_weqIntS_0, ha.n, lt_self, List.drop_eq_nil_of_le (by omega)]; rfl) (fun i hi q hq => by
      have hi2 : i < m.length := by omega
      rw [R_eq, e_weqIntS_0, ha.n, ha.ldk hi, lt_true hi, w1 hi (by omega), cond_true, hb.ldk hi2, List.drop_eq_getElem_cons hi2]
      have hc : (l[i] :: q == m[i] :: m.drop (i + 1)) = (l[i] == m[i] && q == m.drop (i + 1)) := rfl
      rw [hc]
      by_cases h : l[i] = m[i]
      · have h1 : (l[i] != m[i]) = false := by simp [h]
        have h2 : (l[i] == m[i]) = true := by simp [h]
        rw [h1, h2, cond_false, Bool.true_and]; exact hq
      · have h1 : (l[i] != m[i]) = true := by simp [h]
        rw [h1, bf h]; rfl)
  exact this
theorem c_weqIntS {H : AH} {a b : Sl} {l m : List Int} (ha : IS H a l) (hb : IS H b m) (hm : l.length ≤ 1048576) : R (.fn F.weqIntS) [ssc a, ssc b] H = some ⟨1, [bsc (l == m)], H⟩ := by
  rw [R_eq, e_weqIntS, ha.n, hb.n]
  by_cases h : l.length = m.length
  · have h1 : ((l.length : Int) != (m.length : Int)) = false := by rw [h]; simp
    rw [h1, c_weqIntS_0 ha hb h hm]
    cases l == m <;> rfl
  · have h1 : ((l.length : Int) != (m.length : Int)) = true := by simp; omega
    have h2 : (l == m) = false := by
      rw [beq_eq_false_iff_ne]; rintro rfl; exact h rfl
    rw [h1, h2]; rfl

/- What reads alike is equal. -/
theorem c52_eq {H : AH} {a b : Sl} {l : List Int} (ha : IS H a l) (hb : IS H b l) (hm : l.length ≤ 1048576) : R (.fn F.weqIntS) [ssc a, ssc b] H = some ⟨1, [bsc true], H⟩ := by
  rw [c_weqIntS ha hb hm]; simp

theorem loop_all {α β : Type} {F : Nat → β} {l : List α} (fin : β) (hend : F l.length = fin) (hstep : ∀ i (h : i < l.length), F i = F (i + 1)) : F 0 = fin :=
  loopG (F := F) (l := l) (fun _ _ => fin) hend fun i h r hr => by rw [hstep i h]; exact hr

def TnSmall (t : Tn) : Prop := t.L.length ≤ 1048576 ∧ t.D.length ≤ 1048576 ∧ t.X.length ≤ 1048576
/-- laws.eqTensor -/
theorem c11_eq {H : AH} {a b c a' b' c' : Sl} {t : Tn} (h : TS H a b c t) (k : TS H a' b' c' t) (hs : TnSmall t) : R (.fn F.weqTensor) [tpv a b c, tpv a' b' c'] H = some ⟨1, [bsc true], H⟩ := by
  rw [R_eq, e_weqTensor, c52_eq h.L k.L hs.1]
  simp only [Option.bind_some, one_bool, Bool.not_true, cond_false]
  rw [c52_eq h.D k.D hs.2.1]
  simp only [Option.bind_some, one_bool, Bool.not_true, cond_false]
  rw [c52_eq h.X k.X hs.2.2]
  rfl
/-- laws.eqTensorS -/
theorem c75_eq {H : AH} {a b : Sl} {ts : List Tn} (ha : T3 H a ts) (hb : T3 H b ts) (hm : ts.length ≤ 1048576) (hl : ∀ t ∈ ts, TnSmall t) : R (.fn F.weqTensorS) [ssc a, ssc b] H = some ⟨1, [bsc true], H⟩ := by
  have := loop_all (F := fun i : Nat => R (.loop F.weqTensorS 0) [ssc a, ssc b, isc (i : Int)] H) (l := ts) (some ⟨2, [], H⟩)
    (by rw [R_eq, e_weqTensorS_0, ha.1, lt_self]; rfl) (fun i hi => by
      obtain ⟨x, y, z, hx, kx⟩ := ha.ld hi
      obtain ⟨x', y', z', hx', kx'⟩ := hb.ld hi
      rw [R_eq, e_weqTensorS_0, ha.1, lt_true hi, w1 hi (by omega), cond_true, kx, kx', c11_eq hx hx' (hl _ (List.getElem_mem hi))]
      rfl)
  have this : R (.loop F.weqTensorS 0) [ssc a, ssc b, isc 0] H = some ⟨2, [], H⟩ := this
  rw [R_eq, e_weqTensorS, ha.1, hb.1, this]
  simp [Nat.beq]
end Go.Abs
/- Contracts: formulas. -/
namespace Go.Abs
set_option linter.unusedVariables false
set_option linter.unusedSimpArgs false

end Go.Abs
/- Contracts: rows that are filled. -/
namespace Go.Abs
set_option linter.unusedVariables false
set_option linter.unusedSimpArgs false

/-- A new row is filled place by place, while what was there before stays. -/
theorem set_le {H0 Hc : AH} {b : Nat} {k : Blk} (h : Le H0 Hc) (hb : H0.length ≤ b) : Le H0 (Hc.set b k) :=
  ⟨by simp; exact h.len, fun c hc => by rw [List.getElem?_set_ne (by omega)]; exact h.get c hc⟩

/-- laws.toIntS -/
theorem c_wtoIntS {H : AH} {s : Sl} {l : List Int} (h : IS H s l) (hl : l.length ≤ 1048576) : ∃ H', R (.fn F.wtoIntS) [ssc s] H = some ⟨1, [ssc ⟨H.length, 0, l.length, l.length, true⟩], H'⟩ ∧ Le H H' ∧ H'.length = H.length + 1 ∧ H'[H.length]? = some ⟨ics l, .rw, 1⟩ := by
  have loop : ∀ (k i : Nat), i + k = l.length → ∀ (Hc : AH) (cs : List Int), Le H Hc → Hc.length = H.length + 1 → Hc[H.length]? = some ⟨ics cs, .rw, 1⟩ → cs.length = l.length → (∀ j x, j < i → l[j]? = some x → cs[j]? = some x) →
      ∃ H', R (.loop F.wtoIntS 0) [ssc s, ssc ⟨H.length, 0, l.length, l.length, true⟩, isc (i : Int)] Hc = some ⟨2, [], H'⟩ ∧ Le H H' ∧ H'.length = H.length + 1 ∧ H'[H.length]? = some ⟨ics l, .rw, 1⟩ := by
    intro k
    induction k with
    | zero =>
      intro i hi Hc cs hle hlen hb hcl hcs
      obtain rfl : i = l.length := by omega
      refine ⟨Hc, by rw [R_eq, e_wtoIntS_0, h.n, lt_self]; rfl, hle, hlen, ?_⟩
      have : cs = l := by
        refine List.ext_getElem? fun j => ?_
        rcases Nat.lt_or_ge j l.length with hj | hj
        · rw [hcs j l[j] hj (List.getElem?_eq_getElem hj), List.getElem?_eq_getElem hj]
        · rw [List.getElem?_eq_none (by omega), List.getElem?_eq_none hj]
      rw [← this]; exact hb
    | succ k ih =>
      intro i hi Hc cs hle hlen hb hcl hcs
      have hlt : i < l.length := by omega
      rw [R_eq, e_wtoIntS_0, h.n, lt_true hlt, w1 hlt (by omega), cond_true, (h.le hle).ldk hlt]
      rw [put_own hb hlt (by omega)]
      refine ih (i + 1) (by omega) _ (cs.set i l[i]) (set_le hle (Nat.le_refl _)) (by simpa using hlen) (by simp [hlen]) (by simp [hcl]) (fun j x hj hjx => ?_)
      by_cases e : i = j
      · subst e
        rw [List.getElem?_eq_getElem hlt] at hjx
        cases hjx
        simp [hcl, hlt]
      · rw [List.getElem?_set_ne e]; exact hcs j x (by omega) hjx
  have hm := mk_ints (H := H) (n := l.length) (by omega)
  obtain ⟨H', e, l1, l2, b1⟩ := loop l.length 0 (by omega) (H ++ [⟨ics (List.replicate l.length 0), .rw, 1⟩]) (List.replicate l.length 0) (Le.app _ _) (by simp) (by simp) (by simp) (fun j x hj => by omega)
  have e : R (.loop F.wtoIntS 0) [ssc s, ssc ⟨H.length, 0, l.length, l.length, true⟩, isc 0] (H ++ [⟨ics (List.replicate l.length 0), .rw, 1⟩]) = some ⟨2, [], H'⟩ := e
  refine ⟨H', ?_, l1, l2, b1⟩
  rw [R_eq, e_wtoIntS, h.n, hm]
  simp only [Option.bind_some]
  rw [e]; rfl

@[reducible] def rowAt (b : Nat) (l : List Int) : Sl := ⟨b, 0, l.length, l.length, true⟩

end Go.Abs
/- Contracts: marks, and whether they are held. -/
namespace Go.Abs
set_option linter.unusedVariables false
set_option linter.unusedSimpArgs false

def seqL (k : Int) : Nat → List Int
  | 0 => []
  | n + 1 => k :: seqL (k + 1) n
theorem seqL_len : ∀ (n : Nat) (k : Int), (seqL k n).length = n
  | 0, k => rfl
  | n + 1, k => by simp [seqL, seqL_len n]
theorem seqL_get : ∀ (n : Nat) (k : Int) (i : Nat), i < n → (seqL k n)[i]? = some (k + i)
  | n + 1, k, 0, _ => by simp [seqL]
  | n + 1, k, i + 1, h => by
    simp only [seqL, List.getElem?_cons_succ]
    rw [seqL_get n (k + 1) i (by omega)]
    congr 1; omega

/-- laws.markIntS -/
theorem c_wmarkIntS {n0 : Nat} {H : AH} {s : Sl} {l : List Int} (h : Own n0 H s l) (hl : l.length ≤ 4194304) {k : Int} (h0 : 0 ≤ k) (h1 : k ≤ 1099511627776) :
    ∃ H', R (.fn F.wmarkIntS) [ssc s, isc k] H = some ⟨1, [isc (k + l.length)], H'⟩ ∧ H'.length = H.length ∧ (∀ b, (b ≠ s.b ∨ l = []) → H'[b]? = H[b]?) ∧ Own n0 H' s (seqL k l.length) := by
  obtain ⟨b, o, n, c, x⟩ := s
  have ho := h.o; have hn := h.n; have hc := h.c
  simp only at ho hn hc
  subst ho; subst hn; subst hc
  by_cases hl0 : l = []
  · subst hl0
    refine ⟨H, ?_, rfl, fun _ _ => rfl, h⟩
    have : R (.loop F.wmarkIntS 0) [ssc ⟨b, 0, 0, 0, x⟩, isc k, isc 0] H = some ⟨2, [isc k], H⟩ := by
      rw [R_eq, e_wmarkIntS_0]; rfl
    rw [R_eq, e_wmarkIntS]
    simp only [List.length_nil]
    rw [this]
    simp [nthP, PV.sc?, intAt, Nat.beq]
  · have hb : H[b]? = some ⟨ics l, .rw, 1⟩ := by
      rcases h.blk with ⟨e, _⟩ | ⟨_, e⟩
      · exact absurd e hl0
      · exact e
    have loop : ∀ (m i : Nat), i + m = l.length → ∀ (Hc : AH) (cs : List Int), Hc.length = H.length → (∀ d, d ≠ b → Hc[d]? = H[d]?) → Hc[b]? = some ⟨ics cs, .rw, 1⟩ → cs.length = l.length → (∀ j, j < i → cs[j]? = some (k + j)) →
        ∃ H', R (.loop F.wmarkIntS 0) [ssc ⟨b, 0, l.length, l.length, x⟩, isc (k + i), isc (i : Int)] Hc = some ⟨2, [isc (k + l.length)], H'⟩ ∧ H'.length = H.length ∧ (∀ d, d ≠ b → H'[d]? = H[d]?) ∧ H'[b]? = some ⟨ics (seqL k l.length), .rw, 1⟩ := by
      intro m
      induction m with
      | zero =>
        intro i hi Hc cs hlen hoth hcb hcl hcs
        obtain rfl : i = l.length := by omega
        refine ⟨Hc, by rw [R_eq, e_wmarkIntS_0, lt_self]; rfl, hlen, hoth, ?_⟩
        have : cs = seqL k l.length := by
          refine List.ext_getElem? fun j => ?_
          rcases Nat.lt_or_ge j l.length with hj | hj
          · rw [hcs j hj, seqL_get _ _ _ hj]
          · rw [List.getElem?_eq_none (by omega), List.getElem?_eq_none (by rw [seqL_len]; exact hj)]
        rw [← this]; exact hcb
      | succ m ih =>
        intro i hi Hc cs hlen hoth hcb hcl hcs
        have hlt : i < l.length := by omega
        have hw : IntKind.wrap .i64 (k + (i : Int) + 1) = k + ((i + 1 : Nat) : Int) := by rw [wrap_id] <;> omega
        have hbl : b < Hc.length := (List.getElem?_eq_some_iff.1 hcb).1
        rw [R_eq, e_wmarkIntS_0, lt_true hlt, w1 hlt hl, cond_true, hw]
        rw [put_own hcb hlt (by omega)]
        refine ih (i + 1) (by omega) _ (cs.set i (k + i)) (by simpa using hlen) (fun d hd => by rw [List.getElem?_set_ne (Ne.symm hd)]; exact hoth d hd) (by rw [List.getElem?_set_self hbl]) (by simpa using hcl) (fun j hj => ?_)
        by_cases e : i = j
        · subst e; rw [List.getElem?_set_self (by omega)]
        · rw [List.getElem?_set_ne e]; exact hcs j (by omega)
    obtain ⟨H', e, l1, o1, b1⟩ := loop l.length 0 (by omega) H l rfl (fun _ _ => rfl) hb rfl (fun j hj => by omega)
    have e : R (.loop F.wmarkIntS 0) [ssc ⟨b, 0, l.length, l.length, x⟩, isc k, isc 0] H = some ⟨2, [isc (k + l.length)], H'⟩ := by
      have := e
      simp only [Int.natCast_zero, Int.add_zero] at this
      exact this
    refine ⟨H', ?_, l1, fun d hd => ?_, ⟨rfl, by rw [seqL_len], by rw [seqL_len], ?_, ?_⟩⟩
    · rw [R_eq, e_wmarkIntS, e]; rfl
    · rcases hd with hd | hd
      · exact o1 d hd
      · exact absurd hd hl0
    · rcases h.lo with e | e
      · exact absurd e hl0
      · exact .inr e
    · refine .inr ⟨fun e => hl0 ?_, b1⟩
      have := congrArg List.length e
      rw [seqL_len] at this
      exact List.length_eq_zero_iff.1 this

/-- laws.heldIntS, where the marks are held -/
theorem c_wheldIntS {H : AH} {s : Sl} {n : Nat} {k : Int} (h : IS H s (seqL k n)) (hl : n ≤ 4194304) (h0 : 0 ≤ k) (h1 : k ≤ 1099511627776) : R (.fn F.wheldIntS) [ssc s, isc k] H = some ⟨1, [isc (k + n)], H⟩ := by
  have hn : s.n = n := by rw [h.n, seqL_len]
  have loop : ∀ (m i : Nat), i + m = n → R (.loop F.wheldIntS 0) [ssc s, isc (k + i), isc (i : Int)] H = some ⟨2, [isc (k + n)], H⟩ := by
    intro m
    induction m with
    | zero =>
      intro i hi
      obtain rfl : i = n := by omega
      rw [R_eq, e_wheldIntS_0, hn, lt_self]; rfl
    | succ m ih =>
      intro i hi
      have hlt : i < n := by omega
      have hlt' : i < (seqL k n).length := by rw [seqL_len]; exact hlt
      have hx : (seqL k n)[i] = k + i := by
        have := seqL_get n k i hlt
        rw [List.getElem?_eq_getElem hlt'] at this
        exact Option.some.inj this
      have hw : IntKind.wrap .i64 (k + (i : Int) + 1) = k + ((i + 1 : Nat) : Int) := by rw [wrap_id] <;> omega
      rw [R_eq, e_wheldIntS_0, hn, lt_true hlt, w1 hlt hl, cond_true, h.ldk hlt', hx, hw]
      have : ((k + (i : Int)) != (k + (i : Int))) = false := by simp
      rw [this, cond_false]
      exact ih (i + 1) (by omega)
  have e := loop n 0 (by omega)
  simp only [Int.natCast_zero, Int.add_zero] at e
  rw [R_eq, e_wheldIntS]
  rw [show R (.loop F.wheldIntS 0) [.sc (.sl s), .sc (.int .i64 k), .sc (.int .i64 0)] H = _ from e]
  rfl
end Go.Abs
/- Contracts: the rows of a network, marked and held. -/
namespace Go.Abs
set_option linter.unusedVariables false
set_option linter.unusedSimpArgs false

abbrev Row := Sl × List Int
def apartR (p q : Row) : Prop := p.2 = [] ∨ q.2 = [] ∨ p.1.b ≠ q.1.b
/-- Rows of their own, no two of which share a block. -/
structure Rows (n0 : Nat) (H : AH) (rs : List Row) : Prop where
  own : ∀ p ∈ rs, Own n0 H p.1 p.2
  apart : rs.Pairwise apartR

theorem apartR.symm {p q : Row} (h : apartR p q) : apartR q p := by
  rcases h with h | h | h
  · exact .inr (.inl h)
  · exact .inl h
  · exact .inr (.inr (Ne.symm h))

/-- The three rows of a tensor. -/
@[reducible] def rows3 (a b c : Sl) (t : Tn) : List Row := [(a, t.L), (b, t.D), (c, t.X)]
def cntT (t : Tn) : Int := t.L.length + t.D.length + t.X.length
def cntTs : List Tn → Int
  | [] => 0
  | t :: ts => cntT t + cntTs ts
abbrev Tri := Sl × Sl × Sl
def rowsT : List Tri → List Tn → List Row
  | x :: xs, t :: ts => rows3 x.1 x.2.1 x.2.2 t ++ rowsT xs ts
  | _, _ => []

/-- The cells of a row of tensors. -/
def triC : List Tri → List Sc
  | [] => []
  | x :: xs => .sl x.1 :: .sl x.2.1 :: .sl x.2.2 :: triC xs
theorem triC_at : ∀ (xs : List Tri) (i : Nat) (x : Tri), xs[i]? = some x → (triC xs)[i * 3]? = some (.sl x.1) ∧ (triC xs)[i * 3 + 1]? = some (.sl x.2.1) ∧ (triC xs)[i * 3 + 2]? = some (.sl x.2.2)
  | [], i, x, h => by simp at h
  | y :: xs, 0, x, h => by simp at h; subst h; simp [triC]
  | y :: xs, i + 1, x, h => by
    have := triC_at xs i x (by simpa using h)
    have e : (i + 1) * 3 = i * 3 + 3 := by omega
    rw [e]
    simpa [triC, Nat.add_assoc] using this
theorem triC_len : ∀ xs : List Tri, (triC xs).length = xs.length * 3
  | [] => rfl
  | x :: xs => by simp [triC, triC_len xs]; omega

/-- A row of tensors that reads as these, by its triples; its block is kept apart from their rows by its size. -/
structure Outer (H : AH) (s : Sl) (xs : List Tri) : Prop where
  o : s.o = 0
  n : s.n = xs.length
  c : s.n ≤ s.c
  blk : xs = [] ∨ ∃ st cells, H[s.b]? = some ⟨cells, st, 3⟩ ∧ (st = .ro ∨ st = .rw) ∧ ∀ (i : Nat) v, (triC xs)[i]? = some v → cells[i]? = some v
theorem Outer.rd {H : AH} {s : Sl} {xs : List Tri} (h : Outer H s xs) {i : Nat} {x : Tri} (hx : xs[i]? = some x) : ∃ cs, rdB H s.b = some cs ∧ ixA s (i : Int) 3 = some (i * 3) ∧ cs[i * 3]? = some (.sl x.1) ∧ cs[i * 3 + 1]? = some (.sl x.2.1) ∧ cs[i * 3 + 2]? = some (.sl x.2.2) := by
  have hi := (List.getElem?_eq_some_iff.1 hx).1
  rcases h.blk with rfl | ⟨st, cells, hb, hst, hc⟩
  · simp at hi
  · obtain ⟨t1, t2, t3⟩ := triC_at xs i x hx
    refine ⟨cells, ?_, ?_, hc _ _ t1, hc _ _ t2, hc _ _ t3⟩
    · unfold rdB
      rw [hb]
      rcases hst with rfl | rfl <;> rfl
    · rw [ixA_nat (by rw [h.n]; exact hi), h.o, Nat.zero_add]
theorem Outer.keep {H H' : AH} {s : Sl} {xs : List Tri} (h : Outer H s xs) (hb : H'[s.b]? = H[s.b]?) : Outer H' s xs := ⟨h.o, h.n, h.c, h.blk.imp id fun ⟨st, cells, h1, h2⟩ => ⟨st, cells, hb.trans h1, h2⟩⟩

end Go.Abs
/- Contracts: a row of tensors is marked. -/
namespace Go.Abs
set_option linter.unusedVariables false
set_option linter.unusedSimpArgs false

def SmallT (t : Tn) : Prop := t.L.length ≤ 4194304 ∧ t.D.length ≤ 4194304 ∧ t.X.length ≤ 4194304

/-- A network's rows, its open labels last. -/
def rowsN (xs : List Tri) (u : Sl) (n : Nw) : List Row := rowsT xs n.ts ++ [(u, n.op)]
/-- A network of its own. -/
structure OwnN (n0 : Nat) (H : AH) (s u : Sl) (xs : List Tri) (n : Nw) : Prop where
  len : xs.length = n.ts.length
  outer : Outer H s xs
  rows : Rows n0 H (rowsN xs u n)
structure SmallN (n : Nw) : Prop where
  ts : n.ts.length ≤ 4194304
  t : ∀ t ∈ n.ts, SmallT t
  op : n.op.length ≤ 4194304
  cnt : cntTs n.ts ≤ 549755813888

end Go.Abs
/- Contracts: the marks of a network are held. -/
namespace Go.Abs
set_option linter.unusedVariables false
set_option linter.unusedSimpArgs false

end Go.Abs
/- Contracts: a formula is copied, and its copy is marked. -/
namespace Go.Abs
set_option linter.unusedVariables false
set_option linter.unusedSimpArgs false

/-- A copy of rows, as 'toIntSS' lays it from a block on. -/
structure Laid (H : AH) (b0 : Nat) (ll : List (List Int)) (cs : List Sc) : Prop where
  out : H[b0]? = some ⟨cs, .rw, 1⟩
  row : ∀ (j : Nat) l, ll[j]? = some l → cs[j]? = some (.sl (rowAt (b0 + 1 + j) l)) ∧ H[b0 + 1 + j]? = some ⟨ics l, .rw, 1⟩
@[reducible] def outAt (b0 : Nat) (ll : List (List Int)) : Sl := ⟨b0, 0, ll.length, ll.length, true⟩
theorem own_at {n0 b : Nat} {H : AH} {l : List Int} (hn : n0 ≤ b) (h : H[b]? = some ⟨ics l, .rw, 1⟩) : Own n0 H (rowAt b l) l :=
  ⟨rfl, rfl, rfl, .inr hn, by
    by_cases e : l = []
    · exact .inl ⟨e, rfl⟩
    · exact .inr ⟨e, h⟩⟩
theorem Laid.i2 {H : AH} {b0 : Nat} {ll : List (List Int)} {cs : List Sc} (h : Laid H b0 ll cs) : I2 H (outAt b0 ll) ll := by
  refine ⟨rfl, Nat.le_refl _, ?_⟩
  refine .inr ⟨cs, by unfold rdB; rw [h.out]; rfl, fun i l hi => ?_⟩
  obtain ⟨h1, h2⟩ := h.row i l hi
  exact ⟨_, by rw [Nat.zero_add]; exact h1, (own_at (Nat.le_refl _) h2).is⟩

end Go.Abs
/- Contracts: the ring's nought and one; products; a row of twos. -/
namespace Go.Abs
set_option linter.unusedVariables false
set_option linter.unusedSimpArgs false

/-- A new row, told by its block. -/
structure New (H H' : AH) (s : Sl) (l : List Int) : Prop where
  le : Le H H'
  s : s = rowAt H.length l
  len : H'.length = H.length + 1
  blk : H'[H.length]? = some ⟨ics l, .rw, 1⟩
theorem New.own {H H' : AH} {s : Sl} {l : List Int} (h : New H H' s l) : Own H.length H' s l := by rw [h.s]; exact own_at (Nat.le_refl _) h.blk

def zeroR (r : Rg) : List Int := (List.replicate (widthR r).toNat 0).set 0 (if r.k = 4 then r.p else 0)
def oneR (r : Rg) : List Int := (List.replicate (widthR r).toNat 0).set 0 (if r.k = 5 ∨ r.k = 6 then topR r else if r.k = 4 then 0 else 1)
theorem zeroR_len (r : Rg) : (zeroR r).length = (widthR r).toNat := by simp [zeroR]
theorem mk_width {r : Rg} (hr : ringB r = true) {H : AH} : mkB H 1 8 [.int .i64 0] (widthR r) (widthR r) = some (⟨H.length, 0, (widthR r).toNat, (widthR r).toNat, true⟩, H ++ [⟨ics (List.replicate (widthR r).toNat 0), .rw, 1⟩]) := by
  have hw := width_range hr
  have e : widthR r = ((widthR r).toNat : Int) := by omega
  have := mk_ints (H := H) (n := (widthR r).toNat) (by omega)
  rw [← e] at this
  exact this
theorem put_first {H : AH} {n : Nat} {x : Bool} (hn : 0 < n) (v : Int) {α : Type} (k : AH → Option α) :
    ((ixA ⟨H.length, 0, n, n, x⟩ 0 1).bind fun o => (putR (H ++ [⟨ics (List.replicate n 0), .rw, 1⟩]) H.length o [.int .i64 v]).bind k) = k (H ++ [⟨ics ((List.replicate n 0).set 0 v), .rw, 1⟩]) := by
  have := put_own (H := H ++ [⟨ics (List.replicate n 0), .rw, 1⟩]) (b := H.length) (n := n) (x := x) (cs := List.replicate n 0) (by simp) (i := 0) hn (by simpa using hn) v k
  refine Eq.trans this ?_
  congr 1
  simp
theorem new_app (H : AH) (l : List Int) : New H (H ++ [⟨ics l, .rw, 1⟩]) (rowAt H.length l) l := ⟨Le.app _ _, rfl, by simp, by simp⟩

/-- spec.l02Zero -/
theorem c_sl02Zero {r : Rg} (hr : ringB r = true) (H : AH) : ∃ s H', R (.fn F.sl02Zero) [r.pv] H = some ⟨1, [ssc s], H'⟩ ∧ New H H' s (zeroR r) := by
  have hw := width_range hr
  have hpos : 0 < (widthR r).toNat := by omega
  refine ⟨_, _, ?_, new_app H (zeroR r)⟩
  rw [R_eq, e_sl02Zero, c_sl02Width]
  simp only [Option.bind_some, one_int, mk_width hr]
  unfold zeroR
  by_cases h4 : r.k = 4
  · have : (r.k == 4) = true := by simp [h4]
    simp only [this, cond_true, h4, if_true]
    rw [put_first hpos]
    simp
  · simp only [bf h4, cond_false, h4, if_false]
    have : (List.replicate (widthR r).toNat (0 : Int)).set 0 0 = List.replicate (widthR r).toNat 0 := by
      cases (widthR r).toNat with
      | zero => rfl
      | succ n => simp [List.replicate_succ]
    rw [this]
    simp
/-- impl.rawZero -/
theorem c_irawZero {r : Rg} (hr : ringB r = true) (H : AH) : ∃ s H', R (.fn F.irawZero) [r.pv] H = some ⟨1, [ssc s], H'⟩ ∧ New H H' s (zeroR r) := by
  have hw := width_range hr
  have hpos : 0 < (widthR r).toNat := by omega
  refine ⟨_, _, ?_, new_app H (zeroR r)⟩
  rw [R_eq, e_irawZero, c_irawWidth]
  simp only [Option.bind_some, one_int, mk_width hr]
  unfold zeroR
  by_cases h4 : r.k = 4
  · have : (r.k == 4) = true := by simp [h4]
    simp only [this, cond_true, h4, if_true]
    rw [put_first hpos]
    simp
  · simp only [bf h4, cond_false, h4, if_false]
    have : (List.replicate (widthR r).toNat (0 : Int)).set 0 0 = List.replicate (widthR r).toNat 0 := by
      cases (widthR r).toNat with
      | zero => rfl
      | succ n => simp [List.replicate_succ]
    rw [this]
    simp

/-- impl.rawOne -/
theorem c_irawOne {r : Rg} (hr : ringB r = true) (H : AH) : ∃ s H', R (.fn F.irawOne) [r.pv] H = some ⟨1, [ssc s], H'⟩ ∧ New H H' s (oneR r) := by
  have hw := width_range hr
  have hpos : 0 < (widthR r).toNat := by omega
  have h60 : r.k = 6 → 0 ≤ r.n := fun e => by have := ring6 hr e; omega
  refine ⟨_, _, ?_, new_app H (oneR r)⟩
  rw [R_eq, e_irawOne, c_irawWidth]
  simp only [Option.bind_some, one_int, mk_width hr]
  unfold oneR
  by_cases h4 : r.k = 4
  · have h5 : ¬ (r.k = 5 ∨ r.k = 6) := by omega
    have e4 : (r.k == 4) = true := by simp [h4]
    rw [if_neg h5, if_pos h4, e4, cond_true, put_first hpos]
    simp
  by_cases h5 : r.k = 5
  · have e5 : (r.k == 5) = true := by simp [h5]
    have ht : topR r = r.p := by unfold topR; simp [h5]
    rw [if_pos (.inl h5), bf h4, cond_false, e5, cond_true, put_first hpos, ht]
    simp
  by_cases h6 : r.k = 6
  · have e6 : (r.k == 6) = true := by simp [h6]
    rw [if_pos (.inr h6), bf h4, cond_false, bf h5, cond_false, e6, cond_true, c_irawTop r h60]
    simp only [Option.bind_some, one_int]
    rw [put_first hpos]
    simp
  · have h56 : ¬ (r.k = 5 ∨ r.k = 6) := by omega
    rw [if_neg h56, if_neg h4, bf h4, cond_false, bf h5, cond_false, bf h6, cond_false, put_first hpos]
    simp

/-- spec.l02One -/
theorem c_sl02One {r : Rg} (hr : ringB r = true) (H : AH) : ∃ s H', R (.fn F.sl02One) [r.pv] H = some ⟨1, [ssc s], H'⟩ ∧ New H H' s (oneR r) := by
  have hw := width_range hr
  have hpos : 0 < (widthR r).toNat := by omega
  have h60 : r.k = 6 → 0 ≤ r.n := fun e => by have := ring6 hr e; omega
  refine ⟨_, _, ?_, new_app H (oneR r)⟩
  rw [R_eq, e_sl02One, c_sl02Width]
  simp only [Option.bind_some, one_int, mk_width hr]
  unfold oneR
  by_cases h56 : r.k = 5 ∨ r.k = 6
  · have e : ∀ X : AH, (((cond (r.k == 5) (some (⟨0, [.sc (.bool (r.k == 5))], X⟩ : Out)) (some ⟨0, [.sc (.bool (r.k == 6))], X⟩)) : Option Out)) = some ⟨0, [.sc (.bool true)], X⟩ := fun X => by
      rcases h56 with h | h <;> simp [h]
    rw [e, if_pos h56]
    simp only [Option.bind_some, Nat.beq, cond_true, nth_bool, c_sl02Top r h60, one_int]
    rw [put_first hpos]
    simp
  · have h5 : ¬ r.k = 5 := fun h => h56 (.inl h)
    have h6 : ¬ r.k = 6 := fun h => h56 (.inr h)
    rw [if_neg h56, bf h5, bf h6]
    simp only [cond_false, Option.bind_some, Nat.beq, cond_true, nth_bool]
    by_cases h4 : r.k = 4
    · have e4 : (r.k == 4) = true := by simp [h4]
      rw [if_pos h4, e4, cond_true, put_first hpos]
      simp
    · rw [if_neg h4, bf h4, cond_false, put_first hpos]
      simp
end Go.Abs
/- Contracts: products; a row of twos. -/
namespace Go.Abs
set_option linter.unusedVariables false
set_option linter.unusedSimpArgs false

def prodI : Int → List Int → Int
  | a, [] => a
  | a, d :: l => prodI (a * d) l
/-- impl.productOf, of few and small numbers -/
theorem c_iproductOf {H : AH} {s : Sl} {l : List Int} (h : IS H s l) (hm : l.length ≤ 12) (hd : ∀ d ∈ l, 1 ≤ d ∧ d ≤ 8) : R (.fn F.iproductOf) [ssc s] H = some ⟨1, [isc (prodI 1 l)], H⟩ := by
  have := loopS (F := fun (a : Int) (i : Nat) => R (.loop F.iproductOf 0) [isc a, ssc s, isc (l.length : Int), isc (i : Int)] H) (l := l) (fun a i => 0 ≤ a ∧ a ≤ 8 ^ i) (fun a l _ => some ⟨2, [isc (prodI a l)], H⟩)
    (fun a _ => by rw [R_eq, e_iproductOf_0, lt_self]; rfl) (fun a i hi r ha ih => by
      rw [R_eq, e_iproductOf_0, h.ldk hi, lt_true hi, w1 hi (by omega)]
      have hdi := hd l[i] (List.getElem_mem hi)
      have h1 : 0 ≤ a * l[i] := Int.mul_nonneg ha.1 (by omega)
      have h2 : a * l[i] ≤ 8 ^ i * 8 := Int.mul_le_mul ha.2 hdi.2 (by omega) (by have : (0 : Int) < 8 ^ i := Int.pow_pos (by omega); omega)
      have h3 : (8 : Int) ^ i * 8 = 8 ^ (i + 1) := (Int.pow_succ 8 i).symm
      have h4 : (8 : Int) ^ (i + 1) ≤ 8 ^ 12 := by exact_mod_cast Nat.pow_le_pow_right (n := 8) (by omega) (show i + 1 ≤ 12 by omega)
      have e1 : IntKind.wrap .i64 (a * l[i]) = a * l[i] := by rw [wrap_id] <;> omega
      simp only [cond_true, e1, prodI]
      exact ih _ ⟨h1, by omega⟩) 1 (by simp)
  have this : R (.loop F.iproductOf 0) [isc 1, ssc s, isc (l.length : Int), isc 0] H = some ⟨2, [isc (prodI 1 l)], H⟩ := this
  rw [R_eq, e_iproductOf, h.n, this]
  rfl
end Go.Abs
/- Words: owned rows that change; numbers read from and written to owned blocks. -/
namespace Go.Abs
set_option linter.unusedVariables false
set_option linter.unusedSimpArgs false

/-- A row in the midst of others is changed or replaced. -/
theorem Rows.upd {n0 : Nat} {H H' : AH} {xs ys : List Row} {p : Row} (h : Rows n0 H (xs ++ p :: ys)) {s' : Sl} {l' : List Int} (ho : Own n0 H' s' l')
    (hf : ∀ b, b < H.length → (b ≠ p.1.b ∨ p.2 = []) → H'[b]? = H[b]?) (hs : l' ≠ [] → H.length ≤ s'.b ∨ (s'.b = p.1.b ∧ p.2 ≠ [])) : Rows n0 H' (xs ++ (s', l') :: ys) := by
  have hpa := h.apart
  rw [List.pairwise_append] at hpa
  obtain ⟨pa1, pa2, pa3⟩ := hpa
  rw [List.pairwise_cons] at pa2
  have hother : ∀ q : Row, apartR p q → Own n0 H q.1 q.2 → Own n0 H' q.1 q.2 := fun q hq ho => ho.mono fun hne => hf _ (ho.lt hne) (by
    rcases hq with hq | hq | hq
    · exact .inr hq
    · exact absurd hq hne
    · exact .inl (Ne.symm hq))
  have tr : ∀ q : Row, apartR p q → Own n0 H q.1 q.2 → apartR (s', l') q := fun q hq ho => by
    by_cases e1 : l' = []
    · exact .inl e1
    by_cases e2 : q.2 = []
    · exact .inr (.inl e2)
    refine .inr (.inr ?_)
    have hlt := ho.lt e2
    rcases hs e1 with h | ⟨h, hp⟩
    · show s'.b ≠ q.1.b; omega
    · rcases hq with hq | hq | hq
      · exact absurd hq hp
      · exact absurd hq e2
      · show s'.b ≠ q.1.b; rw [h]; exact hq
  refine ⟨fun q hq => ?_, ?_⟩
  · rcases List.mem_append.1 hq with hq | hq
    · exact hother q (pa3 q hq p (by simp)).symm (h.own q (by simp [hq]))
    · rcases List.mem_cons.1 hq with rfl | hq
      · exact ho
      · exact hother q (pa2.1 q hq) (h.own q (by simp [hq]))
  · rw [List.pairwise_append, List.pairwise_cons]
    refine ⟨pa1, ⟨fun q hq => tr q (pa2.1 q hq) (h.own q (by simp [hq])), pa2.2⟩, fun q hq q' hq' => ?_⟩
    rcases List.mem_cons.1 hq' with rfl | hq'
    · exact (tr q (pa3 q hq p (by simp)).symm (h.own q (by simp [hq]))).symm
    · exact pa3 q hq q' (by simp [hq'])
theorem Rows.frame {n0 : Nat} {H H' : AH} {rs : List Row} (h : Rows n0 H rs) (hf : ∀ p ∈ rs, p.2 ≠ [] → H'[p.1.b]? = H[p.1.b]?) : Rows n0 H' rs := ⟨fun p hp => (h.own p hp).mono fun hne => hf p hp hne, h.apart⟩
theorem Rows.le {n0 : Nat} {H H' : AH} {rs : List Row} (h : Rows n0 H rs) (hb : Le H H') : Rows n0 H' rs := ⟨fun p hp => (h.own p hp).le hb, h.apart⟩
theorem Rows.low {n0 n1 : Nat} {H : AH} {rs : List Row} (h : Rows n0 H rs) (hn : n1 ≤ n0) : Rows n1 H rs := ⟨fun p hp => (h.own p hp).low hn, h.apart⟩
theorem Rows.nil (n0 : Nat) (H : AH) : Rows n0 H [] := ⟨fun p hp => by simp at hp, .nil⟩
theorem Rows.sub {n0 : Nat} {H : AH} {rs qs : List Row} (h : Rows n0 H rs) (hs : qs.Sublist rs) : Rows n0 H qs := ⟨fun p hp => h.own p (hs.subset hp), h.apart.sublist hs⟩
/-- A new row beside others. -/
theorem Rows.cons {n0 : Nat} {H : AH} {rs : List Row} (h : Rows n0 H rs) {s : Sl} {l : List Int} (ho : Own n0 H s l) (hd : l ≠ [] → ∀ q ∈ rs, q.2 ≠ [] → s.b ≠ q.1.b) : Rows n0 H ((s, l) :: rs) :=
  ⟨fun p hp => by
    rcases List.mem_cons.1 hp with rfl | hp
    · exact ho
    · exact h.own p hp, List.pairwise_cons.2 ⟨fun q hq => by
      by_cases e1 : l = []
      · exact .inl e1
      by_cases e2 : q.2 = []
      · exact .inr (.inl e2)
      · exact .inr (.inr (hd e1 q hq e2)), h.apart⟩⟩
theorem Rows.perm {n0 : Nat} {H : AH} {rs qs : List Row} (h : Rows n0 H rs) (hp : qs.Perm rs) : Rows n0 H qs := ⟨fun p hq => h.own p (hp.mem_iff.1 hq), (hp.pairwise_iff (fun {a b} hab => apartR.symm hab)).2 h.apart⟩
/-- Rows that were made later lie apart. -/
theorem Rows.app {n0 n1 : Nat} {H : AH} {rs qs : List Row} (h : Rows n0 H rs) (k : Rows n1 H qs) (hn : n0 ≤ n1) (hlt : ∀ p ∈ rs, p.2 ≠ [] → p.1.b < n1) : Rows n0 H (rs ++ qs) :=
  ⟨fun p hp => by
    rcases List.mem_append.1 hp with hp | hp
    · exact h.own p hp
    · exact (k.own p hp).low hn, List.pairwise_append.2 ⟨h.apart, k.apart, fun p hp q hq => by
      by_cases e1 : p.2 = []
      · exact .inl e1
      by_cases e2 : q.2 = []
      · exact .inr (.inl e2)
      refine .inr (.inr ?_)
      have h1 := hlt p hp e1
      rcases (k.own q hq).lo with h2 | h2
      · exact absurd h2 e2
      · omega⟩⟩
theorem Rows.lt {n0 : Nat} {H : AH} {rs : List Row} (h : Rows n0 H rs) : ∀ p ∈ rs, p.2 ≠ [] → p.1.b < H.length := fun p hp hne => (h.own p hp).lt hne

/-- A number is read from an owned block. -/
theorem ld_own {H : AH} {b o n c : Nat} {x : Bool} {cs : List Int} (hb : H[b]? = some ⟨ics cs, .rw, 1⟩) {i : Nat} (hi : i < n) (hc : o + i < cs.length) {α : Type} (k : Int → Option α) :
    ((ixA ⟨b, o, n, c, x⟩ (i : Int) 1).bind fun o => (rdB H b).bind fun q => (intAt .i64 q o).bind k) = k cs[o + i] := by
  rw [ixA_nat (by exact hi)]
  have hr : rdB H b = some (ics cs) := by unfold rdB; rw [hb]; rfl
  have hg : (ics cs)[o + i]? = some (.int .i64 cs[o + i]) := by simp [hc]
  simp only [Option.bind_some, hr, Nat.mul_one, intAt_get hg]
theorem ld_own0 {H : AH} {b n c : Nat} {x : Bool} {cs : List Int} (hb : H[b]? = some ⟨ics cs, .rw, 1⟩) {i : Nat} (hi : i < n) (hc : i < cs.length) {α : Type} (k : Int → Option α) :
    ((ixA ⟨b, 0, n, c, x⟩ (i : Int) 1).bind fun o => (rdB H b).bind fun q => (intAt .i64 q o).bind k) = k cs[i] := by
  have := ld_own (o := 0) (c := c) (x := x) hb hi (by omega) k
  simpa using this
/-- A number is written to an owned block. -/
theorem st_own {H : AH} {b o n c : Nat} {x : Bool} {cs : List Int} (hb : H[b]? = some ⟨ics cs, .rw, 1⟩) {i : Nat} (hi : i < n) (hc : o + i < cs.length) (v : Int) {α : Type} (k : AH → Option α) :
    ((ixA ⟨b, o, n, c, x⟩ (i : Int) 1).bind fun o => (putR H b o [.int .i64 v]).bind k) = k (H.set b ⟨ics (cs.set (o + i) v), .rw, 1⟩) := by
  rw [ixA_nat (by exact hi)]
  simp only [Option.bind_some, Nat.mul_one]
  rw [putR_one hb (by simpa using hc)]
  simp only [Option.bind_some, ics_set]
theorem st_own0 {H : AH} {b n c : Nat} {x : Bool} {cs : List Int} (hb : H[b]? = some ⟨ics cs, .rw, 1⟩) {i : Nat} (hi : i < n) (hc : i < cs.length) (v : Int) {α : Type} (k : AH → Option α) :
    ((ixA ⟨b, 0, n, c, x⟩ (i : Int) 1).bind fun o => (putR H b o [.int .i64 v]).bind k) = k (H.set b ⟨ics (cs.set i v), .rw, 1⟩) := by
  have := st_own (o := 0) (c := c) (x := x) hb hi (by omega) v k
  simpa using this
theorem set_get {H : AH} {b : Nat} {k0 k : Blk} (h : H[b]? = some k0) : (H.set b k)[b]? = some k := by
  have := (List.getElem?_eq_some_iff.1 h).1
  simp [this]
theorem set_set {H : AH} {b : Nat} (k k' : Blk) : (H.set b k).set b k' = H.set b k' := by simp
theorem IS.set {H : AH} {s : Sl} {l : List Int} (h : IS H s l) {b : Nat} {k : Blk} (hb : l ≠ [] → s.b ≠ b) : IS (H.set b k) s l := by
  by_cases hl : l = []
  · exact ⟨h.n, h.c, .inl hl⟩
  · refine ⟨h.n, h.c, h.rd.imp id fun ⟨cs, h1, h2⟩ => ⟨cs, ?_, h2⟩⟩
    unfold rdB at h1 ⊢
    rw [List.getElem?_set_ne (Ne.symm (hb hl))]
    exact h1
theorem IS.of_blk {H : AH} {b : Nat} {l : List Int} {c : Nat} {x : Bool} (h : H[b]? = some ⟨ics l, .rw, 1⟩) (hc : l.length ≤ c) : IS H ⟨b, 0, l.length, c, x⟩ l :=
  ⟨rfl, hc, .inr ⟨ics l, by unfold rdB; rw [h]; rfl, fun i x hi => by simp [hi]⟩⟩
theorem IS.lt {H : AH} {s : Sl} {l : List Int} (h : IS H s l) (hl : l ≠ []) : s.b < H.length := by
  rcases h.rd with e | ⟨cs, h1, _⟩
  · exact absurd e hl
  · exact rdB_lt h1
theorem Le.set {H0 H : AH} (h : Le H0 H) {b : Nat} {k : Blk} (hb : H0.length ≤ b) : Le H0 (H.set b k) := set_le h hb
theorem Le.push {H0 H : AH} (h : Le H0 H) (X : AH) : Le H0 (H ++ X) := h.trans (Le.app H X)
end Go.Abs
/- Pure: places in a tensor and their indices. -/
namespace Go.Abs
set_option linter.unusedVariables false
set_option linter.unusedSimpArgs false

def prd : List Int → Int
  | [] => 1
  | d :: l => d * prd l
theorem prd_app : ∀ (a b : List Int), prd (a ++ b) = prd a * prd b
  | [], b => by simp [prd]
  | d :: a, b => by simp [prd, prd_app a b, Int.mul_assoc]
theorem prd_rev : ∀ a : List Int, prd a.reverse = prd a
  | [] => rfl
  | d :: a => by rw [List.reverse_cons, prd_app, prd_rev a]; simp [prd, Int.mul_comm]
theorem prd_pos : ∀ {a : List Int}, (∀ d ∈ a, 1 ≤ d) → 1 ≤ prd a
  | [], _ => Int.le_refl _
  | d :: a, h => by
    have h1 := h d List.mem_cons_self
    have h2 := prd_pos (a := a) fun x hx => h x (List.mem_cons_of_mem _ hx)
    have : 1 * 1 ≤ d * prd a := Int.mul_le_mul h1 h2 (by omega) (by omega)
    simpa [prd] using this
theorem prodI_eq : ∀ (l : List Int) (a : Int), prodI a l = a * prd l
  | [], a => by simp [prodI, prd]
  | d :: l, a => by simp only [prodI, prd]; rw [prodI_eq l, Int.mul_assoc]

/-- Digits, the last axis first. -/
def idxR : List Int → Int → List Int
  | [], _ => []
  | d :: r, n => n % d :: idxR r (n / d)
def idxF (D : List Int) (n : Int) : List Int := (idxR D.reverse n).reverse
theorem idxR_len : ∀ (r : List Int) (n : Int), (idxR r n).length = r.length
  | [], _ => rfl
  | d :: r, n => by simp [idxR, idxR_len r]
theorem idxF_len (D : List Int) (n : Int) : (idxF D n).length = D.length := by simp [idxF, idxR_len]
theorem idxF_snoc (D : List Int) (d n : Int) : idxF (D ++ [d]) n = idxF D (n / d) ++ [n % d] := by simp [idxF, idxR]

def fitsI : List Int → List Int → Prop
  | [], [] => True
  | d :: ds, x :: xs => 0 ≤ x ∧ x < d ∧ fitsI ds xs
  | _, _ => False
theorem fits_len : ∀ {D I : List Int}, fitsI D I → I.length = D.length
  | [], [], _ => rfl
  | d :: ds, x :: xs, h => by simp [fits_len h.2.2]
  | [], _ :: _, h => h.elim
  | _ :: _, [], h => h.elim
theorem fits_app : ∀ {D I D' I' : List Int}, I.length = D.length → (fitsI (D ++ D') (I ++ I') ↔ fitsI D I ∧ fitsI D' I')
  | [], [], D', I', _ => by simp [fitsI]
  | d :: ds, x :: xs, D', I', h => by
    simp only [List.cons_append, fitsI]
    rw [fits_app (by simpa using h)]
    exact ⟨fun h => ⟨⟨h.1, h.2.1, h.2.2.1⟩, h.2.2.2⟩, fun h => ⟨h.1.1, h.1.2.1, h.1.2.2, h.2⟩⟩
  | [], _ :: _, _, _, h => by simp at h
  | _ :: _, [], _, _, h => by simp at h
theorem fits_rev : ∀ {D I : List Int}, fitsI D I → fitsI D.reverse I.reverse
  | [], [], _ => trivial
  | d :: ds, x :: xs, h => by
    rw [List.reverse_cons, List.reverse_cons, fits_app (by simp [fits_len h.2.2])]
    exact ⟨fits_rev h.2.2, h.1, h.2.1, trivial⟩
  | [], _ :: _, h => h.elim
  | _ :: _, [], h => h.elim
theorem idxR_fits : ∀ {r : List Int} {n : Int}, (∀ d ∈ r, 1 ≤ d) → fitsI r (idxR r n)
  | [], _, _ => trivial
  | d :: r, n, h => by
    have hd := h d List.mem_cons_self
    exact ⟨Int.emod_nonneg _ (by omega), Int.emod_lt_of_pos _ (by omega), idxR_fits fun x hx => h x (List.mem_cons_of_mem _ hx)⟩
theorem idxF_fits {D : List Int} {n : Int} (h : ∀ d ∈ D, 1 ≤ d) : fitsI D (idxF D n) := by
  have := fits_rev (idxR_fits (r := D.reverse) (n := n) fun d hd => h d (by simpa using hd))
  simpa [idxF] using this
theorem idxR_zero : ∀ r : List Int, idxR r 0 = List.replicate r.length 0
  | [] => rfl
  | d :: r => by simp [idxR, idxR_zero r, List.replicate_succ]
theorem idxF_zero (D : List Int) : idxF D 0 = List.replicate D.length 0 := by simp [idxF, idxR_zero]

/-- The next index, the last axis first. -/
def nextR : List Int → List Int → Bool × List Int
  | d :: r, x :: xs => if x + 1 < d then (true, (x + 1) :: xs) else ((nextR r xs).1, 0 :: (nextR r xs).2)
  | _, _ => (false, [])
def nextF (D I : List Int) : Bool × List Int := ((nextR D.reverse I.reverse).1, (nextR D.reverse I.reverse).2.reverse)

theorem div_mul_lt {d n m : Int} (hd : 1 ≤ d) (h0 : 0 ≤ n) (h : n < d * m) : n / d < m := by
  have := Int.ediv_lt_of_lt_mul (a := n) (b := m) (c := d) (by omega) (by rw [Int.mul_comm]; exact h)
  exact this
theorem nextR_idx : ∀ {r : List Int} {n : Int}, (∀ d ∈ r, 1 ≤ d) → 0 ≤ n → n < prd r → nextR r (idxR r n) = (decide (n + 1 < prd r), idxR r (n + 1))
  | [], n, _, h0, h1 => by
    have : ¬ n + 1 < prd [] := by simp [prd] at h1 ⊢; omega
    simp only [nextR, idxR]
    rw [decide_eq_false this]
  | d :: r, n, h, h0, h1 => by
    have hd := h d List.mem_cons_self
    have hr : ∀ x ∈ r, 1 ≤ x := fun x hx => h x (List.mem_cons_of_mem _ hx)
    have hq := div_mul_lt hd h0 h1
    have hq0 : 0 ≤ n / d := Int.ediv_nonneg h0 (by omega)
    have hm := Int.emod_lt_of_pos n (show 0 < d by omega)
    have hm0 := Int.emod_nonneg n (show d ≠ 0 by omega)
    have he := Int.mul_ediv_add_emod n d
    have hle : d * (n / d + 1) ≤ d * prd r := Int.mul_le_mul_of_nonneg_left (by omega) (by omega)
    have hx : d * (n / d + 1) = d * (n / d) + d := by rw [Int.mul_add, Int.mul_one]
    simp only [idxR, nextR, prd]
    by_cases hc : n % d + 1 < d
    · rw [if_pos hc]
      have h2 : n + 1 = (n % d + 1) + d * (n / d) := by omega
      have e1 : (n + 1) % d = n % d + 1 := by
        rw [h2, Int.add_mul_emod_self_left, Int.emod_eq_of_lt (by omega) hc]
      have e2 : (n + 1) / d = n / d := by
        rw [h2, Int.add_mul_ediv_left _ _ (by omega), Int.ediv_eq_zero_of_lt (by omega) hc]; omega
      rw [e1, e2]
      have : n + 1 < d * prd r := by omega
      simp [this]
    · rw [if_neg hc, nextR_idx hr hq0 hq]
      have h2 : n + 1 = 0 + d * (n / d + 1) := by omega
      have e1 : (n + 1) % d = 0 := by rw [h2, Int.add_mul_emod_self_left]; simp
      have e2 : (n + 1) / d = n / d + 1 := by
        rw [h2, Int.add_mul_ediv_left _ _ (by omega)]; simp
      rw [e1, e2]
      have hiff : (n + 1 < d * prd r) ↔ (n / d + 1 < prd r) := by
        constructor
        · intro hlt
          have : d * (n / d + 1) < d * prd r := by omega
          exact Int.lt_of_mul_lt_mul_left this (by omega)
        · intro hlt
          have : d * (n / d + 1) < d * prd r := Int.mul_lt_mul_of_pos_left hlt (by omega)
          omega
      simp [hiff]
theorem nextF_idx {D : List Int} {n : Int} (h : ∀ d ∈ D, 1 ≤ d) (h0 : 0 ≤ n) (h1 : n < prd D) : nextF D (idxF D n) = (decide (n + 1 < prd D), idxF D (n + 1)) := by
  unfold nextF
  have : (idxF D n).reverse = idxR D.reverse n := by simp [idxF]
  rw [this, nextR_idx (fun d hd => h d (by simpa using hd)) h0 (by rw [prd_rev]; exact h1), prd_rev]
  rfl
theorem nextR_len : ∀ {r x : List Int}, x.length = r.length → (nextR r x).2.length = r.length
  | [], [], _ => rfl
  | d :: r, x :: xs, h => by
    simp only [nextR]
    have := nextR_len (r := r) (x := xs) (by simpa using h)
    split
    · simp at h ⊢; exact h
    · simp [this]
  | [], _ :: _, h => by simp at h
  | _ :: _, [], h => by simp at h
theorem nextF_snoc {D I : List Int} {d x : Int} : nextF (D ++ [d]) (I ++ [x]) = if x + 1 < d then (true, I ++ [x + 1]) else ((nextF D I).1, (nextF D I).2 ++ [0]) := by
  unfold nextF
  rw [List.reverse_append, List.reverse_append]
  simp only [List.reverse_cons, List.reverse_nil, List.nil_append, List.singleton_append, nextR]
  split <;> simp

/-- The place of an index. -/
def offR : List Int → List Int → Int
  | d :: r, x :: xs => offR r xs * d + x
  | _, _ => 0
def offF (D I : List Int) : Int := offR D.reverse I.reverse
theorem offR_range : ∀ {r x : List Int}, fitsI r x → 0 ≤ offR r x ∧ offR r x < prd r
  | [], [], _ => by simp [offR, prd]
  | d :: r, x :: xs, h => by
    obtain ⟨h1, h2⟩ := offR_range h.2.2
    have hd : 0 < d := by have := h.1; have := h.2.1; omega
    simp only [offR, prd]
    have a1 : 0 ≤ offR r xs * d := Int.mul_nonneg h1 (by omega)
    have a2 : (offR r xs + 1) * d ≤ prd r * d := Int.mul_le_mul_of_nonneg_right (by omega) (by omega)
    rw [Int.add_mul, Int.one_mul, Int.mul_comm (prd r)] at a2
    have := h.1; have := h.2.1
    omega
  | [], _ :: _, h => h.elim
  | _ :: _, [], h => h.elim
theorem offF_range {D I : List Int} (h : fitsI D I) : 0 ≤ offF D I ∧ offF D I < prd D := by
  have := offR_range (fits_rev h)
  rw [prd_rev] at this
  exact this
end Go.Abs
/- Contracts: indices. -/
namespace Go.Abs
set_option linter.unusedVariables false
set_option linter.unusedSimpArgs false

theorem app_get {H : AH} {k : Blk} : (H ++ [k])[H.length]? = some k := by simp
theorem app_set {H : AH} {k k' : Blk} : (H ++ [k]).set H.length k' = H ++ [k'] := by simp
theorem set_same {H : AH} {b : Nat} {k : Blk} (h : H[b]? = some k) : H.set b k = H := by
  refine List.ext_getElem? fun i => ?_
  rw [List.getElem?_set]
  split
  · rename_i e; subst e
    have := (List.getElem?_eq_some_iff.1 h).1
    rw [if_pos this, ← h]
  · rfl

theorem ge_true (k : Nat) : decide (((k + 1 : Nat) : Int) - 1 ≥ 0) = true := decide_eq_true (by omega)
theorem ge_false : decide (((0 : Nat) : Int) - 1 ≥ 0) = false := by simp
theorem down1 (k : Nat) : ((k + 1 : Nat) : Int) - 1 = (k : Int) := by omega
theorem wdown {k : Nat} (h : k ≤ 4194304) : IntKind.wrap .i64 ((k : Int) - 1) = (k : Int) - 1 := by rw [wrap_id] <;> omega
theorem take_snoc' {l : List Int} {i : Nat} (h : i < l.length) : l.take (i + 1) = l.take i ++ [l[i]] := take_snoc h
theorem drop_set_gt {l : List Int} {i j : Nat} (h : i < j) (v : Int) : (l.set i v).drop j = l.drop j := by
  rw [List.drop_set]
  rw [if_pos h]
theorem drop_set_self {l : List Int} {i : Nat} (h : i < l.length) (v : Int) : (l.set i v).drop i = v :: l.drop (i + 1) := by
  rw [List.drop_eq_getElem_cons (by simpa using h)]
  simp [drop_set_gt (Nat.lt_succ_self i)]

/-- spec.l05Index -/
theorem c_sl05Index {H : AH} {s : Sl} {D : List Int} (h : IS H s D) (hl : D.length ≤ 1048576) (hd : ∀ d ∈ D, 1 ≤ d) {n : Int} (h0 : 0 ≤ n) (h1 : n ≤ 4611686018427387904) :
    R (.fn F.sl05Index) [ssc s, isc n] H = some ⟨1, [ssc (rowAt H.length (idxF D n))], H ++ [⟨ics (idxF D n), .rw, 1⟩]⟩ := by
  have key : ∀ (k : Nat) (n : Int) (out : List Int), k ≤ D.length → out.length = D.length → 0 ≤ n → n ≤ 4611686018427387904 →
      R (.loop F.sl05Index 0) [ssc s, isc n, ssc ⟨H.length, 0, D.length, D.length, true⟩, isc ((k : Int) - 1)] (H ++ [⟨ics out, .rw, 1⟩]) = some ⟨2, [], H ++ [⟨ics (idxF (D.take k) n ++ out.drop k), .rw, 1⟩]⟩ := by
    intro k
    induction k with
    | zero =>
      intro n out hk ho h0 h1
      rw [R_eq, e_sl05Index_0, ge_false]
      simp [idxF, idxR]
    | succ k ih =>
      intro n out hk ho h0 h1
      have hlt : k < D.length := by omega
      have hdk := hd D[k] (List.getElem_mem hlt)
      have hnz : (D[k] == 0) = false := bf (by omega)
      have hq : 0 ≤ n / D[k] := Int.ediv_nonneg h0 (by omega)
      have hq2 : n / D[k] ≤ n := Int.ediv_le_self _ h0
      have e1 : IntKind.wrap .i64 (Int.tdiv n D[k]) = n / D[k] := by
        rw [Int.tdiv_eq_ediv_of_nonneg h0, wrap_id] <;> omega
      have e2 : Int.tmod n D[k] = n % D[k] := Int.tmod_eq_emod_of_nonneg h0
      rw [R_eq, e_sl05Index_0, ge_true, cond_true, down1, (h.le (Le.app H _)).ldk hlt, hnz, cond_false, st_own0 app_get (by omega) (by omega), app_set, (h.le (Le.app H _)).ldk hlt, hnz, cond_false, e1, wdown (by omega), e2]
      rw [ih (n / D[k]) (out.set k (n % D[k])) (by omega) (by simpa using ho) hq (by omega), take_snoc' hlt, idxF_snoc, drop_set_self (by omega)]
      simp
  rw [R_eq, e_sl05Index, h.n, mk_ints (by omega)]
  simp only [Option.bind_some]
  rw [wdown (by omega), key D.length n _ (Nat.le_refl _) (by simp) h0 h1]
  simp [idxF_len]

/-- impl.nextIndex -/
theorem c_inextIndex {H : AH} {s : Sl} {D I : List Int} {b : Nat} {x : Bool} (h : IS H s D) (hl : D.length ≤ 1048576) (hb : H[b]? = some ⟨ics I, .rw, 1⟩) (hs : D ≠ [] → s.b ≠ b) (hi : I.length = D.length) (hx : ∀ x ∈ I, 0 ≤ x ∧ x ≤ 1048576) :
    R (.fn F.inextIndex) [ssc s, ssc ⟨b, 0, I.length, I.length, x⟩] H = some ⟨1, [bsc (nextF D I).1], H.set b ⟨ics (nextF D I).2, .rw, 1⟩⟩ := by
  have key : ∀ (k : Nat) (out : List Int), k ≤ D.length → out.length = D.length → (∀ (j : Nat) (h : j < I.length) (h' : j < out.length), j < k → out[j] = I[j]) →
      R (.loop F.inextIndex 0) [ssc s, ssc ⟨b, 0, I.length, I.length, x⟩, isc ((k : Int) - 1)] (H.set b ⟨ics out, .rw, 1⟩) =
        cond (nextF (D.take k) (I.take k)).1 (some ⟨1, [bsc true], H.set b ⟨ics ((nextF (D.take k) (I.take k)).2 ++ out.drop k), .rw, 1⟩⟩) (some ⟨2, [], H.set b ⟨ics ((nextF (D.take k) (I.take k)).2 ++ out.drop k), .rw, 1⟩⟩) := by
    intro k
    induction k with
    | zero =>
      intro out hk ho hj
      rw [R_eq, e_inextIndex_0, ge_false]
      simp [nextF, nextR]
    | succ k ih =>
      intro out hk ho hj
      have h1 : k < D.length := by omega
      have h2 : k < I.length := by omega
      have hxk := hx I[k] (List.getElem_mem h2)
      have hne : D ≠ [] := fun e => by rw [e] at h1; simp at h1
      have ew : IntKind.wrap .i64 (I[k] + 1) = I[k] + 1 := by rw [wrap_id] <;> omega
      have hok : out[k]'(by omega) = I[k] := hj k h2 (by omega) (by omega)
      rw [R_eq, e_inextIndex_0, ge_true, cond_true, down1]
      rw [ld_own0 (set_get hb) h2 (by omega), hok, ew]
      rw [st_own0 (set_get hb) h2 (by omega), set_set]
      rw [ld_own0 (set_get hb) h2 (by simp; omega)]
      rw [(h.set fun _ => hs hne).ldk h1]
      rw [take_snoc' h1, take_snoc' h2, nextF_snoc]
      simp only [List.getElem_set_self]
      have e3 : I.take k ++ [I[k] + 1] ++ out.drop (k + 1) = out.set k (I[k] + 1) := by
        refine List.ext_getElem (by simp; omega) fun j hj1 hj2 => ?_
        rw [List.getElem_set]
        by_cases hjk : j < k
        · rw [if_neg (by omega), hj j (by omega) (by simpa using hj2) (by omega)]
          rw [List.getElem_append_left (by simp; omega), List.getElem_append_left (by simp; omega)]
          simp
        · by_cases e : j = k
          · subst e
            rw [List.getElem_append_left (by simp; omega), List.getElem_append_right (by simp; omega)]
            simp
          · rw [if_neg (by omega), List.getElem_append_right (by simp; omega)]
            simp
            congr 1; omega
      by_cases hc : I[k] + 1 < D[k]
      · rw [if_pos hc]
        have : decide (I[k] + 1 < D[k]) = true := by simpa using hc
        rw [this]
        simp only [cond_true]
        rw [e3]
      · rw [if_neg hc]
        have : decide (I[k] + 1 < D[k]) = false := by simpa using hc
        rw [this, cond_false, st_own0 (set_get hb) h2 (by simp; omega), set_set, wdown (by omega)]
        rw [ih _ (by omega) (by simpa using ho) (fun j hj1 hj2 hjk => by
          rw [List.getElem_set_ne (by omega), List.getElem_set_ne (by omega)]
          exact hj j hj1 (by simpa using hj2) (by omega))]
        have e4 : ((out.set k (I[k] + 1)).set k 0).drop k = 0 :: out.drop (k + 1) := by
          rw [drop_set_self (by simp; omega), drop_set_gt (Nat.lt_succ_self k)]
        rw [e4]
        simp
  have e0 : H.set b ⟨ics I, .rw, 1⟩ = H := set_same hb
  have := key D.length I (Nat.le_refl _) hi (fun _ _ _ _ => rfl)
  rw [e0, List.take_of_length_le (Nat.le_refl _), List.take_of_length_le (by omega), List.drop_eq_nil_of_le (by omega), List.append_nil] at this
  rw [R_eq, e_inextIndex, h.n, wdown (by omega), this]
  cases (nextF D I).1 <;> rfl
end Go.Abs
/- Words: a tensor's numbers as elements of one width; parts of them are read and written. -/
namespace Go.Abs
set_option linter.unusedVariables false
set_option linter.unusedSimpArgs false

def Uni (w : Nat) (els : List (List Int)) : Prop := ∀ e ∈ els, e.length = w
theorem Uni.tail {w : Nat} {e : List Int} {els : List (List Int)} (h : Uni w (e :: els)) : Uni w els := fun x hx => h x (List.mem_cons_of_mem _ hx)
theorem Uni.set {w : Nat} {els : List (List Int)} (h : Uni w els) {n : Nat} {v : List Int} (hv : v.length = w) : Uni w (els.set n v) := fun e he => by
  rcases List.mem_or_eq_of_mem_set he with he | rfl
  · exact h e he
  · exact hv
theorem Uni.rep {w n : Nat} {e : List Int} (h : e.length = w) : Uni w (List.replicate n e) := fun x hx => by rw [(List.mem_replicate.1 hx).2]; exact h
theorem uni_len {w : Nat} : ∀ {els : List (List Int)}, Uni w els → els.flatten.length = els.length * w
  | [], _ => by simp
  | e :: els, h => by
    rw [List.flatten_cons, List.length_append, uni_len h.tail, h e List.mem_cons_self, List.length_cons, Nat.add_mul]; omega
theorem uni_take {w : Nat} : ∀ {els : List (List Int)}, Uni w els → ∀ n, els.flatten.take (n * w) = (els.take n).flatten
  | [], _, n => by simp
  | e :: els, h, 0 => by simp
  | e :: els, h, n + 1 => by
    have he := h e List.mem_cons_self
    rw [List.flatten_cons, List.take_append, List.take_of_length_le (by rw [he, Nat.add_mul]; omega), he]
    have : (n + 1) * w - w = n * w := by rw [Nat.add_mul]; omega
    rw [this, uni_take h.tail n]; simp
theorem uni_drop {w : Nat} : ∀ {els : List (List Int)}, Uni w els → ∀ n, els.flatten.drop (n * w) = (els.drop n).flatten
  | [], _, n => by simp
  | e :: els, h, 0 => by simp
  | e :: els, h, n + 1 => by
    have he := h e List.mem_cons_self
    rw [List.flatten_cons, List.drop_append, List.drop_eq_nil_of_le (by rw [he, Nat.add_mul]; omega), he]
    have : (n + 1) * w - w = n * w := by rw [Nat.add_mul]; omega
    rw [this, uni_drop h.tail n]; simp
theorem uni_at {w : Nat} {els : List (List Int)} (h : Uni w els) {n : Nat} (hn : n < els.length) : (els.flatten.drop (n * w)).take w = els[n] := by
  rw [uni_drop h, List.drop_eq_getElem_cons hn, List.flatten_cons, List.take_append, List.take_of_length_le (by rw [h _ (List.getElem_mem hn)]; exact Nat.le_refl _), h _ (List.getElem_mem hn)]
  simp

/-- A part is replaced. -/
def putL (cs : List Int) (o : Nat) (v : List Int) : List Int := cs.take o ++ v ++ cs.drop (o + v.length)
theorem putL_len {cs : List Int} {o : Nat} {v : List Int} (h : o + v.length ≤ cs.length) : (putL cs o v).length = cs.length := by simp [putL]; omega
theorem putL_nil (cs : List Int) (o : Nat) : putL cs o [] = cs := by simp [putL]
theorem putL_get {cs : List Int} {o : Nat} {v : List Int} (h : o + v.length ≤ cs.length) (j : Nat) : (putL cs o v)[j]? = if j < o then cs[j]? else if j < o + v.length then v[j - o]? else cs[j]? := by
  unfold putL
  have ht : (cs.take o).length = o := by simp; omega
  split
  · rw [List.append_assoc, List.getElem?_append_left (by omega), List.getElem?_take, if_pos (by assumption)]
  · split
    · rw [List.append_assoc, List.getElem?_append_right (by omega), List.getElem?_append_left (by omega), ht]
    · rw [List.getElem?_append_right (by simp; omega), List.getElem?_drop]
      congr 1; simp; omega
theorem putL_set {cs : List Int} {o : Nat} {v : List Int} (h : o + v.length ≤ cs.length) {i : Nat} (hi : i < v.length) : (putL cs o (v.take i)).set (o + i) v[i] = putL cs o (v.take (i + 1)) := by
  have h1 : o + (v.take i).length ≤ cs.length := by simp; omega
  have h2 : o + (v.take (i + 1)).length ≤ cs.length := by simp; omega
  refine List.ext_getElem? fun j => ?_
  rw [List.getElem?_set, putL_len h1, putL_get h1, putL_get h2]
  have l1 : (v.take i).length = i := by simp; omega
  have l2 : (v.take (i + 1)).length = i + 1 := by simp; omega
  rw [l1, l2]
  by_cases hj : j < o
  · rw [if_neg (by omega), if_pos hj, if_pos hj]
  · rw [if_neg hj, if_neg hj]
    by_cases e : o + i = j
    · rw [if_pos e, if_pos (by omega), if_pos (by omega), List.getElem?_take, if_pos (by omega)]
      have : j - o = i := by omega
      rw [this, List.getElem?_eq_getElem hi]
    · rw [if_neg e]
      by_cases h3 : j < o + i
      · rw [if_pos h3, if_pos (by omega), List.getElem?_take, List.getElem?_take, if_pos (by omega), if_pos (by omega)]
      · rw [if_neg h3, if_neg (by omega)]
theorem putL_flat {w : Nat} {els : List (List Int)} (h : Uni w els) {n : Nat} (hn : n < els.length) {v : List Int} (hv : v.length = w) : putL els.flatten (n * w) v = (els.set n v).flatten := by
  unfold putL
  have e : n * w + v.length = (n + 1) * w := by rw [hv, Nat.add_mul]; omega
  rw [e, uni_take h, uni_drop h, List.set_eq_take_append_cons_drop, if_pos hn]
  simp
theorem setAll_ics {cs v : List Int} {o : Nat} (h : o + v.length ≤ cs.length) : setAll (ics cs) o (ics v) = ics (putL cs o v) := by
  rw [setAll_all _ _ _ (by simpa using h)]
  simp [putL, List.map_take, List.map_drop]
theorem putR_ics {H : AH} {b o : Nat} {cs v : List Int} (hb : H[b]? = some ⟨ics cs, .rw, 1⟩) (h : o + v.length ≤ cs.length) : putR H b o (ics v) = some (H.set b ⟨ics (putL cs o v), .rw, 1⟩) := by
  cases v with
  | nil => simp only [List.map_nil, putR, putL_nil]; rw [set_same hb]
  | cons x v =>
    unfold putR
    simp only [List.map_cons, hb, Option.bind_some]
    rw [if_pos (by simpa using h)]
    have := setAll_ics (cs := cs) (v := x :: v) (o := o) h
    simp only [List.map_cons] at this
    rw [this]

theorem slB_mid {s : Sl} {lo hi : Nat} (h1 : lo ≤ hi) (h2 : hi ≤ s.c) : slB s (some (lo : Int)) (some (hi : Int)) none 1 = some ⟨s.b, s.o + lo, hi - lo, s.c - lo, s.x⟩ := by
  unfold slB
  simp only [Option.bind_some, Option.getD_some]
  rw [if_pos ⟨by omega, by omega, by omega, by omega⟩]
  simp
/-- The part with an element. -/
@[reducible] def partAt (c : Sl) (w n : Nat) : Sl := ⟨c.b, c.o + n * w, w, c.c - n * w, c.x⟩
theorem IS.part {H : AH} {s : Sl} {l : List Int} (h : IS H s l) {o m : Nat} (hm : o + m ≤ l.length) : IS H ⟨s.b, s.o + o, m, s.c - o, s.x⟩ ((l.drop o).take m) := by
  refine ⟨by simp; omega, by have := h.n; have := h.c; show m ≤ s.c - o; omega, ?_⟩
  rcases h.rd with rfl | ⟨cs, h1, h2⟩
  · exact .inl (by simp)
  · refine .inr ⟨cs, h1, fun i x hi => ?_⟩
    rw [List.getElem?_take] at hi
    split at hi
    · rw [List.getElem?_drop] at hi
      have := h2 _ _ hi
      rw [Nat.add_assoc]; exact this
    · cases hi
theorem IS.elem {H : AH} {c : Sl} {w : Nat} {els : List (List Int)} (h : IS H c els.flatten) (hu : Uni w els) {n : Nat} (hn : n < els.length) : IS H (partAt c w n) els[n] := by
  have hlen := uni_len hu
  have : n * w + w ≤ els.length * w := by rw [← Nat.succ_mul]; exact Nat.mul_le_mul_right _ hn
  have := h.part (o := n * w) (m := w) (by omega)
  rw [uni_at hu hn] at this
  exact this

/-- spec.l05Put -/
theorem c_sl05Put {r : Rg} {H : AH} {a b c s : Sl} {els : List (List Int)} {v : List Int} {n w : Nat} (hw : widthR r = (w : Int)) (hu : Uni w els) (hn : n < els.length) (hv : v.length = w) (hb : H[c.b]? = some ⟨ics els.flatten, .rw, 1⟩)
    (ho : c.o = 0) (hc : c.n = els.length * w) (hs : IS H s v) (hsb : v ≠ [] → s.b ≠ c.b) (hsm : els.length * w ≤ 1048576) :
    R (.fn F.sl05Put) [r.pv, tpv a b c, isc (n : Int), ssc s] H = some ⟨1, [], H.set c.b ⟨ics (els.set n v).flatten, .rw, 1⟩⟩ := by
  have hnw : n * w + w ≤ els.length * w := by rw [← Nat.succ_mul]; exact Nat.mul_le_mul_right _ hn
  have hlen := uni_len hu
  have hfit : n * w + v.length ≤ els.flatten.length := by omega
  have hw1 : w ≤ 1048576 := by omega
  have hcs : c = ⟨c.b, 0, els.length * w, c.c, c.x⟩ := by cases c; simp_all
  have key : ∀ (k i : Nat), i + k = v.length → R (.loop F.sl05Put 0) [isc (n : Int), ssc s, isc (w : Int), isc (v.length : Int), isc (i : Int), tpv a b c] (H.set c.b ⟨ics (putL els.flatten (n * w) (v.take i)), .rw, 1⟩) =
      some ⟨2, [], H.set c.b ⟨ics (putL els.flatten (n * w) v), .rw, 1⟩⟩ := by
    intro k
    induction k with
    | zero =>
      intro i hi
      obtain rfl : i = v.length := by omega
      rw [List.take_of_length_le (Nat.le_refl _), R_eq, e_sl05Put_0, lt_self]; rfl
    | succ k ih =>
      intro i hi
      have hlt : i < v.length := by omega
      have hne : v ≠ [] := fun e => by rw [e] at hlt; simp at hlt
      have e1 : IntKind.wrap .i64 (IntKind.wrap .i64 ((n : Int) * (w : Int)) + (i : Int)) = ((n * w + i : Nat) : Int) := by
        rw [← Int.natCast_mul, wrap_id (x := ((n * w : Nat) : Int)) (by omega) (by omega), wrap_id] <;> omega
      rw [R_eq, e_sl05Put_0, (hs.set (fun h => hsb h)).ldk hlt, lt_true hlt, w1 hlt (by omega), cond_true, e1, hcs]
      have hpl : (putL els.flatten (n * w) (v.take i)).length = els.flatten.length := putL_len (by rw [List.length_take]; omega)
      rw [st_own0 (set_get hb) (by omega) (by omega), set_set, putL_set hfit hlt, ← hcs]
      exact ih (i + 1) (by omega)
  have h0 := key v.length 0 (by omega)
  rw [List.take_zero, putL_nil, set_same hb, putL_flat hu hn hv] at h0
  have h0 : R (.loop F.sl05Put 0) [isc (n : Int), ssc s, isc (w : Int), isc (v.length : Int), isc 0, tpv a b c] H = _ := h0
  rw [R_eq, e_sl05Put, c_sl02Width, hw, hs.n]
  simp only [Option.bind_some, one_int]
  rw [h0]
  rfl
end Go.Abs
/- Contracts: tensors that are made. -/
namespace Go.Abs
set_option linter.unusedVariables false
set_option linter.unusedSimpArgs false

theorem prodC_eq : ∀ {l : List Int} {a : Int}, 1 ≤ a → (∀ d ∈ l, 1 ≤ d) → a * prd l ≤ 4096 → prodC 4096 a l = a * prd l
  | [], a, _, _, _ => by simp [prodC, prd]
  | d :: l, a, h, hd, hp => by
    have h1 := hd d List.mem_cons_self
    have h2 := prd_pos (a := l) fun x hx => hd x (List.mem_cons_of_mem _ hx)
    have h3 : a * 1 ≤ a * d := Int.mul_le_mul_of_nonneg_left h1 (by omega)
    have hp' : a * d * prd l ≤ 4096 := by simpa [prd, Int.mul_assoc] using hp
    have h4 : a * d * 1 ≤ a * d * prd l := Int.mul_le_mul_of_nonneg_left h2 (by omega)
    unfold prodC
    rw [if_neg (by omega), prodC_eq (by omega) (fun x hx => hd x (List.mem_cons_of_mem _ hx)) hp']
    simp [prd, Int.mul_assoc]

/-- Rows of a new tensor. -/
structure NewT (H H' : AH) (a b c : Sl) (t : Tn) : Prop where
  le : Le H H'
  rows : Rows H.length H' (rows3 a b c t)
theorem NewT.ts {H H' : AH} {a b c : Sl} {t : Tn} (h : NewT H H' a b c t) : TS H' a b c t :=
  ⟨(h.rows.own (a, t.L) (by simp)).is, (h.rows.own (b, t.D) (by simp)).is, (h.rows.own (c, t.X) (by simp)).is⟩

/-- spec.l05Zero: the data -/
theorem c_sl05Zero_0 {r : Rg} (hr : ringB r = true) {a b : Sl} {n0 : Nat} : ∀ (k : Nat) (X : List Int) (c : Sl) (H : AH), n0 ≤ H.length → Own n0 H c X → X.length + k * 6 ≤ 1048576 →
    ∃ c' H', R (.loop F.sl05Zero 0) [isc (k : Int), r.pv, tpv a b c] H = some ⟨2, [tpv a b c'], H'⟩ ∧ Own n0 H' c' (X ++ (List.replicate k (zeroR r)).flatten) ∧ H.length ≤ H'.length ∧
      (∀ d, d < H.length → (d ≠ c.b ∨ X = []) → H'[d]? = H[d]?) ∧ (X ++ (List.replicate k (zeroR r)).flatten ≠ [] → H.length ≤ c'.b ∨ (c'.b = c.b ∧ X ≠ []))
  | 0, X, c, H, hn, ho, hX => by
    refine ⟨c, H, ?_, by simpa using ho, Nat.le_refl _, fun _ _ _ => rfl, fun h => .inr ⟨rfl, by simpa using h⟩⟩
    rw [R_eq, e_sl05Zero_0]; rfl
  | k + 1, X, c, H, hn, ho, hX => by
    have hw := width_range hr
    have hz := zeroR_len r
    obtain ⟨s, H1, e1, n1⟩ := c_sl02Zero hr H
    obtain ⟨c2, H2, e2, o2, l2, f2, _, b2⟩ := app_own (m := zeroR r) (by rw [n1.len]; omega) (ho.le n1.le) (by omega)
    have hzne : zeroR r ≠ [] := fun e => by rw [e] at hz; simp at hz; omega
    obtain ⟨c', H', e3, o3, l3, f3, b3⟩ := c_sl05Zero_0 hr (a := a) (b := b) k (X ++ zeroR r) c2 H2 (by rw [n1.len] at l2; omega) o2 (by simp; omega)
    have hne : X ++ zeroR r ≠ [] := by simp [hzne]
    have b2 := b2 hzne
    have nl := n1.len
    refine ⟨c', H', ?_, by simpa [List.replicate_succ] using o3, by omega, fun d hd hc => ?_, fun _ => ?_⟩
    · have hk : decide (((k + 1 : Nat) : Int) > 0) = true := decide_eq_true (by omega)
      rw [R_eq, e_sl05Zero_0, hk, cond_true, e1]
      simp only [Option.bind_some, one_sl, n1.own.is.rng]
      have : s.n = (zeroR r).length := n1.own.n
      rw [this, e2]
      simp only [Option.bind_some]
      have e : IntKind.wrap .i64 (((k + 1 : Nat) : Int) - 1) = (k : Int) := by rw [wrap_id] <;> omega
      rw [e]; exact e3
    · rw [f3 d (by omega) (.inl (by omega)), f2 d (by omega) hc, n1.le.get d hd]
    · rcases b3 (fun e => hne (List.append_eq_nil_iff.1 e).1) with h | ⟨h, _⟩
      · exact .inl (by omega)
      · exact .inl (by omega)

def DimsOk (D : List Int) : Prop := D.length ≤ 12 ∧ (∀ d ∈ D, 1 ≤ d ∧ d ≤ 8) ∧ prd D ≤ 4096
theorem DimsOk.ge {D : List Int} (h : DimsOk D) : ∀ d ∈ D, 1 ≤ d := fun d hd => (h.2.1 d hd).1
theorem DimsOk.nat {D : List Int} (h : DimsOk D) : ∃ N : Nat, prd D = (N : Int) ∧ 1 ≤ N ∧ N ≤ 4096 ∧ (prd D).toNat = N := ⟨(prd D).toNat, by have := prd_pos h.ge; omega, by have := prd_pos h.ge; omega, by have := h.2.2; omega, rfl⟩

/-- spec.l05Zero -/
theorem c_sl05Zero {r : Rg} (hr : ringB r = true) {H : AH} {u v : Sl} {L D : List Int} (hu : IS H u L) (hv : IS H v D) (hL : L.length ≤ 1048576) (hD : DimsOk D) :
    ∃ a b c H', R (.fn F.sl05Zero) [r.pv, ssc u, ssc v] H = some ⟨1, [tpv a b c], H'⟩ ∧ NewT H H' a b c ⟨L, D, (List.replicate (prd D).toNat (zeroR r)).flatten⟩ := by
  obtain ⟨N, hN, hN1, hN2, hN3⟩ := hD.nat
  obtain ⟨a, H1, e1, l1, o1⟩ := c_sl05Ints hu (by omega)
  obtain ⟨b, H2, e2, l2, o2⟩ := c_sl05Ints (hv.le l1) (by have := hD.1; omega)
  have l12 := l1.trans l2
  obtain ⟨c, H', e3, o3, l3, f3, b3⟩ := c_sl05Zero_0 hr (a := a) (b := b) (n0 := H.length) N [] ⟨0, 0, 0, 0, true⟩ H2 l12.len (Own.nil _ _ _) (by simp; omega)
  have hp : prodC 4096 1 D = (N : Int) := by rw [prodC_eq (by omega) hD.ge (by have := hD.2.2; omega), hN]; omega
  refine ⟨a, b, c, H', ?_, ⟨⟨by have := l12.len; omega, fun d hd => by rw [f3 d (by have := l12.len; omega) (.inr rfl)]; exact l12.get d hd⟩, ?_⟩⟩
  · rw [R_eq, e_sl05Zero, e1]
    simp only [Option.bind_some, one_sl]
    rw [e2]
    simp only [Option.bind_some, one_sl]
    rw [c_sl05Product ((hv.le l12)) (by have := hD.1; omega) (fun d hd => by have := hD.2.1 d hd; omega), hp]
    simp only [Option.bind_some, one_int]
    rw [e3]
    rfl
  · rw [hN3]
    have q1 : Rows H.length H2 [(a, L), (b, D)] :=
      Rows.cons (Rows.cons (Rows.nil _ _) (o2.low l1.len) (by simp)) (o1.le l2) (fun h1 q hq hq2 => by
        simp at hq; subst hq
        have := o1.lt h1
        rcases o2.lo with h | h
        · exact absurd h hq2
        · show a.b ≠ b.b; omega)
    have q2 : Rows H.length H2 [(a, L), (b, D), (⟨0, 0, 0, 0, true⟩, [])] := by
      refine ⟨fun p hp => ?_, ?_⟩
      · simp at hp
        rcases hp with rfl | rfl | rfl
        · exact q1.own _ (by simp)
        · exact q1.own _ (by simp)
        · exact Own.nil _ _ _
      · have := q1.apart
        simp [List.pairwise_cons, apartR] at this ⊢
        exact this
    have := Rows.upd (xs := [(a, L), (b, D)]) (ys := []) (p := (⟨0, 0, 0, 0, true⟩, [])) q2 (s' := c) (l' := (List.replicate N (zeroR r)).flatten) (H' := H') (by simpa using o3) (fun d hd h => f3 d hd (.inr rfl)) (fun h => by
      rcases b3 (by simpa using h) with h | ⟨_, h⟩
      · exact .inl h
      · exact absurd rfl h)
    exact this

/-- A row whose place is laid out grows into it. -/
theorem c_ifillTensor_0 {a b s : Sl} {x z : List Int} {w N : Nat} (hw : 0 < w) (hx : x.length = w) (hz : z.length = w) (hN : N * w ≤ 1048576) {H : AH} {d : Nat} {els : List (List Int)} (hs : IS H s x) (hsd : s.b ≠ d) (hd : d < H.length) :
    ∀ (k i : Nat), i + k = N → R (.loop F.ifillTensor 0) [ssc s, isc (N : Int), isc (i : Int), tpv a b ⟨d, 0, i * w, N * w, true⟩] (H.set d ⟨ics (List.replicate i x ++ List.replicate k z).flatten, .rw, 1⟩) =
      some ⟨2, [tpv a b ⟨d, 0, N * w, N * w, true⟩], H.set d ⟨ics (List.replicate N x).flatten, .rw, 1⟩⟩
  | 0, i, hi => by
    obtain rfl : i = N := by omega
    rw [R_eq, e_ifillTensor_0, lt_self]; simp
  | k + 1, i, hi => by
    have hlt : i < N := by omega
    have hu : Uni w (List.replicate i x ++ List.replicate (k + 1) z) := fun e he => by
      rcases List.mem_append.1 he with he | he
      · rw [(List.mem_replicate.1 he).2]; exact hx
      · rw [(List.mem_replicate.1 he).2]; exact hz
    have hfl := uni_len hu
    have hfl2 : (List.replicate i x ++ List.replicate (k + 1) z).length = N := by simp; omega
    rw [hfl2] at hfl
    have hb : (H.set d ⟨ics (List.replicate i x ++ List.replicate (k + 1) z).flatten, .rw, 1⟩)[d]? = some ⟨ics (List.replicate i x ++ List.replicate (k + 1) z).flatten, .rw, 1⟩ := by simp [hd]
    have hnw : i * w + w ≤ N * w := by rw [← Nat.succ_mul]; exact Nat.mul_le_mul_right _ (by omega)
    have hN1 : N ≤ 1048576 := Nat.le_trans (Nat.le_mul_of_pos_right N hw) hN
    rw [R_eq, e_ifillTensor_0, lt_true hlt, w1 hlt (by omega), cond_true, (hs.set (fun _ => hsd)).rng]
    simp only [Option.bind_some]
    have ha : appB (H.set d ⟨ics (List.replicate i x ++ List.replicate (k + 1) z).flatten, .rw, 1⟩) 1 8 ⟨d, 0, i * w, N * w, true⟩ (ics x) s.n = some (⟨d, 0, (i + 1) * w, N * w, true⟩, H.set d ⟨ics (List.replicate (i + 1) x ++ List.replicate k z).flatten, .rw, 1⟩) := by
      unfold appB
      rw [hs.n, hx, if_pos (by show i * w + w ≤ N * w; omega)]
      simp only [Nat.zero_add, Nat.mul_one]
      rw [putR_ics hb (by rw [hfl, hx]; omega), set_set, putL_flat hu (by rw [hfl2]; omega) hx]
      simp only [Option.map_some, Nat.add_mul, Nat.one_mul]
      have : (List.replicate i x ++ List.replicate (k + 1) z).set i x = List.replicate (i + 1) x ++ List.replicate k z := by
        rw [List.set_append_right _ _ (by simp), List.length_replicate, Nat.sub_self, List.replicate_succ (n := k), List.set_cons_zero, List.replicate_succ' (n := i)]
        simp
      rw [this]
    rw [ha]
    simp only [Option.bind_some]
    exact c_ifillTensor_0 hw hx hz hN hs hsd hd (els := els) k (i + 1) (by omega)

/-- impl.fillTensor -/
theorem c_ifillTensor {r : Rg} {H : AH} {u v s : Sl} {L D x : List Int} {w : Nat} (hu : IS H u L) (hv : IS H v D) (hs : IS H s x) (hL : L.length ≤ 1048576) (hD : DimsOk D) (hw : 0 < w) (hw6 : w ≤ 6) (hx : x.length = w) :
    ∃ a b c H', R (.fn F.ifillTensor) [r.pv, ssc u, ssc v, ssc s] H = some ⟨1, [tpv a b c], H'⟩ ∧ NewT H H' a b c ⟨L, D, (List.replicate (prd D).toNat x).flatten⟩ := by
  obtain ⟨N, hN, hN1, hN2, hN3⟩ := hD.nat
  obtain ⟨a, H1, e1, l1, o1⟩ := c_icopyInts hu (by omega)
  obtain ⟨b, H2, e2, l2, o2⟩ := c_icopyInts (hv.le l1) (by have := hD.1; omega)
  have l12 := l1.trans l2
  have hNw : N * w ≤ 4096 * 6 := Nat.mul_le_mul hN2 hw6
  have hs2 := hs.le l12
  have hxne : x ≠ [] := fun e => by rw [e] at hx; simp at hx; omega
  have hle := Le.app H2 [⟨ics (List.replicate (N * w) 0), .rw, 1⟩]
  have hpi : prodI 1 D = (N : Int) := by rw [prodI_eq, hN]; omega
  have hmk : mkB H2 1 8 [.int .i64 0] 0 ((N * w : Nat) : Int) = some (⟨H2.length, 0, 0, N * w, true⟩, H2 ++ [⟨ics (List.replicate (N * w) 0), .rw, 1⟩]) := by
    unfold mkB
    have := most_ok (n := N * w) (by omega)
    rw [if_pos ⟨by omega, by omega, by omega, by omega, by omega⟩]
    rw [Int.toNat_natCast, Int.toNat_zero]
    simp [List.map_replicate, List.flatten_replicate_singleton]
  have hz0 : (List.replicate 0 x ++ List.replicate N (List.replicate w (0 : Int))).flatten = List.replicate (N * w) 0 := by simp
  have hlt : s.b ≠ H2.length := by have := hs2.lt hxne; omega
  have lp := c_ifillTensor_0 (a := a) (b := b) (s := s) hw hx (z := List.replicate w 0) (by simp) (N := N) (by omega) (H := H2 ++ [⟨ics (List.replicate (N * w) 0), .rw, 1⟩]) (d := H2.length) (els := []) (hs2.le hle) hlt (by simp) N 0 (by omega)
  rw [hz0, set_same (by simp), app_set] at lp
  have lp : R (.loop F.ifillTensor 0) [ssc s, isc (N : Int), isc 0, tpv a b ⟨H2.length, 0, 0, N * w, true⟩] (H2 ++ [⟨ics (List.replicate (N * w) 0), .rw, 1⟩]) = some ⟨2, [tpv a b ⟨H2.length, 0, N * w, N * w, true⟩], H2 ++ [⟨ics (List.replicate N x).flatten, .rw, 1⟩]⟩ := by
    rw [Nat.zero_mul] at lp; exact lp
  have hfl : (List.replicate N x).flatten.length = N * w := by rw [uni_len (Uni.rep hx)]; simp
  refine ⟨a, b, ⟨H2.length, 0, N * w, N * w, true⟩, H2 ++ [⟨ics (List.replicate N x).flatten, .rw, 1⟩], ?_, ⟨l12.push _, ?_⟩⟩
  · have e4 : IntKind.wrap .i64 ((N : Int) * (s.n : Int)) = ((N * w : Nat) : Int) := by
      rw [hs.n, hx, ← Int.natCast_mul, wrap_id] <;> omega
    rw [R_eq, e_ifillTensor, e1]
    simp only [Option.bind_some, one_sl]
    rw [e2]
    simp only [Option.bind_some, one_sl]
    rw [c_iproductOf (hv.le l12) hD.1 hD.2.1, hpi]
    simp only [Option.bind_some, one_int]
    rw [e4, hmk]
    simp only [Option.bind_some]
    rw [lp]
    rfl
  · rw [hN3]
    have oc : Own H2.length (H2 ++ [⟨ics (List.replicate N x).flatten, .rw, 1⟩]) ⟨H2.length, 0, N * w, N * w, true⟩ (List.replicate N x).flatten := by
      have := own_at (n0 := H2.length) (H := H2 ++ [⟨ics (List.replicate N x).flatten, .rw, 1⟩]) (l := (List.replicate N x).flatten) (Nat.le_refl _) (by simp)
      unfold rowAt at this
      rw [hfl] at this; exact this
    refine Rows.cons (Rows.cons (Rows.cons (Rows.nil _ _) (oc.low l12.len) (by simp)) ((o2.low l1.len).le (Le.app _ _)) (fun h1 q hq hq2 => ?_)) ((o1.le l2).le (Le.app _ _)) (fun h1 q hq hq2 => ?_)
    · simp at hq; subst hq
      have := o2.lt h1
      show b.b ≠ H2.length; omega
    · have ha := o1.lt h1
      have hl2 := l2.len
      simp at hq
      rcases hq with rfl | rfl
      · rcases o2.lo with h | h
        · exact absurd h hq2
        · show a.b ≠ b.b; omega
      · show a.b ≠ H2.length; omega
end Go.Abs
/- Contracts: pairs; uses of a label; a clause's truth; rows that are collected. -/
namespace Go.Abs
set_option linter.unusedVariables false
set_option linter.unusedSimpArgs false

/-- What a walk collects. -/
def colF {α : Type} (g : Nat → α → Option Int) : List α → Nat → List Int
  | [], _ => []
  | a :: l, i => (g i a).toList ++ colF g l (i + 1)
theorem collect {α : Type} {l : List α} {H0 : AH} {F : Nat → Sl → AH → Option Out} {fin : Sl → AH → Option Out} (g : Nat → α → Option Int) (hend : ∀ s H, F l.length s H = fin s H)
    (hstep : ∀ i (h : i < l.length) s H acc, Le H0 H → Own H0.length H s acc → acc.length ≤ l.length → ∃ s' H', F i s H = F (i + 1) s' H' ∧ Own H0.length H' s' (acc ++ (g i l[i]).toList) ∧ Le H0 H') {s0 : Sl} {H : AH} (hle : Le H0 H) (ho : Own H0.length H s0 []) :
    ∃ s' H', F 0 s0 H = fin s' H' ∧ Own H0.length H' s' (colF g l 0) ∧ Le H0 H' := by
  have key : ∀ k i, i + k = l.length → ∀ s H acc, Le H0 H → Own H0.length H s acc → acc.length ≤ i → ∃ s' H', F i s H = fin s' H' ∧ Own H0.length H' s' (acc ++ colF g (l.drop i) i) ∧ Le H0 H' := by
    intro k
    induction k with
    | zero =>
      intro i hi s H acc h1 h2 h3
      obtain rfl : i = l.length := by omega
      exact ⟨s, H, hend s H, by simpa [colF] using h2, h1⟩
    | succ k ih =>
      intro i hi s H acc h1 h2 h3
      have hlt : i < l.length := by omega
      obtain ⟨s1, H1, e1, o1, l1⟩ := hstep i hlt s H acc h1 h2 (by omega)
      have hle1 : (g i l[i]).toList.length ≤ 1 := by cases g i l[i] <;> simp
      obtain ⟨s', H', e2, o2, l2⟩ := ih (i + 1) (by omega) s1 H1 _ l1 o1 (by rw [List.length_append]; omega)
      refine ⟨s', H', by rw [e1, e2], ?_, l2⟩
      rw [List.drop_eq_getElem_cons hlt]
      simpa [colF] using o2
  have := key l.length 0 (by omega) s0 H [] hle ho (Nat.le_refl _)
  simpa using this

theorem push_le {H0 H : AH} {s : Sl} {l : List Int} (hle : Le H0 H) (h : Own H0.length H s l) (hl : l.length < 134217728) (v : Int) :
    ∃ s' H', (∀ {α : Type} (k : Sl × AH → Option α), ((newB H 1 [.int .i64 v]).bind fun h => (rng h.2 h.1 0 (1 * 1)).bind fun q => (appB h.2 1 8 s q 1).bind k) = k (s', H')) ∧ Own H0.length H' s' (l ++ [v]) ∧ Le H0 H' := by
  obtain ⟨s', H', e, o, l1, f, b⟩ := push_own hle.len h hl v
  refine ⟨s', H', e, o, hle.lo_trans (Lo.mk l1 fun d hd => f d (by have := hle.len; omega) ?_)⟩
  rcases h.lo with h | h
  · exact .inr h
  · exact .inl (by omega)
structure ValsOk (vals : List Int) (l : List Int) : Prop where
  bit : ∀ v ∈ vals, v = 0 ∨ v = 1
  lit : ∀ x ∈ l, x ≠ 0 ∧ x.natAbs ≤ vals.length
  len : vals.length ≤ 1048576
  cl : l.length ≤ 1048576
end Go.Abs
/- Words: what a function has made so far (a frame), and how it changes. -/
namespace Go.Abs
set_option linter.unusedVariables false
set_option linter.unusedSimpArgs false

/-- A row changes in place. -/
structure Mut (n0 : Nat) (H H' : AH) (s : Sl) (l l' : List Int) : Prop where
  own : Own n0 H' s l'
  len : H'.length = H.length
  fr : ∀ b, (b ≠ s.b ∨ l = []) → H'[b]? = H[b]?
theorem Mut.trans {n0 : Nat} {H H1 H2 : AH} {s : Sl} {l l1 l2 : List Int} (h : Mut n0 H H1 s l l1) (k : Mut n0 H1 H2 s l1 l2) (e : l = [] → l1 = []) : Mut n0 H H2 s l l2 :=
  ⟨k.own, k.len.trans h.len, fun b hb => (k.fr b (hb.imp id e)).trans (h.fr b hb)⟩
theorem Mut.le {n0 : Nat} {H0 H H' : AH} {s : Sl} {l l' : List Int} (h : Mut n0 H H' s l l') (hle : Le H0 H) (hs : l = [] ∨ H0.length ≤ s.b) : Le H0 H' :=
  ⟨by rw [h.len]; exact hle.len, fun b hb => (h.fr b (by
    rcases hs with h | h
    · exact .inr h
    · exact .inl (by omega))).trans (hle.get b hb)⟩
theorem Mut.refl {n0 : Nat} {H : AH} {s : Sl} {l : List Int} (h : Own n0 H s l) : Mut n0 H H s l l := ⟨h, rfl, fun _ _ => rfl⟩
/-- The block of a row that is not empty is overwritten. -/
theorem Mut.set {n0 : Nat} {H : AH} {s : Sl} {l l' : List Int} (h : Own n0 H s l) (hl : l ≠ []) (hn : l'.length = l.length) : Mut n0 H (H.set s.b ⟨ics l', .rw, 1⟩) s l l' := by
  have hlt := h.lt hl
  refine ⟨⟨h.o, by rw [hn]; exact h.n, by rw [hn]; exact h.c, ?_, .inr ⟨fun e => hl (by rw [e] at hn; exact List.length_eq_zero_iff.1 hn.symm), by simp [hlt]⟩⟩, by simp, fun b hb => ?_⟩
  · rcases h.lo with h | h
    · exact absurd h hl
    · exact .inr h
  · rcases hb with hb | hb
    · rw [List.getElem?_set_ne (Ne.symm hb)]
    · exact absurd hb hl
theorem Own.blk' {n0 : Nat} {H : AH} {s : Sl} {l : List Int} (h : Own n0 H s l) (hl : l ≠ []) : H[s.b]? = some ⟨ics l, .rw, 1⟩ := by
  rcases h.blk with ⟨e, _⟩ | ⟨_, e⟩
  · exact absurd e hl
  · exact e
theorem Own.eta {n0 : Nat} {H : AH} {s : Sl} {l : List Int} (h : Own n0 H s l) : s = ⟨s.b, 0, l.length, l.length, s.x⟩ := by
  have h1 := h.o; have h2 := h.n; have h3 := h.c
  cases s; simp_all

structure Fr (H0 H : AH) (rs : List Row) : Prop where
  le : Le H0 H
  rows : Rows H0.length H rs
theorem Fr.start (H : AH) : Fr H H [] := ⟨Le.refl H, Rows.nil _ _⟩
theorem Fr.of {H0 H : AH} (h : Le H0 H) : Fr H0 H [] := ⟨h, Rows.nil _ _⟩
theorem Fr.own {H0 H : AH} {rs : List Row} (h : Fr H0 H rs) {s : Sl} {l : List Int} (hp : (s, l) ∈ rs) : Own H0.length H s l := h.rows.own _ hp
theorem Fr.is {H0 H : AH} {rs : List Row} (h : Fr H0 H rs) {s : Sl} {l : List Int} (hp : (s, l) ∈ rs) : IS H s l := (h.own hp).is
theorem Fr.sub {H0 H : AH} {rs qs : List Row} (h : Fr H0 H rs) (hs : qs.Sublist rs) : Fr H0 H qs := ⟨h.le, h.rows.sub hs⟩
theorem Fr.perm {H0 H : AH} {rs qs : List Row} (h : Fr H0 H rs) (hp : qs.Perm rs) : Fr H0 H qs := ⟨h.le, h.rows.perm hp⟩
theorem Fr.mut {H0 H H' : AH} (xs : List Row) {ys : List Row} {s : Sl} {l l' : List Int} (h : Fr H0 H (xs ++ (s, l) :: ys)) (m : Mut H0.length H H' s l l') (he : l = [] → l' = []) : Fr H0 H' (xs ++ (s, l') :: ys) :=
  ⟨m.le h.le (h.own (s := s) (l := l) (by simp)).lo, h.rows.upd (p := (s, l)) m.own (fun b hb hne => m.fr b hne) fun hl => .inr ⟨rfl, fun e => hl (he e)⟩⟩
/-- Memory that is no longer asked for. -/
theorem Fr.ext {H0 H H' : AH} {rs : List Row} (h : Fr H0 H rs) (k : Le H H') : Fr H0 H' rs := ⟨h.le.trans k, h.rows.le k⟩
theorem rows_after {n0 : Nat} {H H' : AH} {rs qs : List Row} (h : Rows n0 H rs) (hn : n0 ≤ H.length) (hle : Le H H') (k : Rows H.length H' qs) : Rows n0 H' (qs ++ rs) := by
  have := (h.le hle).app k hn h.lt
  exact this.perm List.perm_append_comm
theorem Fr.new {H0 H H' : AH} {rs : List Row} {s : Sl} {l : List Int} (h : Fr H0 H rs) (hle : Le H H') (ho : Own H.length H' s l) : Fr H0 H' ((s, l) :: rs) :=
  ⟨h.le.trans hle, rows_after (qs := [(s, l)]) h.rows h.le.len hle ((Rows.nil _ _).cons ho (by simp))⟩
theorem Fr.newN {H0 H H' : AH} {rs : List Row} {s : Sl} {l : List Int} (h : Fr H0 H rs) (k : New H H' s l) : Fr H0 H' ((s, l) :: rs) := h.new k.le k.own
theorem Fr.newT {H0 H H' : AH} {rs : List Row} {a b c : Sl} {t : Tn} (h : Fr H0 H rs) (k : NewT H H' a b c t) : Fr H0 H' ((a, t.L) :: (b, t.D) :: (c, t.X) :: rs) :=
  ⟨h.le.trans k.le, rows_after (qs := rows3 a b c t) h.rows h.le.len k.le k.rows⟩
theorem Fr.empty {H0 H : AH} {rs : List Row} (h : Fr H0 H rs) (b : Nat) : Fr H0 H ((⟨b, 0, 0, 0, true⟩, []) :: rs) := ⟨h.le, h.rows.cons (Own.nil _ _ _) (by simp)⟩
theorem Fr.mk0 {H0 H : AH} {rs : List Row} (h : Fr H0 H rs) (n : Nat) : Fr H0 (H ++ [⟨ics (List.replicate n 0), .rw, 1⟩]) ((⟨H.length, 0, n, n, true⟩, List.replicate n 0) :: rs) := by
  have := h.newN (new_app H (List.replicate n 0))
  unfold rowAt at this
  rw [List.length_replicate] at this
  exact this
/-- A row grows. -/
theorem Fr.app {H0 H : AH} (xs : List Row) {ys : List Row} {s : Sl} {l m : List Int} (h : Fr H0 H (xs ++ (s, l) :: ys)) (hl : l.length + m.length ≤ 134217728) :
    ∃ s' H', appB H 1 8 s (ics m) m.length = some (s', H') ∧ Fr H0 H' (xs ++ (s', l ++ m) :: ys) ∧ H.length ≤ H'.length := by
  obtain ⟨s', H', e, o, l1, f, f2, f3⟩ := app_own h.le.len (h.own (s := s) (l := l) (by simp)) hl
  refine ⟨s', H', e, ⟨h.le.lo_trans (Lo.mk l1 fun d hd => f d (by have := h.le.len; omega) ?_), h.rows.upd (p := (s, l)) o f fun hne => ?_⟩, l1⟩
  · rcases (h.own (s := s) (l := l) (by simp)).lo with h | h
    · exact .inr h
    · exact .inl (by omega)
  · by_cases hm : m = []
    · subst hm
      rw [List.append_nil] at hne
      exact .inr ⟨by rw [(f2 rfl).1], hne⟩
    · exact .inl (f3 hm)
theorem Fr.push {H0 H : AH} (xs : List Row) {ys : List Row} {s : Sl} {l : List Int} (h : Fr H0 H (xs ++ (s, l) :: ys)) (hl : l.length < 134217728) (v : Int) :
    ∃ s' H', (∀ {α : Type} (k : Sl × AH → Option α), ((newB H 1 [.int .i64 v]).bind fun h => (rng h.2 h.1 0 (1 * 1)).bind fun q => (appB h.2 1 8 s q 1).bind k) = k (s', H')) ∧ Fr H0 H' (xs ++ (s', l ++ [v]) :: ys) := by
  obtain ⟨s', H', e, o, l1, f, f3⟩ := push_own h.le.len (h.own (s := s) (l := l) (by simp)) hl v
  refine ⟨s', H', e, ⟨h.le.lo_trans (Lo.mk l1 fun d hd => f d (by have := h.le.len; omega) ?_), h.rows.upd (p := (s, l)) o f fun hne => .inl f3⟩⟩
  rcases (h.own (s := s) (l := l) (by simp)).lo with h | h
  · exact .inr h
  · exact .inl (by omega)

/-- impl.nextIndex -/
theorem m_inextIndex {n0 : Nat} {H : AH} {s u : Sl} {D I : List Int} (h : IS H s D) (hl : D.length ≤ 1048576) (ho : Own n0 H u I) (hs : D ≠ [] → s.b ≠ u.b) (hi : I.length = D.length) (hx : ∀ x ∈ I, 0 ≤ x ∧ x ≤ 1048576) :
    ∃ H', R (.fn F.inextIndex) [ssc s, ssc u] H = some ⟨1, [bsc (nextF D I).1], H'⟩ ∧ Mut n0 H H' u I (nextF D I).2 := by
  by_cases he : I = []
  · subst he
    have : D = [] := List.length_eq_zero_iff.1 (by simpa using hi.symm)
    subst this
    refine ⟨H, ?_, Mut.refl ho⟩
    rw [R_eq, e_inextIndex, h.n]
    have : R (.loop F.inextIndex 0) [ssc s, ssc u, isc (IntKind.wrap .i64 (((([] : List Int).length : Nat) : Int) - 1))] H = some ⟨2, [], H⟩ := by
      rw [wdown (by simp), R_eq, e_inextIndex_0]; rfl
    rw [this]; rfl
  · have hc := c_inextIndex (x := u.x) h hl (ho.blk' he) hs hi hx
    rw [← ho.eta] at hc
    refine ⟨_, hc, Mut.set ho he ?_⟩
    unfold nextF
    rw [List.length_reverse, nextR_len (by simp [hi])]
    simp [hi]
/-- spec.l05Put -/
theorem m_sl05Put {n0 : Nat} {r : Rg} {H : AH} {a b c s : Sl} {els : List (List Int)} {v : List Int} {n w : Nat} (hw : widthR r = (w : Int)) (hw0 : 0 < w) (hu : Uni w els) (hn : n < els.length) (hv : v.length = w) (ho : Own n0 H c els.flatten)
    (hs : IS H s v) (hsb : s.b ≠ c.b) (hsm : els.length * w ≤ 1048576) :
    ∃ H', R (.fn F.sl05Put) [r.pv, tpv a b c, isc (n : Int), ssc s] H = some ⟨1, [], H'⟩ ∧ Mut n0 H H' c els.flatten (els.set n v).flatten := by
  have hl := uni_len hu
  have hne : els.flatten ≠ [] := fun e => by
    rw [e] at hl
    have : 0 < els.length * w := Nat.mul_pos (by omega) hw0
    simp at hl; omega
  refine ⟨_, c_sl05Put hw hu hn hv (ho.blk' hne) ho.o (by rw [ho.n, hl]) hs (fun _ => hsb) hsm, Mut.set ho hne ?_⟩
  rw [uni_len (hu.set hv), hl]; simp
end Go.Abs
/- Contracts: a clause's tensor (impl). -/
namespace Go.Abs
set_option linter.unusedVariables false
set_option linter.unusedSimpArgs false

theorem colF_mem {α : Type} {g : Nat → α → Option Int} : ∀ {l : List α} {i : Nat} {x : Int}, x ∈ colF g l i → ∃ j a, a ∈ l ∧ g j a = some x
  | [], _, x, h => by simp [colF] at h
  | a :: l, i, x, h => by
    simp only [colF, List.mem_append] at h
    rcases h with h | h
    · exact ⟨i, a, List.mem_cons_self, by cases hg : g i a <;> simp_all⟩
    · obtain ⟨j, b, hb, e⟩ := colF_mem h
      exact ⟨j, b, List.mem_cons_of_mem _ hb, e⟩
theorem colF_len {α : Type} {g : Nat → α → Option Int} : ∀ {l : List α} {i : Nat}, (colF g l i).length ≤ l.length
  | [], _ => by simp [colF]
  | a :: l, i => by
    simp only [colF, List.length_append, List.length_cons]
    have := colF_len (g := g) (l := l) (i := i + 1)
    have : (g i a).toList.length ≤ 1 := by cases g i a <;> simp
    omega
end Go.Abs
/- Contracts: a clause's tensor (impl), whole. -/
namespace Go.Abs
set_option linter.unusedVariables false
set_option linter.unusedSimpArgs false

theorem fits_mem : ∀ {D I : List Int}, fitsI D I → ∀ x ∈ I, ∃ d ∈ D, 0 ≤ x ∧ x < d
  | d :: ds, y :: ys, h, x, hx => by
    rcases List.mem_cons.1 hx with rfl | hx
    · exact ⟨d, List.mem_cons_self, h.1, h.2.1⟩
    · obtain ⟨e, he, h'⟩ := fits_mem h.2.2 x hx
      exact ⟨e, List.mem_cons_of_mem _ he, h'⟩
  | [], [], _, x, hx => by simp at hx
  | [], _ :: _, h, _, _ => h.elim
  | _ :: _, [], h, _, _ => h.elim
theorem row_ne {n0 : Nat} {H : AH} {rs : List Row} (h : Rows n0 H rs) {p q : Row} {xs ys zs : List Row} (e : rs = xs ++ p :: ys ++ q :: zs) (hp : p.2 ≠ []) (hq : q.2 ≠ []) : p.1.b ≠ q.1.b := by
  subst e
  have := h.apart
  rw [List.append_assoc, List.pairwise_append] at this
  have := this.2.1
  rw [List.cons_append, List.pairwise_cons] at this
  rcases this.1 q (by simp) with h | h | h
  · exact absurd h hp
  · exact absurd h hq
  · exact h

end Go.Abs
/- Words: a row of tensors of its own that grows. -/
namespace Go.Abs
set_option linter.unusedVariables false
set_option linter.unusedSimpArgs false

structure OOut (n0 : Nat) (H : AH) (s : Sl) (xs : List Tri) : Prop where
  o : s.o = 0
  n : s.n = xs.length
  c : s.c = xs.length
  blk : (xs = [] ∧ s.x = true) ∨ (xs ≠ [] ∧ n0 ≤ s.b ∧ H[s.b]? = some ⟨triC xs, .rw, 3⟩)
theorem OOut.outer {n0 : Nat} {H : AH} {s : Sl} {xs : List Tri} (h : OOut n0 H s xs) : Outer H s xs :=
  ⟨h.o, h.n, by rw [h.n, h.c]; exact Nat.le_refl _, by
    rcases h.blk with ⟨e, _⟩ | ⟨_, _, e⟩
    · exact .inl e
    · exact .inr ⟨.rw, triC xs, e, .inr rfl, fun i v h => h⟩⟩
theorem OOut.nil (n0 : Nat) (H : AH) (b : Nat) : OOut n0 H ⟨b, 0, 0, 0, true⟩ [] := ⟨rfl, rfl, rfl, .inl ⟨rfl, rfl⟩⟩
theorem OOut.keep {n0 : Nat} {H H' : AH} {s : Sl} {xs : List Tri} (h : OOut n0 H s xs) (hb : xs ≠ [] → H'[s.b]? = H[s.b]?) : OOut n0 H' s xs :=
  ⟨h.o, h.n, h.c, h.blk.imp id fun ⟨h1, h2, h3⟩ => ⟨h1, h2, (hb h1).trans h3⟩⟩
theorem OOut.lt {n0 : Nat} {H : AH} {s : Sl} {xs : List Tri} (h : OOut n0 H s xs) (hx : xs ≠ []) : s.b < H.length := by
  rcases h.blk with ⟨e, _⟩ | ⟨_, _, e⟩
  · exact absurd e hx
  · exact (List.getElem?_eq_some_iff.1 e).1
theorem OOut.le {n0 : Nat} {H H' : AH} {s : Sl} {xs : List Tri} (h : OOut n0 H s xs) (hb : Le H H') : OOut n0 H' s xs := h.keep fun hx => hb.get _ (h.lt hx)
theorem triC_app : ∀ (xs ys : List Tri), triC (xs ++ ys) = triC xs ++ triC ys
  | [], ys => rfl
  | x :: xs, ys => by simp [triC, triC_app xs ys]
theorem OOut.ne {n0 n1 : Nat} {H : AH} {s u : Sl} {xs : List Tri} {l : List Int} (h : OOut n0 H s xs) (hx : xs ≠ []) (ho : Own n1 H u l) (hl : l ≠ []) : u.b ≠ s.b := fun e => by
  have h1 := ho.blk' hl
  rcases h.blk with ⟨e', _⟩ | ⟨_, _, h2⟩
  · exact absurd e' hx
  · rw [e, h2] at h1; simp at h1

/-- A tensor is put at the end of a row of tensors. -/
theorem outer_push {H0 H : AH} {rs : List Row} {s : Sl} {xs : List Tri} (hF : Fr H0 H rs) (hO : OOut H0.length H s xs) (hl : xs.length ≤ 1048576) (a b c : Sl) :
    ∃ s' H', appB H 3 72 s [.sl a, .sl b, .sl c] 1 = some (s', H') ∧ Fr H0 H' rs ∧ OOut H0.length H' s' (xs ++ [(a, b, c)]) ∧ H.length ≤ H'.length ∧ (∀ d, d < H.length → (d ≠ s.b ∨ xs = []) → H'[d]? = H[d]?) := by
  have hlen := hF.le.len
  have hm : (s.n + 1) * 72 ≤ most := by rw [hO.n]; unfold most; omega
  have htri : triC (xs ++ [(a, b, c)]) = triC xs ++ [.sl a, .sl b, .sl c] := by rw [triC_app]; rfl
  have hrng : rng H s.b s.o (s.n * 3) = some (triC xs) := by
    unfold rng
    rcases hO.blk with ⟨e, _⟩ | ⟨e, _, h2⟩
    · subst e; rw [if_pos (by rw [hO.n]; rfl)]; rfl
    · have : xs.length ≠ 0 := fun h => e (List.length_eq_zero_iff.1 h)
      rw [if_neg (by rw [hO.n]; omega)]
      have hr : rdB H s.b = some (triC xs) := by unfold rdB; rw [h2]; rfl
      rw [hr]
      simp only [Option.bind_some]
      rw [if_pos (by rw [hO.o, hO.n, triC_len]; omega), hO.o, hO.n]
      simp only [List.drop_zero]
      rw [List.take_of_length_le (by rw [triC_len]; exact Nat.le_refl _)]
  unfold appB
  rw [if_neg (by rw [hO.n, hO.c]; omega), if_pos ⟨by omega, by omega, hm⟩, hrng]
  simp only [Option.bind_some]
  by_cases hx : s.x = true
  · simp only [hx]
    have hle := Le.app H [⟨triC xs ++ [.sl a, .sl b, .sl c], .rw, 3⟩]
    refine ⟨_, _, rfl, hF.ext hle, ⟨rfl, by simp [hO.n], by simp [hO.n], .inr ⟨by simp, hlen, by rw [htri]; simp⟩⟩, by simp, fun d hd _ => hle.get d hd⟩
  · have hx' : s.x = false := by cases e : s.x <;> simp_all
    simp only [hx']
    have hb : xs ≠ [] ∧ H0.length ≤ s.b ∧ H[s.b]? = some ⟨triC xs, .rw, 3⟩ := by
      rcases hO.blk with ⟨_, e⟩ | h
      · exact absurd e hx
      · exact h
    have hrw : rwB H s.b 3 = some (triC xs) := by unfold rwB; rw [hb.2.2]; rfl
    simp only [hrw, Option.bind_some]
    have hk : (killB H s.b).length = H.length := by simp [killB]
    have hget : ∀ d, d < H.length → d ≠ s.b → (killB H s.b ++ [(⟨triC xs ++ [.sl a, .sl b, .sl c], .rw, 3⟩ : Blk)])[d]? = H[d]? := fun d hd hne => by
      rw [List.getElem?_append_left (by omega)]
      unfold killB
      rw [List.getElem?_modify]
      have : ¬ s.b = d := fun e => hne e.symm
      simp [this]
    refine ⟨_, _, rfl, ⟨⟨by simp [hk]; omega, fun d hd => (hget d (by omega) (by omega)).trans (hF.le.get d hd)⟩, hF.rows.frame fun p hp hne => hget _ (hF.rows.lt p hp hne) (hO.ne hb.1 (hF.rows.own p hp) hne)⟩, ⟨rfl, by simp [hO.n], by simp [hO.n], .inr ⟨by simp, hlen, ?_⟩⟩, by simp [hk], fun d hd h => ?_⟩
    · rw [htri]
      have : H.length = (killB H s.b).length := hk.symm
      show (killB H s.b ++ _)[H.length]? = _
      rw [this]; simp
    · rcases h with h | h
      · exact hget d hd h
      · exact absurd h hb.1
theorem rng_new {H : AH} {b : Nat} {cs : List Sc} {z : Nat} (h : H[b]? = some ⟨cs, .rw, z⟩) {m : Nat} (hm : m = cs.length) (h0 : m ≠ 0) : rng H b 0 m = some cs := by
  unfold rng
  rw [if_neg h0]
  have hr : rdB H b = some cs := by unfold rdB; rw [h]; rfl
  rw [hr]
  simp only [Option.bind_some, List.drop_zero]
  rw [if_pos (by omega), List.take_of_length_le (by omega)]
/-- What a place is that was kept free for a value. -/
theorem newAt_ok {H : AH} {i z : Nat} {cs : List Sc} (h : H[i]? = some resB) (hz : z ≠ 0) : newAt H i z cs = some (i, H.set i ⟨cs, .rw, z⟩) := by
  unfold newAt
  have : isRes H i = true := by unfold isRes; rw [h]; rfl
  rw [if_pos ⟨this, hz⟩]
theorem reserve1 (H : AH) : reserve H 1 = H ++ [resB] := rfl

/-- The call that makes a tensor, kept apart in a place of its own, and the row that takes it. -/
theorem push_tensor {H0 H H1 : AH} {rs : List Row} {s a b c : Sl} {xs : List Tri} {t : Tn} (hF : Fr H0 H rs) (hO : OOut H0.length H s xs) (hl : xs.length ≤ 1048576) (ht : NewT (H ++ [resB]) H1 a b c t) :
    ∃ s' H', (∀ {α : Type} (k : Sl × AH → Option α), ((newAt H1 (H.length + 0) 3 [.sl a, .sl b, .sl c]).bind fun h => (rng h.2 h.1 0 (1 * 3)).bind fun l => (appB h.2 3 72 s l 1).bind k) = k (s', H')) ∧
      Fr H0 H' (rows3 a b c t ++ rs) ∧ OOut H0.length H' s' (xs ++ [(a, b, c)]) ∧ H.length ≤ H'.length ∧ (∀ d, d < H.length → (d ≠ s.b ∨ xs = []) → H'[d]? = H[d]?) := by
  have hle := (Le.app H [resB]).trans ht.le
  have hres : H1[H.length]? = some resB := by rw [ht.le.get _ (by simp)]; simp
  have F1 : Fr H0 H1 (rows3 a b c t ++ rs) := by
    have := (hF.ext (Le.app H [resB])).newT ht
    exact this
  have hl1 : H.length < H1.length := by have := ht.le.len; simp at this; omega
  have hset : ∀ d, d ≠ H.length → (H1.set H.length ⟨[.sl a, .sl b, .sl c], .rw, 3⟩)[d]? = H1[d]? := fun d hd => List.getElem?_set_ne (Ne.symm hd)
  have hlt : H0.length ≤ H.length := hF.le.len
  have F2 : Fr H0 (H1.set H.length ⟨[.sl a, .sl b, .sl c], .rw, 3⟩) (rows3 a b c t ++ rs) := ⟨F1.le.set hlt, F1.rows.frame fun p hp hne => hset _ fun e => by
    have := (F1.rows.own p hp).blk' hne
    rw [e, hres] at this; simp [resB] at this⟩
  have hO1 := hO.le hle
  have hO2 : OOut H0.length (H1.set H.length ⟨[.sl a, .sl b, .sl c], .rw, 3⟩) s xs := hO1.keep fun hx => hset _ (by have := hO.lt hx; omega)
  obtain ⟨s', H', e, F3, O3, l3, f3⟩ := outer_push F2 hO2 hl a b c
  refine ⟨s', H', fun k => ?_, F3, O3, by simp at l3; omega, fun d hd h => ?_⟩
  · rw [Nat.add_zero, newAt_ok hres (by omega)]
    simp only [Option.bind_some]
    rw [rng_new (cs := [.sl a, .sl b, .sl c]) (z := 3) (m := 1 * 3) (by simp [hl1]) rfl (by omega)]
    simp only [Option.bind_some]
    rw [e]; rfl
  · rw [f3 d (by simp; omega) h, hset d (by omega), hle.get d hd]
/-- The same where the place is laid out after the call. -/
theorem push_tensor' {H0 H : AH} {rs : List Row} {s a b c : Sl} {xs : List Tri} (hF : Fr H0 H rs) (hO : OOut H0.length H s xs) (hl : xs.length ≤ 1048576) :
    ∃ s' H', (∀ {α : Type} (k : Sl × AH → Option α), ((newB H 3 [.sl a, .sl b, .sl c]).bind fun h => (rng h.2 h.1 0 (1 * 3)).bind fun l => (appB h.2 3 72 s l 1).bind k) = k (s', H')) ∧
      Fr H0 H' rs ∧ OOut H0.length H' s' (xs ++ [(a, b, c)]) ∧ H.length ≤ H'.length ∧ (∀ d, d < H.length → (d ≠ s.b ∨ xs = []) → H'[d]? = H[d]?) := by
  have hle := Le.app H [⟨[.sl a, .sl b, .sl c], .rw, 3⟩]
  obtain ⟨s', H', e, F3, O3, l3, f3⟩ := outer_push (hF.ext hle) (hO.le hle) hl a b c
  refine ⟨s', H', fun k => ?_, F3, O3, by simp at l3; omega, fun d hd h => ?_⟩
  · have hnb : newB H 3 [.sl a, .sl b, .sl c] = some (H.length, H ++ [⟨[.sl a, .sl b, .sl c], .rw, 3⟩]) := rfl
    rw [hnb]
    simp only [Option.bind_some]
    rw [rng_new (cs := [.sl a, .sl b, .sl c]) (z := 3) (m := 1 * 3) (by simp) rfl (by omega)]
    simp only [Option.bind_some]
    rw [e]; rfl
  · rw [f3 d (by simp; omega) h, hle.get d hd]
theorem rowsT_snoc : ∀ {xs : List Tri} {ts : List Tn} (x : Tri) (t : Tn), xs.length = ts.length → rowsT (xs ++ [x]) (ts ++ [t]) = rowsT xs ts ++ rows3 x.1 x.2.1 x.2.2 t
  | [], [], x, t, _ => by simp [rowsT]
  | y :: xs, u :: ts, x, t, h => by simp [rowsT, rowsT_snoc x t (show xs.length = ts.length by simpa using h)]
  | [], _ :: _, _, _, h => by simp at h
  | _ :: _, [], _, _, h => by simp at h
theorem Fr.snocT {H0 H : AH} {a b c : Sl} {t : Tn} {xs : List Tri} {ts : List Tn} {rs : List Row} (h : Fr H0 H (rows3 a b c t ++ (rowsT xs ts ++ rs))) (hl : xs.length = ts.length) : Fr H0 H (rowsT (xs ++ [(a, b, c)]) (ts ++ [t]) ++ rs) := by
  rw [rowsT_snoc _ _ hl]
  refine h.perm ?_
  rw [← List.append_assoc]
  exact List.perm_append_comm.append_right rs
/-- Such a row reads as its tensors. -/
theorem t3_of {H : AH} {s : Sl} {xs : List Tri} {ts : List Tn} (hO : Outer H s xs) (hl : xs.length = ts.length) (hr : ∀ p ∈ rowsT xs ts, IS H p.1 p.2) : T3 H s ts := by
  refine ⟨by rw [hO.n, hl], hO.c, ?_⟩
  rcases hO.blk with e | ⟨st, cells, hb, hst, hc⟩
  · subst e; exact .inl (List.length_eq_zero_iff.1 hl.symm)
  · refine .inr ⟨cells, ?_, fun i t hi => ?_⟩
    · unfold rdB
      rw [hb]
      rcases hst with rfl | rfl <;> rfl
    · have hi1 := (List.getElem?_eq_some_iff.1 hi).1
      have hx : xs[i]? = some xs[i] := List.getElem?_eq_getElem (by omega)
      obtain ⟨t1, t2, t3⟩ := triC_at xs i _ hx
      have key : ∀ (xs : List Tri) (ts : List Tn) (i : Nat) x t, xs[i]? = some x → ts[i]? = some t → ∀ p ∈ rows3 x.1 x.2.1 x.2.2 t, p ∈ rowsT xs ts := by
        intro xs
        induction xs with
        | nil => intro ts i x t h; simp at h
        | cons y xs ih =>
          intro ts i x t h1 h2 p hp
          cases ts with
          | nil => simp at h2
          | cons u ts =>
            cases i with
            | zero => simp at h1 h2; subst h1; subst h2; simp only [rowsT, List.mem_append]; exact .inl hp
            | succ i => simp only [rowsT, List.mem_append]; exact .inr (ih ts i x t (by simpa using h1) (by simpa using h2) p hp)
      have hk := key xs ts i _ t hx hi
      rw [hO.o, Nat.zero_add]
      exact ⟨_, _, _, hc _ _ t1, hc _ _ t2, hc _ _ t3, ⟨hr (_, t.L) (hk _ (by simp)), hr (_, t.D) (hk _ (by simp)), hr (_, t.X) (hk _ (by simp))⟩⟩
end Go.Abs
/- Contracts: a formula's network (impl). -/
namespace Go.Abs
set_option linter.unusedVariables false
set_option linter.unusedSimpArgs false

def bcs (l : List Bool) : List Sc := l.map Sc.bool
theorem take_snoc_any {α : Type} {l : List α} {i : Nat} (h : i < l.length) : l.take (i + 1) = l.take i ++ [l[i]] := by rw [List.take_succ_eq_append_getElem h]
theorem bool_put {H : AH} {b n : Nat} {x : Bool} {cs : List Bool} (hb : H[b]? = some ⟨bcs cs, .rw, 1⟩) {i : Nat} (hi : i < n) (hc : i < cs.length) (v : Bool) {α : Type} (k : AH → Option α) :
    ((ixA ⟨b, 0, n, n, x⟩ (i : Int) 1).bind fun o => (putR H b o [.bool v]).bind k) = k (H.set b ⟨bcs (cs.set i v), .rw, 1⟩) := by
  rw [ixA_nat (by exact hi)]
  simp only [Option.bind_some, Nat.zero_add, Nat.mul_one]
  rw [putR_one hb (by simpa [bcs] using hc)]
  simp only [Option.bind_some, bcs, List.map_set]
theorem bool_ld {H : AH} {b n : Nat} {x : Bool} {cs : List Bool} (hb : H[b]? = some ⟨bcs cs, .rw, 1⟩) {i : Nat} (hi : i < n) (hc : i < cs.length) {α : Type} (k : Bool → Option α) :
    ((ixA ⟨b, 0, n, n, x⟩ (i : Int) 1).bind fun o => (rdB H b).bind fun q => (boolAt q o).bind k) = k cs[i] := by
  rw [ixA_nat (by exact hi)]
  have hr : rdB H b = some (bcs cs) := by unfold rdB; rw [hb]; rfl
  have hg : boolAt (bcs cs) (0 + i * 1) = some cs[i] := by
    unfold boolAt bcs
    simp [hc]
  simp only [Option.bind_some, hr, hg]

structure NetS (H0 H : AH) (s : Sl) (xs : List Tri) (ts : List Tn) : Prop where
  fr : Fr H0 H (rowsT xs ts)
  len : xs.length = ts.length
  out : OOut H0.length H s xs
theorem NetS.t3 {H0 H : AH} {s : Sl} {xs : List Tri} {ts : List Tn} (h : NetS H0 H s xs ts) : T3 H s ts := t3_of h.out.outer h.len fun p hp => (h.fr.rows.own p hp).is

end Go.Abs
/- Contracts: a formula's network (impl), whole. -/
namespace Go.Abs
set_option linter.unusedVariables false
set_option linter.unusedSimpArgs false

theorem n0z : ((0 : Nat) : Int) = 0 := rfl
/-- A tensor that a call makes in a place of its own is put at the end. -/
theorem NetS.push {H0 H H1 : AH} {s a b c : Sl} {xs : List Tri} {ts : List Tn} {t : Tn} (h : NetS H0 H s xs ts) (hl : ts.length ≤ 1048576) (ht : NewT (H ++ [resB]) H1 a b c t) :
    ∃ s' xs' H', (∀ {α : Type} (k : Sl × AH → Option α), ((newAt H1 (H.length + 0) 3 [.sl a, .sl b, .sl c]).bind fun h => (rng h.2 h.1 0 (1 * 3)).bind fun l => (appB h.2 3 72 s l 1).bind k) = k (s', H')) ∧
      NetS H0 H' s' xs' (ts ++ [t]) ∧ H.length ≤ H'.length ∧ (∀ d, d < H.length → (d ≠ s.b ∨ xs = []) → H'[d]? = H[d]?) := by
  obtain ⟨s', H', e, F, O, l, f⟩ := push_tensor h.fr h.out (by rw [h.len]; exact hl) ht
  have F3 := Fr.snocT (rs := []) (xs := xs) (by simpa using F) h.len
  rw [List.append_nil] at F3
  exact ⟨s', xs ++ [(a, b, c)], H', e, ⟨F3, by simp [h.len], O⟩, l, f⟩

@[reducible] def npv0 : PV := .agg [.int .i64 0, .int .i64 0, .int .i64 0, .sl ⟨0, 0, 0, 0, true⟩, .sl ⟨0, 0, 0, 0, true⟩]

theorem mk_bools {H : AH} {n : Nat} (hn : n ≤ 134217728) : mkB H 1 1 [.bool false] (n : Int) (n : Int) = some (⟨H.length, 0, n, n, true⟩, H ++ [⟨bcs (List.replicate n false), .rw, 1⟩]) := by
  unfold mkB
  have := most_ok hn
  rw [if_pos ⟨by omega, by omega, by omega, by omega, by omega⟩]
  simp [bcs, List.map_replicate, List.flatten_replicate_singleton]

end Go.Abs
/- Contracts: a formula's network (spec). -/
namespace Go.Abs
set_option linter.unusedVariables false
set_option linter.unusedSimpArgs false

theorem colF_app {α : Type} (g : Nat → α → Option Int) : ∀ (a b : List α) (i : Nat), colF g (a ++ b) i = colF g a i ++ colF g b (i + a.length)
  | [], b, i => by simp [colF]
  | x :: a, b, i => by
    simp only [List.cons_append, colF, List.length_cons]
    rw [colF_app g a b (i + 1)]
    simp [Nat.add_assoc, Nat.add_comm 1]
end Go.Abs
/- Contracts: a formula's network (spec), whole. -/
namespace Go.Abs
set_option linter.unusedVariables false
set_option linter.unusedSimpArgs false

theorem NetS.ext {H0 H H' : AH} {s : Sl} {xs : List Tri} {ts : List Tn} (h : NetS H0 H s xs ts) (hl : Le H H') : NetS H0 H' s xs ts := ⟨h.fr.ext hl, h.len, h.out.le hl⟩
end Go.Abs
/- Words: arguments that are opened; networks of their own under changes elsewhere. -/
namespace Go.Abs
set_option linter.unusedVariables false
set_option linter.unusedSimpArgs false
set_option linter.all false
set_option maxRecDepth 10000

theorem list_choice {α : Type} {E : Nat → α → Prop} : ∀ (c : Nat), (∀ i, i < c → ∃ x, E i x) → ∃ xs : List α, xs.length = c ∧ ∀ (i : Nat) x, xs[i]? = some x → E i x
  | 0, _ => ⟨[], rfl, fun i x h => by simp at h⟩
  | c + 1, h => by
    obtain ⟨xs, h1, h2⟩ := list_choice c fun i hi => h i (by omega)
    obtain ⟨x, hx⟩ := h c (by omega)
    refine ⟨xs ++ [x], by simp [h1], fun i y hy => ?_⟩
    rcases Nat.lt_or_ge i c with e | e
    · rw [List.getElem?_append_left (by omega)] at hy
      exact h2 i y hy
    · have hl := (List.getElem?_eq_some_iff.1 hy).1
      simp [h1] at hl
      have : i = c := by omega
      subst this
      rw [List.getElem?_append_right (by omega)] at hy
      simp [h1] at hy
      subst hy; exact hx

section
variable {H : AH}
def I64 (i : Int) : Prop := -9223372036854775808 ≤ i ∧ i ≤ 9223372036854775807
theorem open_int {n : Nat} {t : TypeId} (hu : P.underlying t = some (.int .i64)) {l : List Sc} (h : typed P (n + 1) H t l) : ∃ i, l = [.int .i64 i] ∧ I64 i := by
  simp only [typed, hu] at h
  obtain ⟨i, h1, h2⟩ := h
  refine ⟨i, h1, ?_⟩
  simp [Lit.wf, IntKind.min, IntKind.max, IntKind.signed, IntKind.bits] at h2
  unfold I64; omega
/-- A slice that reads: its elements, one by one. -/
theorem open_sl {α : Type} {E : Nat → List Sc → α → Prop} {n : Nat} {t e : TypeId} {z : Nat} (hu : P.underlying t = some (.slice e)) (hz : tsz P e = z) {l : List Sc} (h : typed P (n + 1) H t l)
    (hE : ∀ (cells : List Sc) i, typed P n H e ((cells.drop (i * z)).take z) → ∃ x, E i cells x) :
    ∃ s xs, l = [.sl s] ∧ s.n = xs.length ∧ s.n ≤ s.c ∧ xs.length ≤ maxLen ∧ s.o = 0 ∧ (xs = [] ∨ ∃ cells, rdB H s.b = some cells ∧ ∀ (i : Nat) x, xs[i]? = some x → E i cells x) := by
  simp only [typed, hu] at h
  rcases h with rfl | ⟨b, m, c, cells, rfl, h1, h2, h3, h4, h5, h6⟩
  · exact ⟨_, [], rfl, rfl, Nat.le_refl _, Nat.zero_le _, rfl, .inl rfl⟩
  · obtain ⟨xs, g1, g2⟩ := list_choice (E := fun i x => E i cells x) m fun i hi => hE cells i (by have := h6 i (by omega); rw [hz] at this; exact this)
    refine ⟨_, xs, rfl, g1.symm, h1, by omega, rfl, .inr ⟨cells, ?_, g2⟩⟩
    unfold rdB
    rw [h4]; rfl
theorem take_one {cells : List Sc} {i z : Nat} {x : Sc} (hz : z = 1) (h : (cells.drop (i * z)).take z = [x]) : cells[i]? = some x := by
  subst hz
  rw [Nat.mul_one] at h
  have := congrArg (fun l => l[0]?) h
  simpa using this
theorem open_ints {n : Nat} {t e : TypeId} (hu : P.underlying t = some (.slice e)) (he : P.underlying e = some (.int .i64)) (hz : tsz P e = 1) {l : List Sc} (h : typed P (n + 2) H t l) :
    ∃ s xs, l = [.sl s] ∧ IS H s xs ∧ xs.length ≤ maxLen ∧ ∀ x ∈ xs, I64 x := by
  obtain ⟨s, xs, h1, h2, h3, h4, h5, h6⟩ := open_sl (E := fun i cells (x : Int) => cells[i]? = some (.int .i64 x) ∧ I64 x) hu hz h (fun cells i ht => by
    obtain ⟨x, hx, hi⟩ := open_int he ht
    exact ⟨x, take_one rfl hx, hi⟩)
  refine ⟨s, xs, h1, ⟨h2, h3, h6.imp id fun ⟨cells, g1, g2⟩ => ⟨cells, g1, fun i x hx => by rw [h5, Nat.zero_add]; exact (g2 i x hx).1⟩⟩, h4, fun x hx => ?_⟩
  obtain ⟨j, hj⟩ := List.getElem?_of_mem hx
  rcases h6 with e | ⟨cells, _, g2⟩
  · rw [e] at hx; simp at hx
  · exact (g2 j x hj).2
end

/-- A network of its own, at or above a place. -/
structure NetO (n0 : Nat) (H : AH) (s u : Sl) (xs : List Tri) (n : Nw) : Prop where
  len : xs.length = n.ts.length
  out : OOut n0 H s xs
  rows : Rows n0 H (rowsN xs u n)
theorem NetO.own {n0 : Nat} {H : AH} {s u : Sl} {xs : List Tri} {n : Nw} (h : NetO n0 H s u xs n) : OwnN n0 H s u xs n := ⟨h.len, h.out.outer, h.rows⟩
theorem NetO.ns {n0 : Nat} {H : AH} {s u : Sl} {xs : List Tri} {n : Nw} (h : NetO n0 H s u xs n) : NS H s u n :=
  ⟨t3_of h.out.outer h.len fun p hp => (h.rows.own p (by unfold rowsN; simp [hp])).is, (h.rows.own (u, n.op) (by unfold rowsN; simp)).is⟩
theorem NetO.keep {n0 : Nat} {H H' : AH} {s u : Sl} {xs : List Tri} {n : Nw} (h : NetO n0 H s u xs n) (hf : ∀ b, n0 ≤ b → b < H.length → H'[b]? = H[b]?) : NetO n0 H' s u xs n := by
  refine ⟨h.len, h.out.keep fun hx => ?_, h.rows.frame fun p hp hne => ?_⟩
  · refine hf _ ?_ (h.out.lt hx)
    rcases h.out.blk with ⟨e, _⟩ | ⟨_, e, _⟩
    · exact absurd e hx
    · exact e
  · refine hf _ ?_ (h.rows.lt p hp hne)
    rcases (h.rows.own p hp).lo with e | e
    · exact absurd e hne
    · exact e
theorem NetS.neto {H0 H : AH} {s : Sl} {xs : List Tri} {r : Rg} {ts : List Tn} (h : NetS H0 H s xs ts) (b : Nat) : NetO H0.length H s ⟨b, 0, 0, 0, true⟩ xs ⟨r, ts, []⟩ :=
  ⟨h.len, h.out, by
    unfold rowsN
    refine ⟨fun p hp => ?_, List.pairwise_append.2 ⟨h.fr.rows.apart, by simp, fun p hp q hq => by simp at hq; subst hq; exact .inr (.inl rfl)⟩⟩
    rcases List.mem_append.1 hp with hp | hp
    · exact h.fr.rows.own p hp
    · simp at hp; subst hp; exact Own.nil _ _ _⟩
end Go.Abs
/- What the results of calls are taken apart to. Printed by clgen.py. -/
namespace Go.Abs
set_option linter.all false
theorem o_sss (a0_0 : Sl) (a0_1 : Sl) (a0_2 : Sl) {α : Type} (k : Sl → Sl → Sl → Option α) : ((oneP [.agg [.sl a0_0, .sl a0_1, .sl a0_2]]).bind fun p => p.agg?.bind fun l => cond (decide (l.length = 3)) ((slAt l 0).bind fun x0_0 => (slAt l 1).bind fun x0_1 => (slAt l 2).bind fun x0_2 => k x0_0 x0_1 x0_2) none) = k a0_0 a0_1 a0_2 := rfl
theorem o_iiiss (a0_0 : Int) (a0_1 : Int) (a0_2 : Int) (a0_3 : Sl) (a0_4 : Sl) {α : Type} (k : Int → Int → Int → Sl → Sl → Option α) : ((oneP [.agg [.int .i64 a0_0, .int .i64 a0_1, .int .i64 a0_2, .sl a0_3, .sl a0_4]]).bind fun p => p.agg?.bind fun l => cond (decide (l.length = 5)) ((intAt .i64 l 0).bind fun x0_0 => (intAt .i64 l 1).bind fun x0_1 => (intAt .i64 l 2).bind fun x0_2 => (slAt l 3).bind fun x0_3 => (slAt l 4).bind fun x0_4 => k x0_0 x0_1 x0_2 x0_3 x0_4) none) = k a0_0 a0_1 a0_2 a0_3 a0_4 := rfl
theorem o_ii (a0_0 : Int) (a0_1 : Int) {α : Type} (k : Int → Int → Option α) : ((oneP [.agg [.int .i64 a0_0, .int .i64 a0_1]]).bind fun p => p.agg?.bind fun l => cond (decide (l.length = 2)) ((intAt .i64 l 0).bind fun x0_0 => (intAt .i64 l 1).bind fun x0_1 => k x0_0 x0_1) none) = k a0_0 a0_1 := rfl
theorem t_iiiss_b (a0_0 : Int) (a0_1 : Int) (a0_2 : Int) (a0_3 : Sl) (a0_4 : Sl) (a1 : Bool) {α : Type} (k : Int → Int → Int → Sl → Sl → Bool → Option α) : ((lenP [.agg [.int .i64 a0_0, .int .i64 a0_1, .int .i64 a0_2, .sl a0_3, .sl a0_4], .sc (.bool a1)] 2).bind fun _ => (nthP [.agg [.int .i64 a0_0, .int .i64 a0_1, .int .i64 a0_2, .sl a0_3, .sl a0_4], .sc (.bool a1)] 0).bind fun p0 => p0.agg?.bind fun l0 => cond (decide (l0.length = 5)) ((intAt .i64 l0 0).bind fun x0_0 => (intAt .i64 l0 1).bind fun x0_1 => (intAt .i64 l0 2).bind fun x0_2 => (slAt l0 3).bind fun x0_3 => (slAt l0 4).bind fun x0_4 => (nthP [.agg [.int .i64 a0_0, .int .i64 a0_1, .int .i64 a0_2, .sl a0_3, .sl a0_4], .sc (.bool a1)] 1).bind fun p1 => p1.sc?.bind fun c1 => (boolAt [c1] 0).bind fun x1 => k x0_0 x0_1 x0_2 x0_3 x0_4 x1) none) = k a0_0 a0_1 a0_2 a0_3 a0_4 a1 := rfl
theorem t_ss_b (a0_0 : Sl) (a0_1 : Sl) (a1 : Bool) {α : Type} (k : Sl → Sl → Bool → Option α) : ((lenP [.agg [.sl a0_0, .sl a0_1], .sc (.bool a1)] 2).bind fun _ => (nthP [.agg [.sl a0_0, .sl a0_1], .sc (.bool a1)] 0).bind fun p0 => p0.agg?.bind fun l0 => cond (decide (l0.length = 2)) ((slAt l0 0).bind fun x0_0 => (slAt l0 1).bind fun x0_1 => (nthP [.agg [.sl a0_0, .sl a0_1], .sc (.bool a1)] 1).bind fun p1 => p1.sc?.bind fun c1 => (boolAt [c1] 0).bind fun x1 => k x0_0 x0_1 x1) none) = k a0_0 a0_1 a1 := rfl
theorem ne_b (b : Bool) : (b != b) = false := by cases b <;> rfl
theorem ne_i (i : Int) : (i != i) = false := by simp
end Go.Abs
/- Pure: primes; two to the power of a prime less two. -/
namespace Go.Abs
set_option linter.all false

def chs : Nat → Nat → Nat
  | _, 0 => 1
  | 0, _ + 1 => 0
  | n + 1, k + 1 => chs n k + chs n (k + 1)
theorem chs_zero (n : Nat) : chs n 0 = 1 := by cases n <;> rfl
theorem chs_mul : ∀ (n k : Nat), (k + 1) * chs (n + 1) (k + 1) = (n + 1) * chs n k
  | 0, 0 => rfl
  | 0, k + 1 => by simp [chs]
  | n + 1, 0 => by
    have := chs_mul n 0
    simp only [chs, chs_zero] at this ⊢
    omega
  | n + 1, k + 1 => by
    have h1 := chs_mul n k
    have h2 := chs_mul n (k + 1)
    have e1 : chs (n + 1 + 1) (k + 1 + 1) = chs (n + 1) (k + 1) + chs (n + 1) (k + 1 + 1) := rfl
    have e2 : chs (n + 1) (k + 1) = chs n k + chs n (k + 1) := rfl
    rw [e1, Nat.mul_add, h2, Nat.add_mul, Nat.one_mul, h1]
    have e3 : (n + 1 + 1) * chs (n + 1) (k + 1) = (n + 1) * chs (n + 1) (k + 1) + chs (n + 1) (k + 1) := by rw [Nat.add_mul, Nat.one_mul]
    rw [e3, e2, Nat.mul_add]
    omega
def sumC (n : Nat) : Nat → Nat
  | 0 => 0
  | m + 1 => sumC n m + chs n m
/-- A prime: no number from two on, but less than it, divides it. -/
def Prm (p : Nat) : Prop := 2 ≤ p ∧ ∀ d, 2 ≤ d → d < p → ¬ d ∣ p
theorem Prm.coprime {p k : Nat} (h : Prm p) (h0 : 0 < k) (h1 : k < p) : Nat.Coprime p k := by
  have hg : Nat.gcd p k ∣ p := Nat.gcd_dvd_left p k
  have hk : Nat.gcd p k ∣ k := Nat.gcd_dvd_right p k
  have hle := Nat.le_of_dvd h0 hk
  have hpos : 0 < Nat.gcd p k := Nat.gcd_pos_of_pos_right _ h0
  unfold Nat.Coprime
  rcases Nat.lt_or_ge (Nat.gcd p k) 2 with e | e
  · omega
  · exact absurd hg (h.2 _ e (by omega))
theorem Prm.chs {p k : Nat} (h : Prm p) (h0 : 0 < k) (h1 : k < p) : p ∣ chs p k := by
  obtain ⟨j, rfl⟩ : ∃ j, k = j + 1 := ⟨k - 1, by omega⟩
  obtain ⟨n, rfl⟩ : ∃ n, p = n + 1 := ⟨p - 1, by omega⟩
  have := chs_mul n j
  have hd : n + 1 ∣ (j + 1) * Go.Abs.chs (n + 1) (j + 1) := by rw [this]; exact Nat.dvd_mul_right _ _
  exact (h.coprime h0 h1).dvd_of_dvd_mul_left hd
theorem Prm.sum {p : Nat} (h : Prm p) : ∀ m, 1 ≤ m → m ≤ p → sumC p m % p = 1 % p
  | 0, h1, _ => by omega
  | 1, _, _ => by simp [sumC, chs_zero]
  | m + 2, _, h2 => by
    show (sumC p (m + 1) + Go.Abs.chs p (m + 1)) % p = _
    have ih := Prm.sum h (m + 1) (by omega) (by omega)
    have hd := h.chs (k := m + 1) (by omega) (by omega)
    rw [Nat.add_mod, ih, Nat.mod_eq_zero_of_dvd hd]; simp
end Go.Abs
/- Contracts: circuits: their check; bits; inverses; roots. -/
namespace Go.Abs
set_option linter.all false
set_option maxRecDepth 10000

structure Gt where
  k : Int
  a : Int
  b : Int
def G3 (H : AH) (s : Sl) (gs : List Gt) : Prop := s.n = gs.length ∧ s.n ≤ s.c ∧ (gs = [] ∨ ∃ cs, rdB H s.b = some cs ∧ ∀ (i : Nat) g, gs[i]? = some g → cs[s.o + i * 3]? = some (.int .i64 g.k) ∧ cs[s.o + i * 3 + 1]? = some (.int .i64 g.a) ∧ cs[s.o + i * 3 + 1 + 1]? = some (.int .i64 g.b))
theorem G3.le {H H' : AH} (h : Le H H') {s : Sl} {gs : List Gt} (k : G3 H s gs) : G3 H' s gs := ⟨k.1, k.2.1, k.2.2.imp id fun ⟨cs, h1, h2⟩ => ⟨cs, h.rdB h1, h2⟩⟩
theorem G3.ld {H : AH} {s : Sl} {gs : List Gt} (h : G3 H s gs) {i : Nat} (hi : i < gs.length) {α : Type} (k : Int → Int → Int → Option α) :
    ((ixA s (i : Int) 3).bind fun o => (rdB H s.b).bind fun q => (intAt .i64 q o).bind fun x => (intAt .i64 q (o + 1)).bind fun y => (intAt .i64 q (o + 1 + 1)).bind fun z => k x y z) = k gs[i].k gs[i].a gs[i].b := by
  obtain ⟨h1, h2, e | ⟨cs, hc, hg⟩⟩ := h
  · rw [e] at hi; simp at hi
  · obtain ⟨g1, g2, g3⟩ := hg i _ (List.getElem?_eq_getElem hi)
    rw [ixA_nat (by omega)]
    simp only [Option.bind_some, hc, intAt_get g1, intAt_get g2, intAt_get g3]
def omega (p : Int) : Rg := ⟨8, p, 0⟩
end Go.Abs
/- Contracts: the matrices of gates. -/
namespace Go.Abs
set_option linter.all false
set_option maxRecDepth 10000

end Go.Abs
/- Contracts: the matrices of gates (impl); the qubits of a gate; the tensor of a gate. -/
namespace Go.Abs
set_option linter.all false
set_option maxRecDepth 10000

end Go.Abs
/- Contracts: small parts of circuits' networks. -/
namespace Go.Abs
set_option linter.all false
set_option maxRecDepth 10000

structure NetR (H0 H : AH) (s : Sl) (xs : List Tri) (ts : List Tn) (rs : List Row) : Prop where
  fr : Fr H0 H (rowsT xs ts ++ rs)
  len : xs.length = ts.length
  out : OOut H0.length H s xs
theorem NetS.r {H0 H : AH} {s : Sl} {xs : List Tri} {ts : List Tn} (h : NetS H0 H s xs ts) : NetR H0 H s xs ts [] := ⟨by simpa using h.fr, h.len, h.out⟩
theorem NetR.ext {H0 H H' : AH} {s : Sl} {xs : List Tri} {ts : List Tn} {rs : List Row} (h : NetR H0 H s xs ts rs) (hl : Le H H') : NetR H0 H' s xs ts rs := ⟨h.fr.ext hl, h.len, h.out.le hl⟩
/-- What other rows may be while the tensors stay. -/
theorem NetR.rest {H0 H H' : AH} {s : Sl} {xs : List Tri} {ts : List Tn} {rs qs : List Row} (h : NetR H0 H s xs ts rs) (hF : Fr H0 H' (rowsT xs ts ++ qs)) (hf : ∀ d, d < H.length → (∀ p ∈ rs, p.2 = [] ∨ d ≠ p.1.b) → H'[d]? = H[d]?) : NetR H0 H' s xs ts qs :=
  ⟨hF, h.len, h.out.keep fun hx => hf _ (h.out.lt hx) fun p hp => by
    by_cases e : p.2 = []
    · exact .inl e
    · exact .inr (Ne.symm (h.out.ne hx (h.fr.rows.own p (by simp [hp])) e))⟩
theorem Fr.low {H H0 H' : AH} {rs : List Row} (h : Fr H0 H' rs) (hl : Le H H0) : Fr H H' rs := ⟨hl.trans h.le, h.rows.low hl.len⟩
theorem OOut.low {n0 n1 : Nat} {H : AH} {s : Sl} {xs : List Tri} (h : OOut n0 H s xs) (hn : n1 ≤ n0) : OOut n1 H s xs := ⟨h.o, h.n, h.c, h.blk.imp id fun ⟨a, b, c⟩ => ⟨a, Nat.le_trans hn b, c⟩⟩
theorem NetR.low {H H0 H' : AH} {s : Sl} {xs : List Tri} {ts : List Tn} {rs : List Row} (h : NetR H0 H' s xs ts rs) (hl : Le H H0) : NetR H H' s xs ts rs := ⟨h.fr.low hl, h.len, h.out.low hl.len⟩
theorem NetR.neto {H0 H : AH} {s u : Sl} {xs : List Tri} {r : Rg} {ts : List Tn} {op : List Int} (h : NetR H0 H s xs ts [(u, op)]) : NetO H0.length H s u xs ⟨r, ts, op⟩ := ⟨h.len, h.out, h.fr.rows⟩

/-- A frame beside a row of tensors of its own. -/
structure FrN (H0 H : AH) (rs : List Row) (o : Sl) (xo : List Tri) : Prop where
  fr : Fr H0 H rs
  out : OOut H0.length H o xo
theorem Fr.n {H0 H : AH} {rs : List Row} (h : Fr H0 H rs) (b : Nat) : FrN H0 H rs ⟨b, 0, 0, 0, true⟩ [] := ⟨h, OOut.nil _ _ _⟩
section
variable {H0 H H' : AH} {rs : List Row} {o : Sl} {xo : List Tri}
theorem FrN.own (h : FrN H0 H rs o xo) {s : Sl} {l : List Int} (hp : (s, l) ∈ rs) : Own H0.length H s l := h.fr.own hp
theorem FrN.is (h : FrN H0 H rs o xo) {s : Sl} {l : List Int} (hp : (s, l) ∈ rs) : IS H s l := h.fr.is hp
theorem FrN.ext (h : FrN H0 H rs o xo) (k : Le H H') : FrN H0 H' rs o xo := ⟨h.fr.ext k, h.out.le k⟩
theorem FrN.perm (h : FrN H0 H rs o xo) {qs : List Row} (hp : qs.Perm rs) : FrN H0 H qs o xo := ⟨h.fr.perm hp, h.out⟩
theorem FrN.sub (h : FrN H0 H rs o xo) {qs : List Row} (hp : qs.Sublist rs) : FrN H0 H qs o xo := ⟨h.fr.sub hp, h.out⟩
theorem FrN.new (h : FrN H0 H rs o xo) {s : Sl} {l : List Int} (hle : Le H H') (ho : Own H.length H' s l) : FrN H0 H' ((s, l) :: rs) o xo := ⟨h.fr.new hle ho, h.out.le hle⟩
theorem FrN.newN (h : FrN H0 H rs o xo) {s : Sl} {l : List Int} (k : New H H' s l) : FrN H0 H' ((s, l) :: rs) o xo := h.new k.le k.own
theorem FrN.newT (h : FrN H0 H rs o xo) {a b c : Sl} {t : Tn} (k : NewT H H' a b c t) : FrN H0 H' ((a, t.L) :: (b, t.D) :: (c, t.X) :: rs) o xo := ⟨h.fr.newT k, h.out.le k.le⟩
theorem FrN.empty (h : FrN H0 H rs o xo) (b : Nat) : FrN H0 H ((⟨b, 0, 0, 0, true⟩, []) :: rs) o xo := ⟨h.fr.empty b, h.out⟩
theorem FrN.mk0 (h : FrN H0 H rs o xo) (n : Nat) : FrN H0 (H ++ [⟨ics (List.replicate n 0), .rw, 1⟩]) ((⟨H.length, 0, n, n, true⟩, List.replicate n 0) :: rs) o xo := ⟨h.fr.mk0 n, h.out.le (Le.app _ _)⟩
theorem FrN.mut (xs : List Row) {ys : List Row} {s : Sl} {l l' : List Int} (h : FrN H0 H (xs ++ (s, l) :: ys) o xo) (m : Mut H0.length H H' s l l') (he : l = [] → l' = []) : FrN H0 H' (xs ++ (s, l') :: ys) o xo :=
  ⟨h.fr.mut xs m he, h.out.keep fun hx => m.fr _ (by
    by_cases e : l = []
    · exact .inr e
    · exact .inl (Ne.symm (h.out.ne hx (h.fr.own (s := s) (l := l) (by simp)) e)))⟩
theorem FrN.app (xs : List Row) {ys : List Row} {s : Sl} {l m : List Int} (h : FrN H0 H (xs ++ (s, l) :: ys) o xo) (hl : l.length + m.length ≤ 134217728) :
    ∃ s' H', appB H 1 8 s (ics m) m.length = some (s', H') ∧ FrN H0 H' (xs ++ (s', l ++ m) :: ys) o xo ∧ H.length ≤ H'.length := by
  obtain ⟨s', H', e, F, l1⟩ := h.fr.app xs hl
  obtain ⟨s2, H2, e', o2, l2, f2, g2, g3⟩ := app_own h.fr.le.len (h.fr.own (s := s) (l := l) (by simp)) hl
  rw [e] at e'; cases e'
  exact ⟨s', H', e, ⟨F, h.out.keep fun hx => f2 _ (h.out.lt hx) (by
    by_cases e : l = []
    · exact .inr e
    · exact .inl (Ne.symm (h.out.ne hx (h.fr.own (s := s) (l := l) (by simp)) e)))⟩, l1⟩
theorem FrN.push (xs : List Row) {ys : List Row} {s : Sl} {l : List Int} (h : FrN H0 H (xs ++ (s, l) :: ys) o xo) (hl : l.length < 134217728) (v : Int) :
    ∃ s' H', (∀ {α : Type} (k : Sl × AH → Option α), ((newB H 1 [.int .i64 v]).bind fun h => (rng h.2 h.1 0 (1 * 1)).bind fun q => (appB h.2 1 8 s q 1).bind k) = k (s', H')) ∧ FrN H0 H' (xs ++ (s', l ++ [v]) :: ys) o xo := by
  obtain ⟨s', H', e, o1, l1, f, f3⟩ := push_own h.fr.le.len (h.fr.own (s := s) (l := l) (by simp)) hl v
  obtain ⟨s2, H2, e2, F2⟩ := h.fr.push xs hl v
  have hs : (s', H') = (s2, H2) := Option.some.inj ((e some).symm.trans (e2 some))
  cases hs
  exact ⟨s', H', e, ⟨F2, h.out.keep fun hx => f _ (h.out.lt hx) (by
    by_cases e : l = []
    · exact .inr e
    · exact .inl (Ne.symm (h.out.ne hx (h.fr.own (s := s) (l := l) (by simp)) e)))⟩⟩
end
end Go.Abs
/- Words: rows of cells of their own; the state of an order that is followed. -/
namespace Go.Abs
set_option linter.all false
set_option maxRecDepth 10000

/-- A row of cells of its own, elements of a size. -/
structure CO (z n0 : Nat) (H : AH) (s : Sl) (cells : List Sc) : Prop where
  o : s.o = 0
  n : s.n * z = cells.length
  c : s.c = s.n
  blk : (cells = [] ∧ s.x = true ∧ s.n = 0) ∨ (cells ≠ [] ∧ n0 ≤ s.b ∧ H[s.b]? = some ⟨cells, .rw, z⟩)
theorem CO.nil (z n0 : Nat) (H : AH) (b : Nat) : CO z n0 H ⟨b, 0, 0, 0, true⟩ [] := ⟨rfl, by simp, rfl, .inl ⟨rfl, rfl, rfl⟩⟩
theorem CO.keep {z n0 : Nat} {H H' : AH} {s : Sl} {cells : List Sc} (h : CO z n0 H s cells) (hb : cells ≠ [] → H'[s.b]? = H[s.b]?) : CO z n0 H' s cells :=
  ⟨h.o, h.n, h.c, h.blk.imp id fun ⟨h1, h2, h3⟩ => ⟨h1, h2, (hb h1).trans h3⟩⟩
theorem CO.lt {z n0 : Nat} {H : AH} {s : Sl} {cells : List Sc} (h : CO z n0 H s cells) (hc : cells ≠ []) : s.b < H.length := by
  rcases h.blk with ⟨e, _⟩ | ⟨_, _, e⟩
  · exact absurd e hc
  · exact (List.getElem?_eq_some_iff.1 e).1
theorem CO.le {z n0 : Nat} {H H' : AH} {s : Sl} {cells : List Sc} (h : CO z n0 H s cells) (hl : Le H H') : CO z n0 H' s cells := h.keep fun hc => hl.get _ (h.lt hc)
theorem CO.ne {z n0 n1 : Nat} {H : AH} {s u : Sl} {cells : List Sc} {l : List Int} (h : CO z n0 H s cells) (hc : cells ≠ []) (hz : z ≠ 1) (ho : Own n1 H u l) (hl : l ≠ []) : u.b ≠ s.b := fun e => by
  have h1 := ho.blk' hl
  rcases h.blk with ⟨e', _⟩ | ⟨_, _, h2⟩
  · exact absurd e' hc
  · rw [e, h2] at h1
    have := congrArg (fun o : Option Blk => o.map (·.z)) h1
    simp at this
    exact hz this
/-- An element is put at the end. -/
theorem CO.push {z by_ n0 : Nat} {H : AH} {s : Sl} {cells new : List Sc} (h : CO z n0 H s cells) (hn0 : n0 ≤ H.length) (hz : z ≠ 0) (hb : by_ ≠ 0) (hn : new.length = z) (hm : (s.n + 1) * by_ ≤ most) :
    ∃ s' H', appB H z by_ s new 1 = some (s', H') ∧ CO z n0 H' s' (cells ++ new) ∧ s'.n = s.n + 1 ∧ H.length ≤ H'.length ∧ (∀ d, d < H.length → (d ≠ s.b ∨ cells = []) → H'[d]? = H[d]?) := by
  have hrng : rng H s.b s.o (s.n * z) = some cells := by
    unfold rng
    rcases h.blk with ⟨e, _, e0⟩ | ⟨e, _, h2⟩
    · subst e; rw [if_pos (by rw [e0]; simp)]
    · have : cells.length ≠ 0 := fun h => e (List.length_eq_zero_iff.1 h)
      rw [if_neg (by rw [h.n]; exact this)]
      have hr : rdB H s.b = some cells := by unfold rdB; rw [h2]; rfl
      rw [hr]
      simp only [Option.bind_some]
      rw [if_pos (by rw [h.o, h.n]; omega), h.o]
      simp only [List.drop_zero]
      rw [List.take_of_length_le (by rw [h.n]; exact Nat.le_refl _)]
  have hne : cells ++ new ≠ [] := fun e => by
    have := (List.append_eq_nil_iff.1 e).2
    rw [this] at hn; simp at hn; omega
  unfold appB
  rw [if_neg (by rw [h.c]; omega), if_pos ⟨hz, hb, hm⟩, hrng]
  simp only [Option.bind_some]
  by_cases hx : s.x = true
  · simp only [hx]
    refine ⟨_, _, rfl, ⟨rfl, ?_, rfl, .inr ⟨hne, hn0, by simp⟩⟩, rfl, by simp, fun d hd _ => List.getElem?_append_left hd⟩
    rw [List.length_append, hn, Nat.add_mul, h.n]; omega
  · have hx' : s.x = false := by cases e : s.x <;> simp_all
    simp only [hx']
    have hb' : cells ≠ [] ∧ n0 ≤ s.b ∧ H[s.b]? = some ⟨cells, .rw, z⟩ := by
      rcases h.blk with ⟨_, e, _⟩ | h
      · exact absurd e hx
      · exact h
    have hrw : rwB H s.b z = some cells := by unfold rwB; rw [hb'.2.2]; simp
    simp only [hrw, Option.bind_some]
    have hk : (killB H s.b).length = H.length := by simp [killB]
    refine ⟨_, _, rfl, ⟨rfl, ?_, rfl, .inr ⟨hne, hn0, ?_⟩⟩, rfl, by simp [hk], fun d hd h => ?_⟩
    · rw [List.length_append, hn, Nat.add_mul, h.n]; omega
    · have : H.length = (killB H s.b).length := hk.symm
      show (killB H s.b ++ _)[H.length]? = _
      rw [this]; simp
    · rcases h with h | h
      · rw [List.getElem?_append_left (by omega)]
        unfold killB
        rw [List.getElem?_modify]
        have : ¬ s.b = d := fun e => h e.symm
        simp [this]
      · exact absurd h hb'.1

/-- A tensor that is there: its number, its labels. -/
structure LE where
  n : Int
  s : Sl
  l : List Int
def lcells (v : List LE) : List Sc := v.flatMap fun x => [.int .i64 x.n, .sl x.s]
def lrows (v : List LE) : List Row := v.map fun x => (x.s, x.l)
theorem lcells_app (a b : List LE) : lcells (a ++ b) = lcells a ++ lcells b := by simp [lcells]
theorem lcells_len : ∀ v : List LE, (lcells v).length = v.length * 2
  | [] => rfl
  | x :: v => by
    have := lcells_len v
    simp only [lcells, List.flatMap_cons, List.length_append, List.length_cons, List.length_nil] at this ⊢
    omega
theorem lcells_nil {v : List LE} : lcells v = [] ↔ v = [] := by
  constructor
  · intro h
    have := congrArg List.length h
    rw [lcells_len] at this
    exact List.length_eq_zero_iff.1 (by simp at this; omega)
  · intro h; subst h; rfl
theorem lcells_get : ∀ (v : List LE) (i : Nat) (x : LE), v[i]? = some x → (lcells v)[i * 2]? = some (.int .i64 x.n) ∧ (lcells v)[i * 2 + 1]? = some (.sl x.s)
  | [], i, x, h => by simp at h
  | y :: v, 0, x, h => by simp at h; subst h; simp [lcells]
  | y :: v, i + 1, x, h => by
    have := lcells_get v i x (by simpa using h)
    have e : (i + 1) * 2 = i * 2 + 2 := by omega
    have e2 : lcells (y :: v) = [Sc.int .i64 y.n, Sc.sl y.s] ++ lcells v := rfl
    have e3 : i * 2 + 2 + 1 = (i * 2 + 1) + 2 := by omega
    rw [e2, e, e3]
    refine ⟨?_, ?_⟩
    · rw [List.getElem?_append_right (by simp)]; simpa using this.1
    · rw [List.getElem?_append_right (by simp)]; simpa using this.2
/-- A row of such tensors reads so. -/
structure LR (H : AH) (s : Sl) (v : List LE) : Prop where
  n : s.n = v.length
  o : s.o = 0
  rd : v = [] ∨ rdB H s.b = some (lcells v)
theorem CO.lr {n0 : Nat} {H : AH} {s : Sl} {v : List LE} (h : CO 2 n0 H s (lcells v)) : LR H s v := by
  have hn := h.n
  rw [lcells_len] at hn
  refine ⟨by omega, h.o, ?_⟩
  rcases h.blk with ⟨e, _⟩ | ⟨_, _, e⟩
  · exact .inl (lcells_nil.1 e)
  · refine .inr ?_
    unfold rdB; rw [e]; rfl
theorem LR.ld {H : AH} {s : Sl} {v : List LE} (h : LR H s v) {i : Nat} (hi : i < v.length) {α : Type} (k : Int → Sl → Option α) :
    ((ixA s (i : Int) 2).bind fun o => (rdB H s.b).bind fun q => (intAt .i64 q o).bind fun x => (slAt q (o + 1)).bind fun y => k x y) = k v[i].n v[i].s := by
  obtain ⟨g1, g2⟩ := lcells_get v i _ (List.getElem?_eq_getElem hi)
  rcases h.rd with e | hc
  · rw [e] at hi; simp at hi
  · rw [ixA_nat (by rw [h.n]; exact hi), h.o, Nat.zero_add]
    simp only [Option.bind_some, hc, intAt_get g1, slAt_get g2]
theorem LR.ldn {H : AH} {s : Sl} {v : List LE} (h : LR H s v) {i : Nat} (hi : i < v.length) {α : Type} (k : Int → Option α) :
    ((ixA s (i : Int) 2).bind fun o => (rdB H s.b).bind fun q => (intAt .i64 q (o + 0)).bind k) = k v[i].n := by
  obtain ⟨g1, g2⟩ := lcells_get v i _ (List.getElem?_eq_getElem hi)
  rcases h.rd with e | hc
  · rw [e] at hi; simp at hi
  · rw [ixA_nat (by rw [h.n]; exact hi), h.o, Nat.zero_add]
    simp only [Option.bind_some, hc, Nat.add_zero, intAt_get g1]
theorem LR.lds {H : AH} {s : Sl} {v : List LE} (h : LR H s v) {i : Nat} (hi : i < v.length) {α : Type} (k : Sl → Option α) :
    ((ixA s (i : Int) 2).bind fun o => (rdB H s.b).bind fun q => (slAt q (o + 1)).bind k) = k v[i].s := by
  obtain ⟨g1, g2⟩ := lcells_get v i _ (List.getElem?_eq_getElem hi)
  rcases h.rd with e | hc
  · rw [e] at hi; simp at hi
  · rw [ixA_nat (by rw [h.n]; exact hi), h.o, Nat.zero_add]
    simp only [Option.bind_some, hc, slAt_get g2]

/-- impl.joinLabels -/
def joinL (a b : List Int) : List Int := a ++ colF (fun _ x => if (a.any fun y => x == y) then none else some x) b 0
theorem joinL_len (a b : List Int) : (joinL a b).length ≤ a.length + b.length := by
  unfold joinL
  have := colF_len (g := fun _ x => if (a.any fun y => x == y) then none else some x) (l := b) (i := 0)
  simp only [List.length_append]; omega
theorem c_ijoinLabels {H : AH} {s u : Sl} {a b : List Int} (ha : IS H s a) (hb : IS H u b) (hl : a.length + b.length ≤ 1048576) :
    ∃ s' H', R (.fn F.ijoinLabels) [ssc s, ssc u] H = some ⟨1, [ssc s'], H'⟩ ∧ Le H H' ∧ Own H.length H' s' (joinL a b) := by
  obtain ⟨s4, H1, e1, l1, o1⟩ := c_icopyInts ha (by omega)
  have key : ∀ k i, i + k = b.length → ∀ (acc : List Int) (c : Sl) (Hc : AH), Le H Hc → Own H.length Hc c acc → acc.length ≤ a.length + i →
      ∃ c' H', R (.loop F.ijoinLabels 0) [ssc s, ssc c, ssc u, isc (b.length : Int), isc (i : Int)] Hc = some ⟨2, [ssc c'], H'⟩ ∧ Le H H' ∧ Own H.length H' c' (acc ++ colF (fun _ x => if (a.any fun y => x == y) then none else some x) (b.drop i) i) := by
    intro k
    induction k with
    | zero =>
      intro i hi acc c Hc hle ho hacc
      obtain rfl : i = b.length := by omega
      exact ⟨c, Hc, by rw [R_eq, e_ijoinLabels_0, lt_self]; rfl, hle, by simpa [colF] using ho⟩
    | succ k ih =>
      intro i hi acc c Hc hle ho hacc
      have hlt : i < b.length := by omega
      rw [List.drop_eq_getElem_cons hlt]
      simp only [colF]
      by_cases hh : (a.any fun y => b[i] == y) = true
      · obtain ⟨c', H', e2, l2, o2⟩ := ih (i + 1) (by omega) acc c Hc hle ho (by omega)
        refine ⟨c', H', ?_, l2, by rw [if_pos hh]; simpa using o2⟩
        rw [R_eq, e_ijoinLabels_0, lt_true hlt, w1 hlt (by omega), cond_true, (hb.le hle).ldk hlt, c_ihasInt (ha.le hle) (by omega)]
        simp only [Option.bind_some, one_bool, hh, Bool.not_true, cond_false]
        exact e2
      · obtain ⟨c1, H2, p1, o1, l1⟩ := push_le hle ho (by omega) b[i]
        obtain ⟨c', H', e2, l2, o2⟩ := ih (i + 1) (by omega) (acc ++ [b[i]]) c1 H2 l1 o1 (by simp; omega)
        refine ⟨c', H', ?_, l2, by rw [if_neg hh]; simpa using o2⟩
        have hh' := Bool.eq_false_iff.2 hh
        rw [R_eq, e_ijoinLabels_0, lt_true hlt, w1 hlt (by omega), cond_true, (hb.le hle).ldk hlt, c_ihasInt (ha.le hle) (by omega)]
        simp only [Option.bind_some, one_bool, hh', Bool.not_false, cond_true]
        rw [p1]
        exact e2
  obtain ⟨c', H', e2, l2, o2⟩ := key b.length 0 (by omega) a s4 H1 l1 o1 (by omega)
  refine ⟨c', H', ?_, l2, by simpa [joinL] using o2⟩
  have e2 : R (.loop F.ijoinLabels 0) [ssc s, ssc s4, ssc u, isc (b.length : Int), isc 0] H1 = _ := e2
  rw [R_eq, e_ijoinLabels, e1]
  simp only [Option.bind_some, one_sl]
  rw [hb.n, e2]
  rfl

/-- Where a number stands. -/
def placeF : List LE → Int → Nat → Int
  | [], _, _ => -1
  | x :: v, n, i => if x.n == n then (i : Int) else placeF v n (i + 1)
structure OS (H0 H : AH) (bs : Nat) (D op : List Int) (so sl : Sl) (next : Nat) (v : List LE) : Prop where
  fr : Fr H0 H (lrows v)
  out : CO 2 H0.length H sl (lcells v)
  blk : H[bs]? = some ⟨ics D ++ [.sl so, .sl sl, .int .i64 (next : Int)], .rw, 103⟩
  lo : H0.length ≤ bs
  dl : D.length = 100
  op : IS H0 so op
theorem OS.rd {H0 H : AH} {bs : Nat} {D op : List Int} {so sl : Sl} {next : Nat} {v : List LE} (h : OS H0 H bs D op so sl next v) : rdB H bs = some (ics D ++ [.sl so, .sl sl, .int .i64 (next : Int)]) := by unfold rdB; rw [h.blk]; rfl
theorem OS.at0 {H0 H : AH} {bs : Nat} {D op : List Int} {so sl : Sl} {next : Nat} {v : List LE} (h : OS H0 H bs D op so sl next v) :
    slAt (ics D ++ [.sl so, .sl sl, .int .i64 (next : Int)]) (0 + 100) = some so ∧ slAt (ics D ++ [.sl so, .sl sl, .int .i64 (next : Int)]) (0 + 101) = some sl ∧ intAt .i64 (ics D ++ [.sl so, .sl sl, .int .i64 (next : Int)]) (0 + 102) = some (next : Int) := by
  have hl : (ics D).length = 100 := by simp [h.dl]
  refine ⟨slAt_get ?_, slAt_get ?_, intAt_get ?_⟩ <;> (rw [List.getElem?_append_right (by omega), hl]; rfl)

/-- impl.place -/
theorem c_place {H0 H : AH} {bs : Nat} {D op : List Int} {so sl : Sl} {next : Nat} {v : List LE} (h : OS H0 H bs D op so sl next v) (hv : v.length ≤ 1024) (n : Int) : R (.fn F.x__impl_orderState__place) [.sc (.hp bs 0), isc n] H = some ⟨1, [isc (placeF v n 0)], H⟩ := by
  obtain ⟨a1, a2, a3⟩ := h.at0
  have hL := h.out.lr
  have lp := loopG (F := fun i : Nat => R (.loop F.x__impl_orderState__place 0) [isc n, ssc sl, isc (v.length : Int), isc (i : Int)] H) (l := v) (fun q i => if placeF q n i = -1 then some ⟨2, [], H⟩ else some ⟨1, [isc (placeF q n i)], H⟩)
    (by rw [R_eq, e_x__impl_orderState__place_0, lt_self]; simp [placeF]) (fun i hi q hq => by
      rw [R_eq, e_x__impl_orderState__place_0, lt_true hi, w1 hi (by omega), cond_true, hL.ld hi]
      simp only [placeF]
      by_cases he : v[i].n = n
      · have : (v[i].n == n) = true := by simp [he]
        simp only [this, cond_true, if_true]
        rw [if_neg (by omega)]
      · simp only [bf he, cond_false, Bool.false_eq_true, if_false]
        exact hq)
  have lp : R (.loop F.x__impl_orderState__place 0) [isc n, ssc sl, isc (v.length : Int), isc 0] H = _ := lp
  rw [R_eq, e_x__impl_orderState__place, h.rd]
  simp only [Option.bind_some, a2]
  rw [hL.n, lp]
  by_cases hp : placeF v n 0 = -1
  · rw [if_pos hp, hp]; rfl
  · rw [if_neg hp]; rfl
theorem placeF_lo : ∀ (v : List LE) (n : Int) (i : Nat), placeF v n i = -1 ∨ ((i : Int) ≤ placeF v n i ∧ placeF v n i < i + v.length)
  | [], n, i => .inl rfl
  | x :: v, n, i => by
    unfold placeF
    split
    · right; simp; omega
    · rcases placeF_lo v n (i + 1) with h | h
      · exact .inl h
      · right; simp only [List.length_cons]; omega
end Go.Abs
