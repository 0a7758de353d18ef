/- Part of the proof of FnExactCertificateOk: that for every input the law answers true and leaves what it reads as it was. Conditions: none beyond the given statement. -/
import Derived.Test.YtabkpkhjpfjpeaaGreatLabR3ToR14
import Derived.Test.YtabkpkhjpfjpeaaGreatLabC47ToR2
import Derived.Test.YtabkpkhjpfjpeaaGreatLabC1ToC46
set_option linter.all false
/- Certificates: whether one is right (both). -/
namespace Go.Abs
set_option linter.all false
set_option maxRecDepth 10000

def primG : List Int → List Int → Bool
  | pre, p :: ps => primeB p && !(pre.any fun x => p == x) && primG (pre ++ [p]) ps
  | _, [] => true
def fitR : List Int → List Int → List Int → Bool
  | pre, p :: ps, r :: rs => primeB p && !(pre.any fun x => p == x) && inB r 0 (p - 1) && fitR (pre ++ [p]) ps rs
  | _, _, _ => true
def resAll (ts : List Tn) (ps rs : List Int) : Bool := (ps.zip rs).all fun x => resV x.1 ts == some x.2
def certB (ts : List Tn) (ps rs : List Int) : Bool := intB ts && (decide (1 ≤ ps.length) && decide (ps.length ≤ 3)) && decide (rs.length = ps.length) && primG [] ps && decide (2 * boundN ts < prd ps) && resAll ts ps rs
theorem primG_all : ∀ {ps pre : List Int}, primG pre ps = true → ∀ p ∈ ps, primeB p = true
  | [], _, _, p, h => by simp at h
  | q :: ps, pre, h, p, hp => by
    simp only [primG, Bool.and_eq_true] at h
    rcases List.mem_cons.1 hp with rfl | hp
    · exact h.1.1
    · exact primG_all h.2 p hp
theorem fitR_prim : ∀ {ps rs pre : List Int}, rs.length = ps.length → fitR pre ps rs = true → primG pre ps = true
  | [], rs, pre, _, _ => rfl
  | p :: ps, r :: rs, pre, hl, h => by
    simp only [fitR, Bool.and_eq_true] at h
    simp only [primG, Bool.and_eq_true]
    exact ⟨h.1.1, fitR_prim (by simpa using hl) h.2⟩
  | p :: ps, [], pre, hl, _ => by simp at hl
theorem prim_fitR (ts : List Tn) : ∀ {ps rs pre : List Int}, primG pre ps = true → resAll ts ps rs = true → fitR pre ps rs = true
  | [], rs, pre, _, _ => by cases rs <;> rfl
  | p :: ps, [], pre, _, _ => rfl
  | p :: ps, r :: rs, pre, h, hr => by
    have hp := primG_all h p List.mem_cons_self
    simp only [primG, Bool.and_eq_true] at h
    simp only [resAll, List.zip_cons_cons, List.all_cons, Bool.and_eq_true] at hr
    have hv : resV p ts = some r := by simpa using hr.1
    have := resV_rng hp hv
    have hin : inB r 0 (p - 1) = true := by unfold inB; rw [decide_eq_true (show r ≥ 0 by omega), decide_eq_true (show r ≤ p - 1 by omega)]; rfl
    simp only [fitR, hin, Bool.and_eq_true]
    exact ⟨⟨h.1, trivial⟩, prim_fitR ts h.2 hr.2⟩
/-- Products of at most three primes. -/
theorem prd_prime : ∀ (k : Nat) (a : Int) {ps : List Int}, (∀ p ∈ ps, primeB p = true) → ps.length ≤ k → k ≤ 3 → 1 ≤ prd ps ∧ prd ps ≤ 1000003 ^ k
  | k, a, [], _, _, _ => ⟨by simp [prd], by
    simp only [prd]
    have : (0 : Int) < 1000003 ^ k := Int.pow_pos (by omega)
    omega⟩
  | 0, a, p :: ps, _, h, _ => by simp at h
  | k + 1, a, p :: ps, h, hl, hk => by
    have hp := prime_at (h p List.mem_cons_self)
    obtain ⟨h1, h2⟩ := prd_prime k a (ps := ps) (fun q hq => h q (List.mem_cons_of_mem _ hq)) (by simpa using hl) (by omega)
    have h3 : 1 * 1 ≤ p * prd ps := Int.mul_le_mul (by omega) h1 (by omega) (by omega)
    have h4 : p * prd ps ≤ 1000003 * 1000003 ^ k := Int.mul_le_mul hp.2 h2 (by omega) (by omega)
    simp only [prd]
    rw [Int.pow_succ, Int.mul_comm]
    rw [Int.mul_comm] at h4
    rw [Int.mul_comm p] at h3
    exact ⟨by omega, by rw [Int.mul_comm (1000003 ^ k)]; rw [Int.mul_comm (prd ps)] at h4 ⊢; exact h4⟩
theorem prim3 {ps : List Int} (h : ∀ p ∈ ps, primeB p = true) (hl : ps.length ≤ 3) : 1 ≤ prd ps ∧ prd ps ≤ 1000009000027000027 := by
  have := prd_prime 3 0 h hl (by omega)
  exact ⟨this.1, by have := this.2; simpa using this⟩
/-- impl.primesOk: the primes -/
theorem c_iprimesOk_0 {H : AH} {s q : Sl} {ps : List Int} (h : IS H s ps) (hl : ps.length ≤ 3) :
    ∀ (k i : Nat), i + k = ps.length → ∀ a : Int, (∀ p ∈ ps.take i, primeB p = true) → a = prd (ps.take i) →
      R (.loop F.iprimesOk 0) [isc a, ssc s, isc (ps.length : Int), isc (i : Int), .agg [.sl s, .sl q]] H = cond (primG (ps.take i) (ps.drop i)) (some ⟨2, [isc (prd ps)], H⟩) (some ⟨1, [bsc false], H⟩)
  | 0, i, hi, a, hp, ha => by
    obtain rfl : i = ps.length := by omega
    rw [R_eq, e_iprimesOk_0, lt_self, List.drop_eq_nil_of_le (Nat.le_refl _), ha, List.take_length]
    rfl
  | k + 1, i, hi, a, hp, ha => by
    have hlt : i < ps.length := by omega
    have hsn := h.n
    have hsc := h.c
    rw [List.drop_eq_getElem_cons hlt]
    simp only [primG]
    rw [R_eq, e_iprimesOk_0, lt_true hlt, w1 hlt (by omega), cond_true, h.ldk hlt, c_iIsPrime]
    simp only [Option.bind_some, one_bool]
    cases hpr : primeB ps[i] with
    | false => rfl
    | true =>
      simp only [Bool.not_true, cond_false, Bool.true_and]
      rw [slB_take (by omega)]
      simp only [Option.bind_some]
      rw [c_ihasInt (h.take (Nat.le_of_lt hlt)) (by simp; omega)]
      simp only [Option.bind_some, one_bool]
      cases hany : (ps.take i).any fun x => ps[i] == x with
      | true => rfl
      | false =>
        simp only [cond_false, Bool.not_false, Bool.true_and]
        have hp2 : ∀ p ∈ ps.take (i + 1), primeB p = true := fun p hp' => by
          rw [take_snoc' hlt] at hp'
          rcases List.mem_append.1 hp' with h | h
          · exact hp p h
          · simp at h; subst h; exact hpr
        have hprd : prd (ps.take (i + 1)) = a * ps[i] := by rw [take_snoc' hlt, prd_app, ha]; simp [prd]
        have h3 := prim3 hp2 (by simp; omega)
        rw [hprd] at h3
        have hw : IntKind.wrap .i64 (a * ps[i]) = a * ps[i] := by rw [wrap_id] <;> omega
        rw [hw, ← take_snoc hlt]
        exact c_iprimesOk_0 h hl k (i + 1) (by omega) _ hp2 hprd.symm
theorem bound_rng {ts : List Tn} (h : intB ts = true) : 0 ≤ boundN ts ∧ boundN ts ≤ 100000000000000 := by
  obtain ⟨i1, i2, i3⟩ := intB_at h
  have := boundF_rng i2 (b := 1) (by omega) (by omega)
  exact ⟨this.1, i3⟩
theorem c_iIntBound {H : AH} {s : Sl} {ts : List Tn} (h : T3 H s ts) (hi : intB ts = true) : R (.fn F.iIntBound) [.agg [.sl s]] H = some ⟨1, [isc (boundN ts)], H⟩ := by
  obtain ⟨i1, i2, i3⟩ := intB_at hi
  rw [R_eq, e_iIntBound, c_iIntOk h, hi]
  simp only [Option.bind_some, one_bool, Bool.not_true, cond_false]
  rw [c_iboundOf h (by omega) i2]
  rfl
def primB (ts : List Tn) (ps rs : List Int) : Bool := intB ts && (decide (1 ≤ ps.length) && decide (ps.length ≤ 3)) && decide (rs.length = ps.length) && primG [] ps && decide (2 * boundN ts < prd ps)
/-- impl.primesOk -/
theorem c_iprimesOk {H : AH} {s p q : Sl} {ts : List Tn} {ps rs : List Int} (h : T3 H s ts) (hp : IS H p ps) (hq : IS H q rs) : R (.fn F.iprimesOk) [.agg [.sl s], .agg [.sl p, .sl q]] H = some ⟨1, [bsc (primB ts ps rs)], H⟩ := by
  rw [R_eq, e_iprimesOk, c_iIntOk h]
  unfold primB
  simp only [Option.bind_some, one_bool]
  cases hi : intB ts with
  | false => rfl
  | true =>
    have hb := bound_rng hi
    simp only [Bool.not_true, cond_false, Bool.true_and, hp.n, hq.n]
    by_cases h1 : 1 ≤ ps.length
    · rw [decide_eq_false (show ¬ (ps.length : Int) < 1 by omega), cond_false, decide_eq_true h1, Bool.true_and]
      by_cases h3 : ps.length ≤ 3
      · rw [decide_eq_false (show ¬ (ps.length : Int) > 3 by omega), cond_false, decide_eq_true h3, Bool.true_and]
        by_cases h4 : rs.length = ps.length
        · have hb4 : ((rs.length : Int) != (ps.length : Int)) = false := by rw [h4]; simp
          rw [hb4, cond_false, decide_eq_true h4, Bool.true_and]
          have := c_iprimesOk_0 (q := q) hp h3 ps.length 0 (by omega) 1 (by simp) rfl
          have this : R (.loop F.iprimesOk 0) [isc 1, ssc p, isc (ps.length : Int), isc 0, .agg [.sl p, .sl q]] H = _ := this
          rw [this, List.take_zero, List.drop_zero]
          cases hg : primG [] ps with
          | false => rfl
          | true =>
            have hpp := prim3 (primG_all hg) h3
            simp only [cond_true, Option.bind_some, Nat.beq, cond_false, n_int2]
            rw [c_iIntBound h hi]
            simp only [Option.bind_some, one_int]
            have hw : IntKind.wrap .i64 (2 * boundN ts) = 2 * boundN ts := by rw [wrap_id] <;> omega
            rw [hw, Bool.true_and]
        · have hb4 : ((rs.length : Int) != (ps.length : Int)) = true := by simp; omega
          rw [hb4, cond_true, decide_eq_false h4]
          rfl
      · rw [decide_eq_true (show (ps.length : Int) > 3 by omega), cond_true, decide_eq_false h3]
        rfl
    · rw [decide_eq_true (show (ps.length : Int) < 1 by omega), cond_true, decide_eq_false h1]
      rfl
theorem n_ib {α : Type} (a : Int) (b : Bool) (K : Int → Bool → Option α) : ((lenP [isc a, bsc b] 2).bind fun _ => (nthP [isc a, bsc b] 0).bind fun p9 => p9.sc?.bind fun c10 => (intAt .i64 [c10] 0).bind fun n11 => (nthP [isc a, bsc b] 1).bind fun p12 => p12.sc?.bind fun c13 => (boolAt [c13] 0).bind fun b14 => K n11 b14) = K a b := rfl
/-- impl.CertificateOk -/
theorem c_iCertificateOk {H : AH} {s p q : Sl} {ts : List Tn} {ps rs : List Int} (h : T3 H s ts) (hp : IS H p ps) (hq : IS H q rs) : ∃ H', R (.fn F.iCertificateOk) [.agg [.sl s], .agg [.sl p, .sl q]] H = some ⟨1, [bsc (certB ts ps rs)], H'⟩ ∧ Go.Abs.Le H H' := by
  have e1 := c_iprimesOk h hp hq
  have hc : certB ts ps rs = (primB ts ps rs && resAll ts ps rs) := rfl
  rw [hc]
  cases hb : primB ts ps rs with
  | false =>
    rw [hb] at e1
    exact ⟨H, by rw [R_eq, e_iCertificateOk, e1]; rfl, Go.Abs.Le.refl _⟩
  | true =>
    rw [hb] at e1
    simp only [primB, Bool.and_eq_true, decide_eq_true_eq] at hb
    obtain ⟨⟨⟨⟨hi, h1, h3⟩, h4⟩, hg⟩, h5⟩ := hb
    have loop : ∀ (k i : Nat), i + k = ps.length → ∀ Hc, Go.Abs.Le H Hc → ∃ H', R (.loop F.iCertificateOk 0) [ssc p, isc (ps.length : Int), isc (i : Int), .agg [.sl s], .agg [.sl p, .sl q]] Hc = cond (resAll ts (ps.drop i) (rs.drop i)) (some ⟨2, [], H'⟩) (some ⟨1, [bsc false], H'⟩) ∧ Go.Abs.Le H H' := by
      intro k
      induction k with
      | zero =>
        intro i hi' Hc hle
        obtain rfl : i = ps.length := by omega
        exact ⟨Hc, by rw [R_eq, e_iCertificateOk_0, lt_self, List.drop_eq_nil_of_le (Nat.le_refl _)]; rfl, hle⟩
      | succ k ih =>
        intro i hi' Hc hle
        have hlt : i < ps.length := by omega
        have hlt2 : i < rs.length := by omega
        obtain ⟨H1, e2, l2⟩ := c_iresidueOf (h.le hle) hi (primG_all hg _ (List.getElem_mem hlt))
        have hle1 := hle.trans l2
        rw [List.drop_eq_getElem_cons hlt, List.drop_eq_getElem_cons hlt2]
        simp only [resAll, List.zip_cons_cons, List.all_cons]
        cases hv : resV ps[i] ts with
        | none =>
          rw [hv] at e2
          refine ⟨H1, ?_, hle1⟩
          rw [R_eq, e_iCertificateOk_0, lt_true hlt, w1 hlt (by omega), cond_true, (hp.le hle).ldk hlt, e2]
          rfl
        | some v =>
          rw [hv] at e2
          by_cases he : v = rs[i]
          · subst he
            obtain ⟨H', e3, l3⟩ := ih (i + 1) (by omega) H1 hle1
            refine ⟨H', ?_, l3⟩
            rw [R_eq, e_iCertificateOk_0, lt_true hlt, w1 hlt (by omega), cond_true, (hp.le hle).ldk hlt, e2]
            simp only [Option.bind_some]
            rw [n_ib]
            simp only [Option.isSome_some, Bool.not_true, cond_false, Option.getD_some]
            rw [(hq.le hle1).ldk hlt2, ne_i, cond_false, e3]
            simp [resAll]
          · refine ⟨H1, ?_, hle1⟩
            have hne : (v != rs[i]) = true := by simpa using he
            have hne2 : (some v == some rs[i]) = false := by simpa using he
            rw [R_eq, e_iCertificateOk_0, lt_true hlt, w1 hlt (by omega), cond_true, (hp.le hle).ldk hlt, e2]
            simp only [Option.bind_some]
            rw [n_ib]
            simp only [Option.isSome_some, Bool.not_true, cond_false, Option.getD_some]
            rw [(hq.le hle1).ldk hlt2, hne, cond_true, hne2]
            rfl
    obtain ⟨H', e2, l2⟩ := loop ps.length 0 (by omega) H (Go.Abs.Le.refl _)
    have e2 : R (.loop F.iCertificateOk 0) [ssc p, isc (ps.length : Int), isc 0, .agg [.sl s], .agg [.sl p, .sl q]] H = _ := e2
    rw [List.drop_zero, List.drop_zero] at e2
    refine ⟨H', ?_, l2⟩
    rw [R_eq, e_iCertificateOk, e1]
    simp only [Option.bind_some, one_bool, Bool.not_true, cond_false, Bool.true_and]
    rw [hp.n, e2]
    cases resAll ts ps rs <;> rfl
/-- spec.l42Fits: the primes and residues -/
theorem c_sl42Fits_0 {H : AH} {s q : Sl} {ps rs : List Int} (h : IS H s ps) (hq : IS H q rs) (hl : ps.length ≤ 3) (hrl : rs.length = ps.length) :
    ∀ (k i : Nat), i + k = ps.length → ∀ a : Int, (∀ p ∈ ps.take i, primeB p = true) → a = prd (ps.take i) →
      R (.loop F.sl42Fits 0) [isc a, ssc s, isc (ps.length : Int), isc (i : Int), .agg [.sl s, .sl q]] H = cond (fitR (ps.take i) (ps.drop i) (rs.drop i)) (some ⟨2, [isc (prd ps)], H⟩) (some ⟨1, [bsc false], H⟩)
  | 0, i, hi, a, hp, ha => by
    obtain rfl : i = ps.length := by omega
    rw [R_eq, e_sl42Fits_0, lt_self, List.drop_eq_nil_of_le (Nat.le_refl _), ha, List.take_length]
    rfl
  | k + 1, i, hi, a, hp, ha => by
    have hlt : i < ps.length := by omega
    have hlt2 : i < rs.length := by omega
    have hsn := h.n
    have hsc := h.c
    rw [List.drop_eq_getElem_cons hlt, List.drop_eq_getElem_cons hlt2]
    simp only [fitR]
    rw [R_eq, e_sl42Fits_0, lt_true hlt, w1 hlt (by omega), cond_true, h.ldk hlt, c_sIsPrime]
    simp only [Option.bind_some, one_bool]
    cases hpr : primeB ps[i] with
    | false => rfl
    | true =>
      have hpa := prime_at hpr
      simp only [Bool.not_true, cond_false, Bool.true_and]
      rw [slB_take (by omega)]
      simp only [Option.bind_some]
      rw [c_sl05Find (h.take (Nat.le_of_lt hlt)) (by simp; omega)]
      simp only [Option.bind_some, one_int]
      have hfa : decide (findF (ps.take i) ps[i] 0 ≥ 0) = (ps.take i).any fun x => ps[i] == x := by
        rw [← find_any]
      rw [hfa]
      cases hany : (ps.take i).any fun x => ps[i] == x with
      | true => rfl
      | false =>
        simp only [cond_false, Bool.not_false, Bool.true_and]
        have hw1 : IntKind.wrap .i64 (ps[i] - 1) = ps[i] - 1 := by rw [wrap_id] <;> omega
        rw [hq.ldk hlt2, hw1, c_sl01In]
        simp only [Option.bind_some, one_bool]
        cases hin : inB rs[i] 0 (ps[i] - 1) with
        | false => rfl
        | true =>
          simp only [Bool.not_true, cond_false, Bool.true_and]
          have hp2 : ∀ p ∈ ps.take (i + 1), primeB p = true := fun p hp' => by
            rw [take_snoc' hlt] at hp'
            rcases List.mem_append.1 hp' with h | h
            · exact hp p h
            · simp at h; subst h; exact hpr
          have hprd : prd (ps.take (i + 1)) = a * ps[i] := by rw [take_snoc' hlt, prd_app, ha]; simp [prd]
          have h3 := prim3 hp2 (by simp; omega)
          rw [hprd] at h3
          have hw : IntKind.wrap .i64 (a * ps[i]) = a * ps[i] := by rw [wrap_id] <;> omega
          rw [hw, ← take_snoc hlt]
          exact c_sl42Fits_0 h hq hl hrl k (i + 1) (by omega) _ hp2 hprd.symm
/-- spec.CertificateOk -/
theorem c_sCertificateOk {H : AH} {s p q : Sl} {ts : List Tn} {ps rs : List Int} (h : T3 H s ts) (hp : IS H p ps) (hq : IS H q rs) : ∃ H', R (.fn F.sCertificateOk) [.agg [.sl s], .agg [.sl p, .sl q]] H = some ⟨1, [bsc (certB ts ps rs)], H'⟩ ∧ Go.Abs.Le H H' := by
  have e1 := c_sIntOk h
  unfold certB
  cases hi : intB ts with
  | false =>
    rw [hi] at e1
    exact ⟨H, by rw [R_eq, e_sCertificateOk, e1]; rfl, Go.Abs.Le.refl _⟩
  | true =>
    rw [hi] at e1
    obtain ⟨i1, i2, i3⟩ := intB_at hi
    have hb := bound_rng hi
    have hpn := hp.n
    have hqn := hq.n
    -- the form
    have e2 : R (.fn F.sl42Fits) [.agg [.sl s], .agg [.sl p, .sl q]] H = some ⟨1, [bsc ((decide (1 ≤ ps.length) && decide (ps.length ≤ 3)) && decide (rs.length = ps.length) && fitR [] ps rs && decide (2 * boundN ts < prd ps))], H⟩ := by
      rw [R_eq, e_sl42Fits, hpn, hqn, c_sl01In]
      simp only [Option.bind_some, one_bool]
      have hin : inB (ps.length : Int) 1 3 = (decide (1 ≤ ps.length) && decide (ps.length ≤ 3)) := by
        unfold inB
        by_cases h1 : 1 ≤ ps.length
        · by_cases h3 : ps.length ≤ 3
          · rw [decide_eq_true h1, decide_eq_true h3, decide_eq_true (show (ps.length : Int) ≥ 1 by omega), decide_eq_true (show (ps.length : Int) ≤ 3 by omega)]
          · rw [decide_eq_false h3, decide_eq_false (show ¬ (ps.length : Int) ≤ 3 by omega), Bool.and_false, Bool.and_false]
        · rw [decide_eq_false h1, decide_eq_false (show ¬ (ps.length : Int) ≥ 1 by omega), Bool.false_and, Bool.false_and]
      rw [hin]
      cases hlen : (decide (1 ≤ ps.length) && decide (ps.length ≤ 3)) with
      | false => rfl
      | true =>
        have h3 : ps.length ≤ 3 := by simp only [Bool.and_eq_true, decide_eq_true_eq] at hlen; exact hlen.2
        simp only [Bool.not_true, cond_false, Bool.true_and]
        by_cases h4 : rs.length = ps.length
        · have hb4 : ((rs.length : Int) != (ps.length : Int)) = false := by rw [h4]; simp
          rw [hb4, cond_false, decide_eq_true h4, Bool.true_and]
          have := c_sl42Fits_0 hp hq h3 h4 ps.length 0 (by omega) 1 (by simp) rfl
          have this : R (.loop F.sl42Fits 0) [isc 1, ssc p, isc (ps.length : Int), isc 0, .agg [.sl p, .sl q]] H = _ := this
          rw [this, List.take_zero, List.drop_zero, List.drop_zero]
          cases hg : fitR [] ps rs with
          | false => rfl
          | true =>
            have hpp := prim3 (primG_all (fitR_prim h4 hg)) h3
            simp only [cond_true, Option.bind_some, Nat.beq, cond_false, n_int2]
            rw [c_sl42Bound h (by omega) i2]
            simp only [Option.bind_some, one_int]
            have hw : IntKind.wrap .i64 (2 * boundN ts) = 2 * boundN ts := by rw [wrap_id] <;> omega
            rw [hw, Bool.true_and]
        · have hb4 : ((rs.length : Int) != (ps.length : Int)) = true := by simp; omega
          rw [hb4, cond_true, decide_eq_false h4]
          rfl
    have hgo : R (.fn F.sCertificateOk) [.agg [.sl s], .agg [.sl p, .sl q]] H = cond (!((decide (1 ≤ ps.length) && decide (ps.length ≤ 3)) && decide (rs.length = ps.length) && fitR [] ps rs && decide (2 * boundN ts < prd ps)))
        (some ⟨1, [bsc false], H⟩)
        ((R (.loop F.sCertificateOk 0) [ssc p, isc (ps.length : Int), isc 0, .agg [.sl s], .agg [.sl p, .sl q]] H).bind fun r22 => cond (Nat.beq r22.e 1) ((nthP r22.vs 0).bind fun p23 => p23.sc?.bind fun c24 => (boolAt [c24] 0).bind fun b25 => some ⟨1, [bsc b25], r22.H⟩) (cond (Nat.beq r22.e 2) (some ⟨1, [bsc true], r22.H⟩) none)) := by
      rw [R_eq, e_sCertificateOk, e1]
      simp only [Option.bind_some, one_bool, Bool.not_true, cond_false]
      rw [e2]
      simp only [Option.bind_some, one_bool, hpn]
    cases hf : ((decide (1 ≤ ps.length) && decide (ps.length ≤ 3)) && decide (rs.length = ps.length) && fitR [] ps rs && decide (2 * boundN ts < prd ps)) with
    | false =>
      refine ⟨H, ?_, Go.Abs.Le.refl _⟩
      rw [hgo, hf]
      have : (true && (decide (1 ≤ ps.length) && decide (ps.length ≤ 3)) && decide (rs.length = ps.length) && primG [] ps && decide (2 * boundN ts < prd ps) && resAll ts ps rs) = false := by
        rw [Bool.eq_false_iff]
        intro hall
        simp only [Bool.and_eq_true, Bool.true_and] at hall
        obtain ⟨⟨⟨⟨a1, a2⟩, a3⟩, a4⟩, a5⟩ := hall
        have := prim_fitR ts a3 a5
        rw [a1.1, a1.2, a2, this, a4] at hf
        cases hf
      rw [this]
      rfl
    | true =>
      simp only [Bool.and_eq_true, decide_eq_true_eq] at hf
      obtain ⟨⟨⟨⟨h1, h3⟩, h4⟩, hg⟩, h5⟩ := hf
      have hpg := fitR_prim h4 hg
      have loop : ∀ (k i : Nat), i + k = ps.length → ∀ Hc, Go.Abs.Le H Hc → ∃ H', R (.loop F.sCertificateOk 0) [ssc p, isc (ps.length : Int), isc (i : Int), .agg [.sl s], .agg [.sl p, .sl q]] Hc = cond (resAll ts (ps.drop i) (rs.drop i)) (some ⟨2, [], H'⟩) (some ⟨1, [bsc false], H'⟩) ∧ Go.Abs.Le H H' := by
        intro k
        induction k with
        | zero =>
          intro i hi' Hc hle
          obtain rfl : i = ps.length := by omega
          exact ⟨Hc, by rw [R_eq, e_sCertificateOk_0, lt_self, List.drop_eq_nil_of_le (Nat.le_refl _)]; rfl, hle⟩
        | succ k ih =>
          intro i hi' Hc hle
          have hlt : i < ps.length := by omega
          have hlt2 : i < rs.length := by omega
          obtain ⟨H1, e2, l2⟩ := c_sl42Residue (h.le hle) hi (primG_all hpg _ (List.getElem_mem hlt))
          have hle1 := hle.trans l2
          rw [List.drop_eq_getElem_cons hlt, List.drop_eq_getElem_cons hlt2]
          simp only [resAll, List.zip_cons_cons, List.all_cons]
          cases hv : resV ps[i] ts with
          | none =>
            rw [hv] at e2
            refine ⟨H1, ?_, hle1⟩
            rw [R_eq, e_sCertificateOk_0, lt_true hlt, w1 hlt (by omega), cond_true, (hp.le hle).ldk hlt, e2]
            rfl
          | some v =>
            rw [hv] at e2
            by_cases he : v = rs[i]
            · subst he
              obtain ⟨H', e3, l3⟩ := ih (i + 1) (by omega) H1 hle1
              refine ⟨H', ?_, l3⟩
              rw [R_eq, e_sCertificateOk_0, lt_true hlt, w1 hlt (by omega), cond_true, (hp.le hle).ldk hlt, e2]
              simp only [Option.bind_some]
              rw [n_ib]
              simp only [Option.isSome_some, Bool.not_true, cond_false, Option.getD_some]
              rw [(hq.le hle1).ldk hlt2, ne_i, cond_false, e3]
              simp [resAll]
            · refine ⟨H1, ?_, hle1⟩
              have hne : (v != rs[i]) = true := by simpa using he
              have hne2 : (some v == some rs[i]) = false := by simpa using he
              rw [R_eq, e_sCertificateOk_0, lt_true hlt, w1 hlt (by omega), cond_true, (hp.le hle).ldk hlt, e2]
              simp only [Option.bind_some]
              rw [n_ib]
              simp only [Option.isSome_some, Bool.not_true, cond_false, Option.getD_some]
              rw [(hq.le hle1).ldk hlt2, hne, cond_true, hne2]
              rfl
      obtain ⟨H', e3, l3⟩ := loop ps.length 0 (by omega) H (Go.Abs.Le.refl _)
      have e3 : R (.loop F.sCertificateOk 0) [ssc p, isc (ps.length : Int), isc 0, .agg [.sl s], .agg [.sl p, .sl q]] H = _ := e3
      rw [List.drop_zero, List.drop_zero] at e3
      refine ⟨H', ?_, l3⟩
      rw [hgo, decide_eq_true h1, decide_eq_true h3, decide_eq_true h4, hg, decide_eq_true h5, hpg]
      simp only [Bool.true_and, Bool.not_true, cond_false]
      rw [e3]
      cases resAll ts ps rs <;> rfl
end Go.Abs
/- Marks: what is marked changes within its own blocks alone. -/
namespace Go.Abs
set_option linter.all false
set_option maxRecDepth 10000

/-- A row of whole cells in a block from n0 on, below n1. -/
structure WS (z n0 n1 : Nat) (H : AH) (s : Sl) : Prop where
  o : s.o = 0
  blk : s.n = 0 ∨ (n0 ≤ s.b ∧ s.b < n1 ∧ ∃ cs, H[s.b]? = some ⟨cs, .rw, z⟩ ∧ cs.length = s.n * z)
/-- The same shape; nothing changes out of the blocks from n0 on, below n1, nor the rows of rows in them. -/
structure ShE (n0 n1 : Nat) (H H' : AH) : Prop where
  len : H'.length = H.length
  out : ∀ b, (b < n0 ∨ n1 ≤ b) → H'[b]? = H[b]?
  inn : ∀ (b : Nat) (cs : List Sc) (z : Nat), H[b]? = some ⟨cs, .rw, z⟩ → ∃ cs' : List Sc, H'[b]? = some ⟨cs', .rw, z⟩ ∧ cs'.length = cs.length ∧ (z = 3 → cs' = cs)
theorem ShE.refl (n0 n1 : Nat) (H : AH) : ShE n0 n1 H H := ⟨rfl, fun _ _ => rfl, fun b cs z h => ⟨cs, h, rfl, fun _ => rfl⟩⟩
theorem ShE.trans {n0 n1 : Nat} {A B C : AH} (h : ShE n0 n1 A B) (k : ShE n0 n1 B C) : ShE n0 n1 A C :=
  ⟨k.len.trans h.len, fun b hb => (k.out b hb).trans (h.out b hb), fun b cs z hb => by
    obtain ⟨c1, h1, h2, h3⟩ := h.inn b cs z hb
    obtain ⟨c2, k1, k2, k3⟩ := k.inn b c1 z h1
    exact ⟨c2, k1, k2.trans h2, fun e => (k3 e).trans (h3 e)⟩⟩
theorem ShE.set {n0 n1 z b : Nat} {H : AH} {cs cs' : List Sc} (hz : z ≠ 3) (h0 : n0 ≤ b) (h1 : b < n1) (hb : H[b]? = some ⟨cs, .rw, z⟩) (hl : cs'.length = cs.length) : ShE n0 n1 H (H.set b ⟨cs', .rw, z⟩) :=
  ⟨by simp, fun d hd => List.getElem?_set_ne (by omega), fun d c y hd => by
    by_cases e : b = d
    · subst e
      rw [hb] at hd
      cases hd
      exact ⟨cs', set_get hb, hl, fun e => absurd e hz⟩
    · exact ⟨c, by rw [List.getElem?_set_ne e]; exact hd, rfl, fun _ => rfl⟩⟩
theorem WS.ext {z n0 n1 n2 : Nat} {H H' : AH} {s : Sl} (h : WS z n0 n1 H s) (k : Go.Abs.Le H H') (hn : n1 ≤ n2) : WS z n0 n2 H' s :=
  ⟨h.o, h.blk.imp id fun ⟨a, b, cs, c, d⟩ => ⟨a, by omega, cs, by rw [k.get _ (List.getElem?_eq_some_iff.1 c).1]; exact c, d⟩⟩
theorem WS.low {z m0 n0 n1 : Nat} {H : AH} {s : Sl} (h : WS z n0 n1 H s) (hn : m0 ≤ n0) : WS z m0 n1 H s :=
  ⟨h.o, h.blk.imp id fun ⟨a, b, cs, c, d⟩ => ⟨by omega, b, cs, c, d⟩⟩
/-- What lies below the marked blocks stays. -/
theorem ShE.le {n0 n1 : Nat} {A H H' : AH} (h : ShE n0 n1 H H') (k : Go.Abs.Le A H) (hn : A.length ≤ n0) : Go.Abs.Le A H' :=
  ⟨by rw [h.len]; exact k.len, fun b hb => by rw [h.out b (.inl (by omega))]; exact k.get b hb⟩
end Go.Abs
/- The law's own helpers for plans. -/
namespace Go.Abs
set_option linter.all false
set_option maxRecDepth 10000

end Go.Abs
/- Marks: copies of arguments lie in blocks of their own; they are marked there. -/
namespace Go.Abs
set_option linter.all false
set_option maxRecDepth 10000

theorem WS.setne {z n0 n1 : Nat} {H : AH} {s : Sl} (h : WS z n0 n1 H s) {q : Nat} {k : Blk} (hq : s.b ≠ q) : WS z n0 n1 (H.set q k) s :=
  ⟨h.o, h.blk.imp id fun ⟨a, b, cs, c, d⟩ => ⟨a, b, cs, by rw [List.getElem?_set_ne (Ne.symm hq)]; exact c, d⟩⟩
theorem w_toIntS {H : AH} {s : Sl} {l : List Int} (h : IS H s l) (hl : l.length ≤ 1048576) :
    ∃ s' H', R (.fn F.wtoIntS) [ssc s] H = some ⟨1, [ssc s'], H'⟩ ∧ Go.Abs.Le H H' ∧ IS H' s' l ∧ WS 1 H.length H'.length H' s' ∧ s'.n = l.length ∧ H.length ≤ s'.b := by
  obtain ⟨H1, e1, l1, n1, b1⟩ := c_wtoIntS h hl
  exact ⟨_, H1, e1, l1, IS.of_blk b1 (Nat.le_refl _), ⟨rfl, .inr ⟨Nat.le_refl _, by show H.length < H1.length; omega, ics l, b1, by simp [ics]⟩⟩, rfl, Nat.le_refl _⟩
/-- A tensor's rows in blocks of their own. -/
structure W3 (n0 n1 : Nat) (H : AH) (a b c : Sl) (t : Tn) : Prop where
  wa : WS 1 n0 n1 H a
  wb : WS 1 n0 n1 H b
  wc : WS 1 n0 n1 H c
  na : a.n = t.L.length
  nb : b.n = t.D.length
  nc : c.n = t.X.length
theorem W3.ext {n0 n1 n2 : Nat} {H H' : AH} {a b c : Sl} {t : Tn} (h : W3 n0 n1 H a b c t) (k : Go.Abs.Le H H') (hn : n1 ≤ n2) : W3 n0 n2 H' a b c t := ⟨h.wa.ext k hn, h.wb.ext k hn, h.wc.ext k hn, h.na, h.nb, h.nc⟩
theorem w_toTensor {H : AH} {a b c : Sl} {t : Tn} (h : TS H a b c t) (hs : TnSmall t) :
    ∃ a' b' c' H', R (.fn F.wtoTensor) [tpv a b c] H = some ⟨1, [tpv a' b' c'], H'⟩ ∧ Go.Abs.Le H H' ∧ TS H' a' b' c' t ∧ W3 H.length H'.length H' a' b' c' t ∧ H.length ≤ a'.b ∧ H.length ≤ b'.b ∧ H.length ≤ c'.b := by
  obtain ⟨a', H1, e1, l1, i1, w1, n1, q1⟩ := w_toIntS h.L hs.1
  obtain ⟨b', H2, e2, l2, i2, w2, n2, q2⟩ := w_toIntS (h.D.le l1) hs.2.1
  obtain ⟨c', H3, e3, l3, i3, w3, n3, q3⟩ := w_toIntS (h.X.le (l1.trans l2)) hs.2.2
  have a1 := l1.len; have a2 := l2.len; have a3 := l3.len
  refine ⟨a', b', c', H3, ?_, (l1.trans l2).trans l3, ⟨i1.le (l2.trans l3), i2.le l3, i3⟩, ⟨w1.ext (l2.trans l3) (by omega), (w2.ext l3 (by omega)).low (by omega), w3.low (by omega), n1, n2, n3⟩, q1, by omega, by omega⟩
  rw [R_eq, e_wtoTensor, e1]
  simp only [Option.bind_some, one_sl]
  rw [e2]
  simp only [Option.bind_some, one_sl]
  rw [e3]
  simp only [Option.bind_some, one_sl]
/-- A row of tensors, their rows in blocks of their own. -/
structure WT (n0 n1 : Nat) (H : AH) (s : Sl) (ts : List Tn) : Prop where
  o : s.o = 0
  n : s.n = ts.length
  blk : ∃ cs : List Sc, H[s.b]? = some ⟨cs, .rw, 3⟩ ∧ ∀ (j : Nat) t, ts[j]? = some t → ∃ a b c, cs[j * 3]? = some (.sl a) ∧ cs[j * 3 + 1]? = some (.sl b) ∧ cs[j * 3 + 1 + 1]? = some (.sl c) ∧ W3 n0 n1 H a b c t
theorem WT.ext {n0 n1 n2 : Nat} {H H' : AH} {s : Sl} {ts : List Tn} (h : WT n0 n1 H s ts) (k : Go.Abs.Le H H') (hn : n1 ≤ n2) : WT n0 n2 H' s ts := by
  obtain ⟨ho, hm, cs, hb, hg⟩ := h
  refine ⟨ho, hm, cs, by rw [k.get _ (List.getElem?_eq_some_iff.1 hb).1]; exact hb, fun j t hj => ?_⟩
  obtain ⟨a, b, c, g1, g2, g3, g4⟩ := hg j t hj
  exact ⟨a, b, c, g1, g2, g3, g4.ext k hn⟩
theorem w_toTensorS {H : AH} {s : Sl} {ts : List Tn} (h : T3 H s ts) (hl : ts.length ≤ 1048576) (hs : ∀ t ∈ ts, TnSmall t) :
    ∃ s' H', R (.fn F.wtoTensorS) [ssc s] H = some ⟨1, [ssc s'], H'⟩ ∧ Go.Abs.Le H H' ∧ T3 H' s' ts ∧ WT H.length H'.length H' s' ts := by
  have loop : ∀ (k i : Nat), i + k = ts.length → ∀ (Hc : AH) (cs : List Sc), Go.Abs.Le H Hc → Hc[H.length]? = some ⟨cs, .rw, 3⟩ → cs.length = ts.length * 3 →
      (∀ (j : Nat) t, j < i → ts[j]? = some t → ∃ a b c, cs[j * 3]? = some (.sl a) ∧ cs[j * 3 + 1]? = some (.sl b) ∧ cs[j * 3 + 1 + 1]? = some (.sl c) ∧ TS Hc a b c t ∧ W3 H.length Hc.length Hc a b c t ∧ a.b ≠ H.length ∧ b.b ≠ H.length ∧ c.b ≠ H.length) →
      ∃ H' cs', R (.loop F.wtoTensorS 0) [ssc s, ssc ⟨H.length, 0, ts.length, ts.length, true⟩, isc (i : Int)] Hc = some ⟨2, [], H'⟩ ∧ Go.Abs.Le H H' ∧ H'[H.length]? = some ⟨cs', .rw, 3⟩ ∧
        ∀ (j : Nat) t, ts[j]? = some t → ∃ a b c, cs'[j * 3]? = some (.sl a) ∧ cs'[j * 3 + 1]? = some (.sl b) ∧ cs'[j * 3 + 1 + 1]? = some (.sl c) ∧ TS H' a b c t ∧ W3 H.length H'.length H' a b c t := by
    intro k
    induction k with
    | zero =>
      intro i hi Hc cs hle hb hcl hcs
      obtain rfl : i = ts.length := by omega
      refine ⟨Hc, cs, by rw [R_eq, e_wtoTensorS_0, h.1, lt_self]; rfl, hle, hb, fun j g hj => ?_⟩
      obtain ⟨a, b, c, q1, q2, q3, q4, q5, _⟩ := hcs j g (List.getElem?_eq_some_iff.1 hj).1 hj
      exact ⟨a, b, c, q1, q2, q3, q4, q5⟩
    | succ k ih =>
      intro i hi Hc cs hle hb hcl hcs
      have hlt : i < ts.length := by omega
      obtain ⟨x, y, z, ht, kt⟩ := (h.le hle).ld hlt
      obtain ⟨a, b, c, H1, e1, l1, t1, w1', p1, p2, p3⟩ := w_toTensor ht (hs _ (List.getElem_mem hlt))
      have hbl : H.length < Hc.length := (List.getElem?_eq_some_iff.1 hb).1
      have hb1 : H1[H.length]? = some ⟨cs, .rw, 3⟩ := by rw [l1.get _ hbl]; exact hb
      rw [R_eq, e_wtoTensorS_0, h.1, lt_true hlt, w1 hlt (by omega), cond_true, kt, e1]
      simp only [Option.bind_some, o_sss]
      rw [ixA_nat (by exact hlt)]
      simp only [Option.bind_some, Nat.zero_add]
      rw [putR_all hb1 (by simp; omega)]
      simp only [Option.bind_some]
      have hwset : ∀ {a b c : Sl} {t : Tn} {m : Nat} {q : Blk}, W3 H.length m H1 a b c t → a.b ≠ H.length → b.b ≠ H.length → c.b ≠ H.length → W3 H.length m (H1.set H.length q) a b c t := fun w g1 g2 g3 => ⟨w.wa.setne g1, w.wb.setne g2, w.wc.setne g3, w.na, w.nb, w.nc⟩
      refine ih (i + 1) (by omega) _ _ (set_le (hle.trans l1) (Nat.le_refl _)) (set_get hb1) (by rw [setAll_length]; exact hcl) (fun j g hj hjl => ?_)
      rw [setAll_get, setAll_get, setAll_get, List.length_set]
      by_cases e : j = i
      · subst e
        rw [List.getElem?_eq_getElem hlt] at hjl
        cases hjl
        rw [if_pos ⟨by omega, by simp, by omega⟩, if_pos ⟨by omega, by simp, by omega⟩, if_pos ⟨by omega, by simp, by omega⟩]
        have hw' : W3 H.length H1.length H1 a b c ts[j] := ⟨w1'.wa.low (by omega), w1'.wb.low (by omega), w1'.wc.low (by omega), w1'.na, w1'.nb, w1'.nc⟩
        refine ⟨a, b, c, by simp, by simp, by rw [show j * 3 + 1 + 1 - j * 3 = 2 by omega]; rfl, t1.set (by omega) (by omega) (by omega), hwset hw' (by omega) (by omega) (by omega), by omega, by omega, by omega⟩
      · have hji : j < i := by omega
        rw [if_neg (by omega), if_neg (by omega), if_neg (by omega)]
        obtain ⟨a, b, c, q1, q2, q3, q4, q4', q5, q6, q7⟩ := hcs j g hji hjl
        exact ⟨a, b, c, q1, q2, q3, (q4.le l1).set q5 q6 q7, hwset (q4'.ext l1 l1.len) q5 q6 q7, q5, q6, q7⟩
  have hm := mk_any (H := H) (z := 3) (y := 72) (vs := [.sl ⟨0, 0, 0, 0, true⟩, .sl ⟨0, 0, 0, 0, true⟩, .sl ⟨0, 0, 0, 0, true⟩]) hl (by omega) (by omega) (by omega)
  obtain ⟨H', cs, e, l1, b1, g⟩ := loop ts.length 0 (by omega) (H ++ [⟨(List.replicate ts.length [.sl ⟨0, 0, 0, 0, true⟩, .sl ⟨0, 0, 0, 0, true⟩, .sl ⟨0, 0, 0, 0, true⟩]).flatten, .rw, 3⟩]) _ (Go.Abs.Le.app _ _) app_get (by simp) (fun j l hj => by omega)
  have e : R (.loop F.wtoTensorS 0) [ssc s, ssc ⟨H.length, 0, ts.length, ts.length, true⟩, isc 0] (H ++ [⟨(List.replicate ts.length [.sl ⟨0, 0, 0, 0, true⟩, .sl ⟨0, 0, 0, 0, true⟩, .sl ⟨0, 0, 0, 0, true⟩]).flatten, .rw, 3⟩]) = some ⟨2, [], H'⟩ := e
  refine ⟨⟨H.length, 0, ts.length, ts.length, true⟩, H', ?_, l1, ⟨rfl, Nat.le_refl _, .inr ⟨cs, by unfold rdB; rw [b1]; rfl, fun i x hi => ?_⟩⟩, ⟨rfl, rfl, cs, b1, fun j t hj => ?_⟩⟩
  · rw [R_eq, e_wtoTensorS, h.1]
    rw [show mkB H 3 72 [Sc.sl ⟨0, 0, 0, 0, true⟩, .sl ⟨0, 0, 0, 0, true⟩, .sl ⟨0, 0, 0, 0, true⟩] (ts.length : Int) (ts.length : Int) = _ from hm]
    simp only [Option.bind_some]
    rw [e]; rfl
  · rw [Nat.zero_add]
    obtain ⟨a, b, c, q1, q2, q3, q4, _⟩ := g i x hi
    exact ⟨a, b, c, q1, q2, q3, q4⟩
  · obtain ⟨a, b, c, q1, q2, q3, _, q5⟩ := g j t hj
    exact ⟨a, b, c, q1, q2, q3, q5⟩
structure WN (n0 n1 : Nat) (H : AH) (s u : Sl) (n : Nw) : Prop where
  ts : WT n0 n1 H s n.ts
  op : WS 1 n0 n1 H u
  no : u.n = n.op.length
end Go.Abs
/- The law FnExactFormulaNetwork: its contract in plain Lean. -/
namespace Go.Abs
set_option linter.all false
set_option maxRecDepth 10000

def fieldsOf (P : Program) (t : TypeId) : Option (List (TypeId × Nat × Nat)) := match P.underlying t with
  | some (.struct fs) => some (fs.toList.map fun f => (f.type, f.offset, tsz P f.type))
  | _ => none
theorem open_struct {H : AH} {n : Nat} {t : TypeId} {L : List (TypeId × Nat × Nat)} (hf : fieldsOf P t = some L) {l : List Sc} (h : typed P (n + 1) H t l) : l.length = tsz P t ∧ ∀ x ∈ L, typed P n H x.1 ((l.drop x.2.1).take x.2.2) := by
  unfold fieldsOf at hf
  split at hf
  · rename_i fs hu
    cases hf
    simp only [typed, hu] at h
    refine ⟨h.1, fun x hx => ?_⟩
    obtain ⟨f, hm, rfl⟩ := List.mem_map.1 hx
    exact h.2 f hm
  · cases hf
theorem pvT_struct {t : TypeId} {L : List (TypeId × Nat × Nat)} (hf : fieldsOf P t = some L) (l : List Sc) : pvT P t l = .agg l := by
  unfold fieldsOf at hf
  unfold pvT
  split at hf
  · rename_i fs hu
    rw [hu]
  · cases hf
theorem u_int : P.underlying Y.tint = some (.int .i64) := by kernel_rfl
theorem u_Sint : P.underlying Y.tSint = some (.slice Y.tint) := by kernel_rfl
theorem z_int : tsz P Y.tint = 1 := by kernel_rfl
theorem len3 {α : Type} {l : List α} (h : l.length = 3) : ∃ a b c, l = [a, b, c] := by
  match l, h with
  | [a, b, c], _ => exact ⟨a, b, c, rfl⟩
theorem len2 {α : Type} {l : List α} (h : l.length = 2) : ∃ a b, l = [a, b] := by
  match l, h with
  | [a, b], _ => exact ⟨a, b, rfl⟩
end Go.Abs
/- The law FnExactSessionOk: its contract in plain Lean. -/
namespace Go.Abs
set_option linter.all false
set_option maxRecDepth 10000

theorem f_Tensor : fieldsOf P Y.tlaws_Tensor = some [(Y.tSint, 0, 1), (Y.tSint, 1, 1), (Y.tSint, 2, 1)] := by kernel_rfl
theorem z_Tensor : tsz P Y.tlaws_Tensor = 3 := by kernel_rfl
theorem u_STensor : P.underlying Y.tSlaws_Tensor = some (.slice Y.tlaws_Tensor) := by kernel_rfl
theorem take_three' {cells : List Sc} {i : Nat} {x y z : Sc} (h : (cells.drop (i * 3)).take 3 = [x, y, z]) : cells[i * 3]? = some x ∧ cells[i * 3 + 1]? = some y ∧ cells[i * 3 + 1 + 1]? = some z := by
  have h0 := congrArg (fun l => l[0]?) h
  have h1 := congrArg (fun l => l[1]?) h
  have h2 := congrArg (fun l => l[2]?) h
  simp at h0 h1 h2
  exact ⟨h0, h1, h2⟩
theorem open_tensor {H : AH} {n : Nat} {l : List Sc} (h : typed P (n + 3) H Y.tlaws_Tensor l) : ∃ a b c t, l = [.sl a, .sl b, .sl c] ∧ TS H a b c t ∧ TnMax t := by
  obtain ⟨h1, h2⟩ := open_struct f_Tensor h
  obtain ⟨x, y, z, rfl⟩ := len3 (h1.trans z_Tensor)
  obtain ⟨a, L, ha, a1, a2, _⟩ := open_ints u_Sint u_int z_int (h2 (Y.tSint, 0, 1) (by simp))
  obtain ⟨b, D, hb, b1, b2, _⟩ := open_ints u_Sint u_int z_int (h2 (Y.tSint, 1, 1) (by simp))
  obtain ⟨c, X, hc, c1, c2, _⟩ := open_ints u_Sint u_int z_int (h2 (Y.tSint, 2, 1) (by simp))
  simp at ha hb hc
  exact ⟨a, b, c, ⟨L, D, X⟩, by rw [ha, hb, hc], ⟨a1, b1, c1⟩, a2, b2, c2⟩
theorem open_tensors {H : AH} {n : Nat} {l : List Sc} (h : typed P (n + 4) H Y.tSlaws_Tensor l) : ∃ s ts, l = [.sl s] ∧ T3 H s ts ∧ ts.length ≤ maxLen ∧ ∀ t ∈ ts, TnMax t := by
  obtain ⟨s, xs, h1, h2, h3, h4, h5, h6⟩ := open_sl (E := fun i cells (t : Tn) => (∃ a b c, cells[i * 3]? = some (.sl a) ∧ cells[i * 3 + 1]? = some (.sl b) ∧ cells[i * 3 + 1 + 1]? = some (.sl c) ∧ TS H a b c t) ∧ TnMax t) u_STensor z_Tensor h (fun cells i ht => by
    obtain ⟨a, b, c, t, e, g, m⟩ := open_tensor ht
    obtain ⟨q1, q2, q3⟩ := take_three' e
    exact ⟨t, ⟨a, b, c, q1, q2, q3, g⟩, m⟩)
  refine ⟨s, xs, h1, ⟨h2, h3, h6.imp id fun ⟨cells, g1, g2⟩ => ⟨cells, g1, fun i t hi => ?_⟩⟩, h4, fun t ht => ?_⟩
  · obtain ⟨j, hj⟩ := List.getElem?_of_mem ht
    rcases h6 with e | ⟨cells, _, g2⟩
    · rw [e] at ht; simp at ht
    · exact (g2 j t hj).2
  · rw [h5, Nat.zero_add]
    exact (g2 i t hi).1
end Go.Abs
/- The law FnExactCertificateOk: its contract in plain Lean. -/
namespace Go.Abs
set_option linter.all false
set_option maxRecDepth 10000

theorem o_s1 {α : Type} (s : Sl) (k : Sl → Option α) : ((oneP [.agg [.sl s]]).bind fun p => p.agg?.bind fun l => cond (decide (l.length = 1)) ((slAt l 0).bind k) none) = k s := rfl
theorem f_IntNetwork : fieldsOf P Y.tlaws_IntNetwork = some [(Y.tSlaws_Tensor, 0, 1)] := by kernel_rfl
theorem z_IntNetwork : tsz P Y.tlaws_IntNetwork = 1 := by kernel_rfl
theorem f_Certificate : fieldsOf P Y.tlaws_Certificate = some [(Y.tSint, 0, 1), (Y.tSint, 1, 1)] := by kernel_rfl
theorem z_Certificate : tsz P Y.tlaws_Certificate = 2 := by kernel_rfl
theorem len1 {α : Type} {l : List α} (h : l.length = 1) : ∃ a, l = [a] := by
  match l, h with
  | [a], _ => exact ⟨a, rfl⟩
theorem open_intnet {H : AH} {n : Nat} {l : List Sc} (h : typed P (n + 5) H Y.tlaws_IntNetwork l) : ∃ s ts, l = [.sl s] ∧ T3 H s ts ∧ ts.length ≤ maxLen ∧ ∀ t ∈ ts, TnMax t := by
  obtain ⟨h1, h2⟩ := open_struct f_IntNetwork h
  obtain ⟨x0, rfl⟩ := len1 (h1.trans z_IntNetwork)
  obtain ⟨s, ts, hs, s1, s2, s3⟩ := open_tensors (h2 (Y.tSlaws_Tensor, 0, 1) (by simp))
  simp at hs
  exact ⟨s, ts, by rw [hs], s1, s2, s3⟩
theorem open_cert {H : AH} {n : Nat} {l : List Sc} (h : typed P (n + 5) H Y.tlaws_Certificate l) : ∃ p q ps rs, l = [.sl p, .sl q] ∧ IS H p ps ∧ IS H q rs ∧ ps.length ≤ maxLen ∧ rs.length ≤ maxLen := by
  obtain ⟨h1, h2⟩ := open_struct f_Certificate h
  obtain ⟨x0, x1, rfl⟩ := len2 (h1.trans z_Certificate)
  obtain ⟨p, ps, hp, p1, p2, _⟩ := open_ints u_Sint u_int z_int (h2 (Y.tSint, 0, 1) (by simp))
  obtain ⟨q, rs, hq, q1, q2, _⟩ := open_ints u_Sint u_int z_int (h2 (Y.tSint, 1, 1) (by simp))
  simp at hp hq
  exact ⟨p, q, ps, rs, by rw [hp, hq], p1, q1, p2, q2⟩
theorem z_intnet {H : AH} {s : Sl} {ts : List Tn} (h : T3 H s ts) (hn : ts.length ≤ maxLen) (hm : ∀ t ∈ ts, TnMax t) {left : Int} (h0 : 0 ≤ left) (h1 : left ≤ 1048576) :
    ∃ v, R (.fn F.wszIntNetwork) [.agg [.sl s], isc left] H = some ⟨1, [isc v], H⟩ ∧ (v < 0 ∨ (0 ≤ v ∧ v ≤ 1048576 ∧ ts.length ≤ 1048576 ∧ ∀ t ∈ ts, TnSmall t)) := by
  rw [R_eq, e_wszIntNetwork]
  obtain ⟨v1, e1, g1 | ⟨g1, k1, m1, m2⟩⟩ := z_tensors h hn hm h0 h1
  · exact ⟨-1, by rw [e1]; simp only [Option.bind_some, one_int, decide_eq_true g1, cond_true], .inl (by omega)⟩
  · exact ⟨v1, by rw [e1]; simp only [Option.bind_some, one_int, decide_eq_false (Int.not_lt.2 g1), cond_false], .inr ⟨g1, k1, m1, m2⟩⟩
theorem z_cert {H : AH} {p q : Sl} {ps rs : List Int} (hp : IS H p ps) (hq : IS H q rs) (m1 : ps.length ≤ maxLen) (m2 : rs.length ≤ maxLen) {left : Int} (h0 : 0 ≤ left) (h1 : left ≤ 1048576) :
    ∃ w, R (.fn F.wszCertificate) [.agg [.sl p, .sl q], isc left] H = some ⟨1, [isc w], H⟩ ∧ (w < 0 ∨ (0 ≤ w ∧ w ≤ 1048576 ∧ ps.length ≤ 1048576 ∧ rs.length ≤ 1048576)) := by
  rw [R_eq, e_wszCertificate]
  obtain ⟨v1, e1, g1 | ⟨g1, k1, m1⟩⟩ := z_ints hp m1 h0 h1
  · exact ⟨-1, by rw [e1]; simp only [Option.bind_some, one_int, decide_eq_true g1, cond_true], .inl (by omega)⟩
  obtain ⟨v2, e2, g2 | ⟨g2, k2, m3⟩⟩ := z_ints hq m2 g1 k1
  · exact ⟨-1, by rw [e1]; simp only [Option.bind_some, one_int, decide_eq_false (Int.not_lt.2 g1), cond_false]; rw [e2]; simp only [Option.bind_some, one_int, decide_eq_true g2, cond_true], .inl (by omega)⟩
  · exact ⟨v2, by rw [e1]; simp only [Option.bind_some, one_int, decide_eq_false (Int.not_lt.2 g1), cond_false]; rw [e2]; simp only [Option.bind_some, one_int, decide_eq_false (Int.not_lt.2 g2), cond_false], .inr ⟨g2, k2, m1, m3⟩⟩
theorem w_toIntnet {H : AH} {s : Sl} {ts : List Tn} (h : T3 H s ts) (hl : ts.length ≤ 1048576) (hs : ∀ t ∈ ts, TnSmall t) :
    ∃ s' H', R (.fn F.wtoIntNetwork) [.agg [.sl s]] H = some ⟨1, [.agg [.sl s']], H'⟩ ∧ Go.Abs.Le H H' ∧ T3 H' s' ts ∧ WT H.length H'.length H' s' ts := by
  obtain ⟨s', H1, e1, l1, t1, w1⟩ := w_toTensorS h hl hs
  refine ⟨s', H1, ?_, l1, t1, w1⟩
  rw [R_eq, e_wtoIntNetwork, e1]
  simp only [Option.bind_some, one_sl]
theorem c_wtoCertificate {H : AH} {p q : Sl} {ps rs : List Int} (hp : IS H p ps) (hq : IS H q rs) (m1 : ps.length ≤ 1048576) (m2 : rs.length ≤ 1048576) :
    ∃ p' q' H', R (.fn F.wtoCertificate) [.agg [.sl p, .sl q]] H = some ⟨1, [.agg [.sl p', .sl q']], H'⟩ ∧ Go.Abs.Le H H' ∧ IS H' p' ps ∧ IS H' q' rs := by
  obtain ⟨H1, e1, l1, n1, b1⟩ := c_wtoIntS hp m1
  obtain ⟨H2, e2, l2, n2, b2⟩ := c_wtoIntS (hq.le l1) m2
  refine ⟨rowAt H.length ps, rowAt H1.length rs, H2, ?_, l1.trans l2, (IS.of_blk b1 (Nat.le_refl _)).le l2, IS.of_blk b2 (Nat.le_refl _)⟩
  rw [R_eq, e_wtoCertificate, e1]
  simp only [Option.bind_some, one_sl]
  rw [e2]
  simp only [Option.bind_some, one_sl]
theorem intnet_eq {H : AH} {s s' : Sl} {ts : List Tn} (h : T3 H s ts) (k : T3 H s' ts) (hl : ts.length ≤ 1048576) (hs : ∀ t ∈ ts, TnSmall t) : R (.fn F.weqIntNetwork) [.agg [.sl s], .agg [.sl s']] H = some ⟨1, [bsc true], H⟩ := by
  rw [R_eq, e_weqIntNetwork, c75_eq h k hl hs]
  rfl
theorem cert_eq {H : AH} {p q p' q' : Sl} {ps rs : List Int} (h1 : IS H p ps) (h2 : IS H q rs) (k1 : IS H p' ps) (k2 : IS H q' rs) (m1 : ps.length ≤ 1048576) (m2 : rs.length ≤ 1048576) : R (.fn F.weqCertificate) [.agg [.sl p, .sl q], .agg [.sl p', .sl q']] H = some ⟨1, [bsc true], H⟩ := by
  rw [R_eq, e_weqCertificate, c52_eq h1 k1 m1]
  simp only [Option.bind_some, one_bool, Bool.not_true, cond_false]
  rw [c52_eq h2 k2 m2]
  rfl
theorem calc_CertificateOk {v0 v1 : Int} {s p q s1 p1 q1 s2 p2 q2 s3 p3 q3 : Sl} {b : Bool} {H0 H1 H2 H3 H4 H5 H6 H7 H8 : AH} (d0 : decide (v0 < 0) = false) (d1 : decide (v1 < 0) = false)
    (z0 : R (.fn F.wszIntNetwork) [.agg [.sl s], isc 1048576] H0 = some ⟨1, [isc v0], H0⟩)
    (z1 : R (.fn F.wszCertificate) [.agg [.sl p, .sl q], isc v0] H0 = some ⟨1, [isc v1], H0⟩)
    (e1 : R (.fn F.wtoIntNetwork) [.agg [.sl s]] H0 = some ⟨1, [.agg [.sl s1]], H1⟩)
    (e2 : R (.fn F.wtoCertificate) [.agg [.sl p, .sl q]] H1 = some ⟨1, [.agg [.sl p1, .sl q1]], H2⟩)
    (e3 : R (.fn F.sCertificateOk) [.agg [.sl s1], .agg [.sl p1, .sl q1]] H2 = some ⟨1, [bsc b], H3⟩)
    (e4 : R (.fn F.wtoIntNetwork) [.agg [.sl s]] H3 = some ⟨1, [.agg [.sl s2]], H4⟩)
    (e5 : R (.fn F.wtoCertificate) [.agg [.sl p, .sl q]] H4 = some ⟨1, [.agg [.sl p2, .sl q2]], H5⟩)
    (e6 : R (.fn F.iCertificateOk) [.agg [.sl s2], .agg [.sl p2, .sl q2]] H5 = some ⟨1, [bsc b], H6⟩)
    (e7 : R (.fn F.wtoIntNetwork) [.agg [.sl s]] H6 = some ⟨1, [.agg [.sl s3]], H7⟩)
    (r1 : R (.fn F.weqIntNetwork) [.agg [.sl s2], .agg [.sl s3]] H7 = some ⟨1, [bsc true], H7⟩)
    (e8 : R (.fn F.wtoCertificate) [.agg [.sl p, .sl q]] H7 = some ⟨1, [.agg [.sl p3, .sl q3]], H8⟩)
    (r2 : R (.fn F.weqCertificate) [.agg [.sl p2, .sl q2], .agg [.sl p3, .sl q3]] H8 = some ⟨1, [bsc true], H8⟩) :
    R (.fn F.wFnExactCertificateOk) [.agg [.sl s], .agg [.sl p, .sl q]] H0 = some ⟨1, [bsc true], H8⟩ := by
  rw [R_eq, e_wFnExactCertificateOk, z0]
  simp only [Option.bind_some, one_int, d0, cond_false]
  rw [z1]
  simp only [Option.bind_some, one_int, d1, cond_false]
  rw [e1]
  simp only [Option.bind_some]
  rw [o_s1, e2]
  simp only [Option.bind_some, o_ss]
  rw [e3]
  simp only [Option.bind_some, one_bool]
  rw [e4]
  simp only [Option.bind_some]
  rw [o_s1, e5]
  simp only [Option.bind_some, o_ss]
  rw [e6]
  simp only [Option.bind_some, one_bool, ne_b, cond_false]
  rw [e7]
  simp only [Option.bind_some]
  rw [o_s1, r1]
  simp only [Option.bind_some, one_bool, Bool.not_true, cond_false]
  rw [e8]
  simp only [Option.bind_some, o_ss]
  rw [r2]
  simp only [Option.bind_some, one_bool, Bool.not_true, cond_false]
theorem law_CertificateOk : LawPure P R F.wFnExactCertificateOk [Y.tlaws_IntNetwork, Y.tlaws_Certificate] := by
  intro H0 ls hro hA
  obtain ⟨l1, l2, rfl, t1, t2⟩ : ∃ l1 l2, ls = [l1, l2] ∧ typed P 8 H0 Y.tlaws_IntNetwork l1 ∧ typed P 8 H0 Y.tlaws_Certificate l2 := by
    cases hA with
    | cons a h =>
      cases h with
      | cons b h => cases h; exact ⟨_, _, rfl, a, b⟩
  obtain ⟨s, ts, rfl, h, hn, hm⟩ := open_intnet t1
  obtain ⟨p, q, ps, rs, rfl, hp, hq, hpm, hqm⟩ := open_cert t2
  show ∃ H', R _ [pvT P Y.tlaws_IntNetwork _, pvT P Y.tlaws_Certificate _] H0 = _
  rw [pvT_struct f_IntNetwork, pvT_struct f_Certificate]
  obtain ⟨v0, z0, hneg | ⟨g1, g2, m0, ms⟩⟩ := z_intnet h hn hm (left := 1048576) (by omega) (by omega)
  · refine ⟨H0, ?_⟩
    rw [R_eq, e_wFnExactCertificateOk, z0]
    simp only [Option.bind_some, one_int, decide_eq_true hneg, cond_true]
  obtain ⟨v1, z1, hneg | ⟨g3, g4, m1, m2⟩⟩ := z_cert hp hq hpm hqm g1 g2
  · refine ⟨H0, ?_⟩
    rw [R_eq, e_wFnExactCertificateOk, z0]
    simp only [Option.bind_some, one_int, decide_eq_false (Int.not_lt.2 g1), cond_false]
    rw [z1]
    simp only [Option.bind_some, one_int, decide_eq_true hneg, cond_true]
  obtain ⟨s1, H1, e1, l1, n1, _⟩ := w_toIntnet h m0 ms
  obtain ⟨p1, q1, H2, e2, l2, i1, j1⟩ := c_wtoCertificate (hp.le l1) (hq.le l1) m1 m2
  obtain ⟨H3, e3, l3⟩ := c_sCertificateOk (n1.le l2) i1 j1
  have l03 := (l1.trans l2).trans l3
  obtain ⟨s2, H4, e4, l4, n4, _⟩ := w_toIntnet (h.le l03) m0 ms
  have l04 := l03.trans l4
  obtain ⟨p2, q2, H5, e5, l5, i2, j2⟩ := c_wtoCertificate (hp.le l04) (hq.le l04) m1 m2
  obtain ⟨H6, e6, l6⟩ := c_iCertificateOk (n4.le l5) i2 j2
  have l06 := (l04.trans l5).trans l6
  obtain ⟨s3, H7, e7, l7, n7, _⟩ := w_toIntnet (h.le l06) m0 ms
  have l07 := l06.trans l7
  obtain ⟨p3, q3, H8, e8, l8, i3, j3⟩ := c_wtoCertificate (hp.le l07) (hq.le l07) m1 m2
  have r1 := intnet_eq ((n4.le l5).le (l6.trans l7)) n7 m0 ms
  have r2 := cert_eq (i2.le ((l6.trans l7).trans l8)) (j2.le ((l6.trans l7).trans l8)) i3 j3 m1 m2
  exact ⟨H8, calc_CertificateOk (decide_eq_false (Int.not_lt.2 g1)) (decide_eq_false (Int.not_lt.2 g3)) z0 z1 e1 e2 e3 e4 e5 e6 e7 r1 e8 r2⟩
end Go.Abs
