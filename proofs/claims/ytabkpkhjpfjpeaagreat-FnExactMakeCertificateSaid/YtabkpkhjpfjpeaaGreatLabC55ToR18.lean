/- Part of the proof of FnExactMakeCertificate: that for every input the law answers true and leaves what it reads as it was. Conditions: none beyond the given statement. -/
import Derived.Test.YtabkpkhjpfjpeaaGreatLabC47ToR2
import Derived.Test.YtabkpkhjpfjpeaaGreatLabR3ToC36
set_option linter.all false
/- The law FnExactSessionOk: its contract in plain Lean. -/
namespace Go.Abs
set_option linter.all false
set_option maxRecDepth 10000

theorem f_Tensor : fieldsOf P Y.tlaws_Tensor = some [(Y.tSint, 0, 1), (Y.tSint, 1, 1), (Y.tSint, 2, 1)] := by kernel_rfl
theorem z_Tensor : tsz P Y.tlaws_Tensor = 3 := by kernel_rfl
theorem u_STensor : P.underlying Y.tSlaws_Tensor = some (.slice Y.tlaws_Tensor) := by kernel_rfl
theorem take_three' {cells : List Sc} {i : Nat} {x y z : Sc} (h : (cells.drop (i * 3)).take 3 = [x, y, z]) : cells[i * 3]? = some x ∧ cells[i * 3 + 1]? = some y ∧ cells[i * 3 + 1 + 1]? = some z := by
  have h0 := congrArg (fun l => l[0]?) h
  have h1 := congrArg (fun l => l[1]?) h
  have h2 := congrArg (fun l => l[2]?) h
  simp at h0 h1 h2
  exact ⟨h0, h1, h2⟩
theorem open_tensor {H : AH} {n : Nat} {l : List Sc} (h : typed P (n + 3) H Y.tlaws_Tensor l) : ∃ a b c t, l = [.sl a, .sl b, .sl c] ∧ TS H a b c t ∧ TnMax t := by
  obtain ⟨h1, h2⟩ := open_struct f_Tensor h
  obtain ⟨x, y, z, rfl⟩ := len3 (h1.trans z_Tensor)
  obtain ⟨a, L, ha, a1, a2, _⟩ := open_ints u_Sint u_int z_int (h2 (Y.tSint, 0, 1) (by simp))
  obtain ⟨b, D, hb, b1, b2, _⟩ := open_ints u_Sint u_int z_int (h2 (Y.tSint, 1, 1) (by simp))
  obtain ⟨c, X, hc, c1, c2, _⟩ := open_ints u_Sint u_int z_int (h2 (Y.tSint, 2, 1) (by simp))
  simp at ha hb hc
  exact ⟨a, b, c, ⟨L, D, X⟩, by rw [ha, hb, hc], ⟨a1, b1, c1⟩, a2, b2, c2⟩
theorem open_tensors {H : AH} {n : Nat} {l : List Sc} (h : typed P (n + 4) H Y.tSlaws_Tensor l) : ∃ s ts, l = [.sl s] ∧ T3 H s ts ∧ ts.length ≤ maxLen ∧ ∀ t ∈ ts, TnMax t := by
  obtain ⟨s, xs, h1, h2, h3, h4, h5, h6⟩ := open_sl (E := fun i cells (t : Tn) => (∃ a b c, cells[i * 3]? = some (.sl a) ∧ cells[i * 3 + 1]? = some (.sl b) ∧ cells[i * 3 + 1 + 1]? = some (.sl c) ∧ TS H a b c t) ∧ TnMax t) u_STensor z_Tensor h (fun cells i ht => by
    obtain ⟨a, b, c, t, e, g, m⟩ := open_tensor ht
    obtain ⟨q1, q2, q3⟩ := take_three' e
    exact ⟨t, ⟨a, b, c, q1, q2, q3, g⟩, m⟩)
  refine ⟨s, xs, h1, ⟨h2, h3, h6.imp id fun ⟨cells, g1, g2⟩ => ⟨cells, g1, fun i t hi => ?_⟩⟩, h4, fun t ht => ?_⟩
  · obtain ⟨j, hj⟩ := List.getElem?_of_mem ht
    rcases h6 with e | ⟨cells, _, g2⟩
    · rw [e] at ht; simp at ht
    · exact (g2 j t hj).2
  · rw [h5, Nat.zero_add]
    exact (g2 i t hi).1
end Go.Abs
/- The law FnExactCertificateOk: its contract in plain Lean. -/
namespace Go.Abs
set_option linter.all false
set_option maxRecDepth 10000

theorem o_s1 {α : Type} (s : Sl) (k : Sl → Option α) : ((oneP [.agg [.sl s]]).bind fun p => p.agg?.bind fun l => cond (decide (l.length = 1)) ((slAt l 0).bind k) none) = k s := rfl
theorem f_IntNetwork : fieldsOf P Y.tlaws_IntNetwork = some [(Y.tSlaws_Tensor, 0, 1)] := by kernel_rfl
theorem z_IntNetwork : tsz P Y.tlaws_IntNetwork = 1 := by kernel_rfl
theorem len1 {α : Type} {l : List α} (h : l.length = 1) : ∃ a, l = [a] := by
  match l, h with
  | [a], _ => exact ⟨a, rfl⟩
theorem open_intnet {H : AH} {n : Nat} {l : List Sc} (h : typed P (n + 5) H Y.tlaws_IntNetwork l) : ∃ s ts, l = [.sl s] ∧ T3 H s ts ∧ ts.length ≤ maxLen ∧ ∀ t ∈ ts, TnMax t := by
  obtain ⟨h1, h2⟩ := open_struct f_IntNetwork h
  obtain ⟨x0, rfl⟩ := len1 (h1.trans z_IntNetwork)
  obtain ⟨s, ts, hs, s1, s2, s3⟩ := open_tensors (h2 (Y.tSlaws_Tensor, 0, 1) (by simp))
  simp at hs
  exact ⟨s, ts, by rw [hs], s1, s2, s3⟩
theorem z_intnet {H : AH} {s : Sl} {ts : List Tn} (h : T3 H s ts) (hn : ts.length ≤ maxLen) (hm : ∀ t ∈ ts, TnMax t) {left : Int} (h0 : 0 ≤ left) (h1 : left ≤ 1048576) :
    ∃ v, R (.fn F.wszIntNetwork) [.agg [.sl s], isc left] H = some ⟨1, [isc v], H⟩ ∧ (v < 0 ∨ (0 ≤ v ∧ v ≤ 1048576 ∧ ts.length ≤ 1048576 ∧ ∀ t ∈ ts, TnSmall t)) := by
  rw [R_eq, e_wszIntNetwork]
  obtain ⟨v1, e1, g1 | ⟨g1, k1, m1, m2⟩⟩ := z_tensors h hn hm h0 h1
  · exact ⟨-1, by rw [e1]; simp only [Option.bind_some, one_int, decide_eq_true g1, cond_true], .inl (by omega)⟩
  · exact ⟨v1, by rw [e1]; simp only [Option.bind_some, one_int, decide_eq_false (Int.not_lt.2 g1), cond_false], .inr ⟨g1, k1, m1, m2⟩⟩
theorem w_toIntnet {H : AH} {s : Sl} {ts : List Tn} (h : T3 H s ts) (hl : ts.length ≤ 1048576) (hs : ∀ t ∈ ts, TnSmall t) :
    ∃ s' H', R (.fn F.wtoIntNetwork) [.agg [.sl s]] H = some ⟨1, [.agg [.sl s']], H'⟩ ∧ Go.Abs.Le H H' ∧ T3 H' s' ts ∧ WT H.length H'.length H' s' ts := by
  obtain ⟨s', H1, e1, l1, t1, w1⟩ := w_toTensorS h hl hs
  refine ⟨s', H1, ?_, l1, t1, w1⟩
  rw [R_eq, e_wtoIntNetwork, e1]
  simp only [Option.bind_some, one_sl]
theorem intnet_eq {H : AH} {s s' : Sl} {ts : List Tn} (h : T3 H s ts) (k : T3 H s' ts) (hl : ts.length ≤ 1048576) (hs : ∀ t ∈ ts, TnSmall t) : R (.fn F.weqIntNetwork) [.agg [.sl s], .agg [.sl s']] H = some ⟨1, [bsc true], H⟩ := by
  rw [R_eq, e_weqIntNetwork, c75_eq h k hl hs]
  rfl
theorem cert_eq {H : AH} {p q p' q' : Sl} {ps rs : List Int} (h1 : IS H p ps) (h2 : IS H q rs) (k1 : IS H p' ps) (k2 : IS H q' rs) (m1 : ps.length ≤ 1048576) (m2 : rs.length ≤ 1048576) : R (.fn F.weqCertificate) [.agg [.sl p, .sl q], .agg [.sl p', .sl q']] H = some ⟨1, [bsc true], H⟩ := by
  rw [R_eq, e_weqCertificate, c52_eq h1 k1 m1]
  simp only [Option.bind_some, one_bool, Bool.not_true, cond_false]
  rw [c52_eq h2 k2 m2]
  rfl
end Go.Abs
/- Certificates: how one is made (both). -/
namespace Go.Abs
set_option linter.all false
set_option maxRecDepth 20000

abbrev nil2 : PV := .agg [.sl ⟨0, 0, 0, 0, true⟩, .sl ⟨0, 0, 0, 0, true⟩]
abbrev ctv (a b : Sl) : PV := .agg [.sl a, .sl b]
/-- One prime more; where the product exceeds twice the bound, no more. -/
def mkL (ts : List Tn) : List Int → Int → List Int → List Int → Option (List Int × List Int)
  | q :: qs, pr, ps, rs => match resV q ts with
    | none => none
    | some r => if pr * q ≤ 2 * boundN ts then mkL ts qs (pr * q) (ps ++ [q]) (rs ++ [r]) else some (ps ++ [q], rs ++ [r])
  | [], _, _, _ => none
def mkV (ts : List Tn) : Option (List Int × List Int) := mkL ts [1000003, 999983, 999979] 1 [] []
structure CL (Hb : AH) (ts : List Tn) (L : Int → Int → Sl → Sl → AH → Option Out) : Prop where
  skip : ∀ pr p a b H, Go.Abs.Le Hb H → primeB p = false → 0 ≤ p → p ≤ 1000003 → (a.n = 0 ∨ pr ≤ 2 * boundN ts) → L pr p a b H = L pr (p - 1) a b H
  done : ∀ pr p a b H, Go.Abs.Le Hb H → a.n ≠ 0 → 2 * boundN ts < pr → L pr p a b H = some ⟨2, [nil2, ctv a b], H⟩
  fail : ∀ pr p a b H, Go.Abs.Le Hb H → primeB p = true → (a.n = 0 ∨ pr ≤ 2 * boundN ts) → resV p ts = none → ∃ H', L pr p a b H = some ⟨1, [bsc false, nil2, ctv a b], H'⟩ ∧ Go.Abs.Le Hb H'
  next : ∀ pr p a b H l m r, Fr Hb H [(a, l), (b, m)] → primeB p = true → (a.n = 0 ∨ pr ≤ 2 * boundN ts) → resV p ts = some r → l.length ≤ 3 → m.length ≤ 3 → 0 ≤ pr → pr ≤ 1000006000009 →
    ∃ a' b' H', L pr p a b H = L (pr * p) (p - 1) a' b' H' ∧ Fr Hb H' [(a', l ++ [p]), (b', m ++ [r])]
theorem CL.skips {Hb : AH} {ts : List Tn} {L : Int → Int → Sl → Sl → AH → Option Out} (h : CL Hb ts L) {pr : Int} {a b : Sl} {H : AH} (hl : Go.Abs.Le Hb H) (hc : a.n = 0 ∨ pr ≤ 2 * boundN ts) :
    ∀ (k : Nat) (p : Int), (k : Int) ≤ p → p ≤ 1000003 → (∀ j : Nat, j < k → primeB (p - j) = false) → L pr p a b H = L pr (p - k) a b H
  | 0, p, _, _, _ => by simp
  | k + 1, p, h0, h1, hp => by
    have := hp 0 (by omega)
    rw [Int.natCast_zero, Int.sub_zero] at this
    rw [h.skip _ _ _ _ _ hl this (by omega) h1 hc, h.skips hl hc k (p - 1) (by omega) (by omega) (fun j hj => by
      have := hp (j + 1) (by omega)
      rw [show p - 1 - (j : Int) = p - ((j + 1 : Nat) : Int) by omega]; exact this)]
    congr 1
    omega
theorem pr1 : primeB 1000003 = true := by kernel_rfl
theorem pr2 : primeB 999983 = true := by kernel_rfl
theorem pr3 : primeB 999979 = true := by kernel_rfl
theorem np1 : ((List.range 19).all fun j => primeB (1000002 - (j : Int)) == false) = true := by kernel_rfl
theorem np2 : ((List.range 3).all fun j => primeB (999982 - (j : Int)) == false) = true := by kernel_rfl
theorem all_rng {n : Nat} {f : Nat → Bool} (h : ((List.range n).all fun j => f j == false) = true) : ∀ j, j < n → f j = false := fun j hj => by
  have := List.all_eq_true.1 h j (List.mem_range.2 hj)
  simpa using this
/-- How a certificate is made, whoever makes it. -/
theorem CL.run {Hb : AH} {ts : List Tn} {L : Int → Int → Sl → Sl → AH → Option Out} (h : CL Hb ts L) (hb : 0 ≤ boundN ts ∧ boundN ts ≤ 100000000000000) :
    (mkV ts = none → ∃ a b H', L 1 1000003 ⟨0, 0, 0, 0, true⟩ ⟨0, 0, 0, 0, true⟩ Hb = some ⟨1, [bsc false, nil2, ctv a b], H'⟩ ∧ Go.Abs.Le Hb H') ∧
    (∀ v, mkV ts = some v → ∃ a b H', L 1 1000003 ⟨0, 0, 0, 0, true⟩ ⟨0, 0, 0, 0, true⟩ Hb = some ⟨2, [nil2, ctv a b], H'⟩ ∧ Fr Hb H' [(a, v.1), (b, v.2)] ∧ v.1.length ≤ 3 ∧ v.2.length ≤ 3) := by
  have F0 : Fr Hb Hb [((⟨0, 0, 0, 0, true⟩ : Sl), ([] : List Int)), (⟨0, 0, 0, 0, true⟩, [])] := ((Fr.start Hb).empty 0).empty 0
  unfold mkV
  simp only [mkL]
  cases h1 : resV 1000003 ts with
  | none =>
    refine ⟨fun _ => ?_, fun v hv => by cases hv⟩
    obtain ⟨H', e, l⟩ := h.fail 1 1000003 ⟨0, 0, 0, 0, true⟩ ⟨0, 0, 0, 0, true⟩ Hb (Go.Abs.Le.refl _) pr1 (.inl rfl) h1
    exact ⟨_, _, H', e, l⟩
  | some r1 =>
    obtain ⟨a1, b1, H1, e1, F1⟩ := h.next 1 1000003 _ _ _ _ _ r1 F0 pr1 (.inl rfl) h1 (by simp) (by simp) (by omega) (by omega)
    simp only [Int.one_mul, List.nil_append] at e1 F1 ⊢
    have n1 : a1.n ≠ 0 := by rw [(F1.is (s := a1) (l := [1000003]) (by simp)).n]; simp
    rw [e1]
    by_cases c1 : (1000003 : Int) ≤ 2 * boundN ts
    · simp only [if_pos c1]
      have s1 := h.skips (pr := 1000003) (a := a1) (b := b1) F1.le (.inr c1) 19 1000002 (by omega) (by omega) (all_rng np1)
      have s1 : L 1000003 (1000003 - 1) a1 b1 H1 = L 1000003 999983 a1 b1 H1 := s1
      rw [s1]
      cases h2 : resV 999983 ts with
      | none =>
        refine ⟨fun _ => ?_, fun v hv => by cases hv⟩
        obtain ⟨H', e, l⟩ := h.fail 1000003 999983 a1 b1 H1 F1.le pr2 (.inr c1) h2
        exact ⟨_, _, H', e, l⟩
      | some r2 =>
        obtain ⟨a2, b2, H2, e2, F2⟩ := h.next 1000003 999983 _ _ _ _ _ r2 F1 pr2 (.inr c1) h2 (by simp) (by simp) (by omega) (by omega)
        have n2 : a2.n ≠ 0 := by rw [(F2.is (s := a2) (l := [1000003] ++ [999983]) (by simp)).n]; simp
        rw [e2]
        by_cases c2 : (1000003 : Int) * 999983 ≤ 2 * boundN ts
        · simp only [if_pos c2]
          have s2 := h.skips (pr := 1000003 * 999983) (a := a2) (b := b2) F2.le (.inr c2) 3 999982 (by omega) (by omega) (all_rng np2)
          have s2 : L (1000003 * 999983) (999983 - 1) a2 b2 H2 = L (1000003 * 999983) 999979 a2 b2 H2 := s2
          rw [s2]
          cases h3 : resV 999979 ts with
          | none =>
            refine ⟨fun _ => ?_, fun v hv => by cases hv⟩
            obtain ⟨H', e, l⟩ := h.fail (1000003 * 999983) 999979 a2 b2 H2 F2.le pr3 (.inr c2) h3
            exact ⟨_, _, H', e, l⟩
          | some r3 =>
            obtain ⟨a3, b3, H3, e3, F3⟩ := h.next (1000003 * 999983) 999979 _ _ _ _ _ r3 F2 pr3 (.inr c2) h3 (by simp) (by simp) (by omega) (by omega)
            have n3 : a3.n ≠ 0 := by rw [(F3.is (s := a3) (l := [1000003] ++ [999983] ++ [999979]) (by simp)).n]; simp
            rw [e3]
            simp only [if_neg (show ¬ (1000003 : Int) * 999983 * 999979 ≤ 2 * boundN ts by omega)]
            refine ⟨fun h => (by cases h), fun v hv => ?_⟩
            cases hv
            exact ⟨_, _, _, h.done _ _ _ _ _ F3.le n3 (by omega), F3, by simp, by simp⟩
        · simp only [if_neg c2]
          refine ⟨fun h => (by cases h), fun v hv => ?_⟩
          cases hv
          exact ⟨_, _, _, h.done _ _ _ _ _ F2.le n2 (by omega), F2, by simp, by simp⟩
    · simp only [if_neg c1]
      refine ⟨fun h => (by cases h), fun v hv => ?_⟩
      cases hv
      exact ⟨_, _, _, h.done _ _ _ _ _ F1.le n1 (by omega), F1, by simp, by simp⟩
--theorem t_cert2 {α : Type} (a b : Sl) (p q : PV) (K : Sl → Sl → Option α) (J : Option α) : (((nthP [p, ctv a b] 1).bind PV.agg?).bind fun l40 => cond (decide (l40.length = 2)) ((slAt l40 0).bind fun s41 => (slAt l40 1).bind fun s42 => K s41 s42) J) = K a b := rfl
/-- impl.MakeCertificate's loop -/
theorem cl_i {Hb : AH} {s : Sl} {ts : List Tn} (h : T3 Hb s ts) (hi : intB ts = true) :
    CL Hb ts fun pr p a b H => R (.loop F.iMakeCertificate 0) [isc (boundN ts), isc pr, isc p, .agg [.sl s], nil2, ctv a b] H := by
  have hb := bound_rng hi
  have hw2 : IntKind.wrap .i64 (2 * boundN ts) = 2 * boundN ts := by rw [wrap_id] <;> omega
  have go : ∀ {pr : Int} {a : Sl} {H : AH}, (a.n = 0 ∨ pr ≤ 2 * boundN ts) → ((cond ((a.n : Int) == 0) (some ⟨0, [], H⟩) (cond (decide (pr ≤ (IntKind.wrap .i64 (2 * boundN ts)))) (some ⟨0, [], H⟩) (some ⟨2, [], H⟩))) : Option Out) = some ⟨0, [], H⟩ := by
    intro pr a H hc
    rw [hw2]
    rcases hc with hc | hc
    · rw [hc]; rfl
    · rw [decide_eq_true hc]; cases ((a.n : Int) == 0) <;> rfl
  refine ⟨fun pr p a b H hl hp h0 h1 hc => ?_, fun pr p a b H hl hn hc => ?_, fun pr p a b H hl hp hc hr => ?_, fun pr p a b H l m r hF hp hc hr hl hm h0 h1 => ?_⟩
  · show R _ _ _ = R _ _ _
    have hw : IntKind.wrap .i64 (p - 1) = p - 1 := by rw [wrap_id] <;> omega
    rw [R_eq, e_iMakeCertificate_0, go hc]
    simp only [Option.bind_some, Nat.beq, cond_true]
    rw [c_iIsPrime, hp]
    simp only [Option.bind_some, one_bool, Bool.not_false, cond_true]
    rw [hw]
  · show R _ _ _ = _
    rw [R_eq, e_iMakeCertificate_0, hw2, decide_eq_false (show ¬ pr ≤ 2 * boundN ts by omega)]
    have : ((a.n : Int) == 0) = false := by simp only [beq_eq_false_iff_ne, ne_eq]; omega
    rw [this]
    rfl
  · obtain ⟨H1, e1, l1⟩ := c_iresidueOf (h.le hl) hi hp
    rw [hr] at e1
    refine ⟨H1, ?_, hl.trans l1⟩
    show R _ _ _ = _
    rw [R_eq, e_iMakeCertificate_0, go hc]
    simp only [Option.bind_some, Nat.beq, cond_true]
    rw [c_iIsPrime, hp]
    simp only [Option.bind_some, one_bool, Bool.not_true, cond_false]
    rw [e1]
    rfl
  · have hpa := prime_at hp
    obtain ⟨H1, e1, l1⟩ := c_iresidueOf (h.le hF.le) hi hp
    rw [hr] at e1
    obtain ⟨a', H2, e2, F2⟩ := Fr.push [] (hF.ext l1) (by omega) p
    obtain ⟨b', H3, e3, F3⟩ := Fr.push [(a', l ++ [p])] F2 (by omega) r
    refine ⟨a', b', H3, ?_, F3⟩
    show R _ _ _ = R _ _ _
    have hw : IntKind.wrap .i64 (p - 1) = p - 1 := by rw [wrap_id] <;> omega
    have hm1 : 0 ≤ pr * p := Int.mul_nonneg h0 (by omega)
    have hm2 : pr * p ≤ 1000006000009 * 1000003 := Int.mul_le_mul h1 hpa.2 (by omega) (by omega)
    have hwm : IntKind.wrap .i64 (pr * p) = pr * p := by rw [wrap_id] <;> omega
    rw [R_eq, e_iMakeCertificate_0, go hc]
    simp only [Option.bind_some, Nat.beq, cond_true]
    rw [c_iIsPrime, hp]
    simp only [Option.bind_some, one_bool, Bool.not_true, cond_false]
    rw [e1]
    simp only [Option.bind_some]
    rw [n_ib]
    simp only [Option.isSome_some, Bool.not_true, cond_false, Option.getD_some]
    rw [e2, e3, hw, hwm]
/-- spec.MakeCertificate's loop -/
theorem cl_s {Hb : AH} {s : Sl} {ts : List Tn} (h : T3 Hb s ts) (hi : intB ts = true) :
    CL Hb ts fun pr p a b H => R (.loop F.sMakeCertificate 0) [isc pr, isc p, .agg [.sl s], nil2, ctv a b] H := by
  have hb := bound_rng hi
  obtain ⟨i1, i2, i3⟩ := intB_at hi
  have hw2 : IntKind.wrap .i64 (2 * boundN ts) = 2 * boundN ts := by rw [wrap_id] <;> omega
  have go : ∀ {pr : Int} {a : Sl} {H : AH}, Go.Abs.Le Hb H → (a.n = 0 ∨ pr ≤ 2 * boundN ts) → ((cond ((a.n : Int) == 0) (some ⟨0, [], H⟩) ((R (.fn F.sl42Bound) [.sc (.sl s)] H).bind fun r5 => (oneP r5.vs).bind fun p6 => p6.sc?.bind fun c7 => (intAt .i64 [c7] 0).bind fun n8 => cond (decide (pr ≤ (IntKind.wrap .i64 (2 * n8)))) (some ⟨0, [], r5.H⟩) (some ⟨2, [], r5.H⟩))) : Option Out) = some ⟨0, [], H⟩ := by
    intro pr a H hl hc
    rw [c_sl42Bound (h.le hl) (by omega) i2]
    simp only [Option.bind_some, one_int]
    rw [hw2]
    rcases hc with hc | hc
    · rw [hc]; rfl
    · rw [decide_eq_true hc]; cases ((a.n : Int) == 0) <;> rfl
  refine ⟨fun pr p a b H hl hp h0 h1 hc => ?_, fun pr p a b H hl hn hc => ?_, fun pr p a b H hl hp hc hr => ?_, fun pr p a b H l m r hF hp hc hr hl hm h0 h1 => ?_⟩
  · show R _ _ _ = R _ _ _
    have hw : IntKind.wrap .i64 (p - 1) = p - 1 := by rw [wrap_id] <;> omega
    rw [R_eq, e_sMakeCertificate_0, go hl hc]
    simp only [Option.bind_some, Nat.beq, cond_true]
    rw [c_sIsPrime, hp]
    simp only [Option.bind_some, one_bool, Bool.not_false, cond_true]
    rw [hw]
  · show R _ _ _ = _
    rw [R_eq, e_sMakeCertificate_0, c_sl42Bound (h.le hl) (by omega) i2]
    simp only [Option.bind_some, one_int]
    rw [hw2, decide_eq_false (show ¬ pr ≤ 2 * boundN ts by omega)]
    have : ((a.n : Int) == 0) = false := by simp only [beq_eq_false_iff_ne, ne_eq]; omega
    rw [this]
    rfl
  · obtain ⟨H1, e1, l1⟩ := c_sl42Residue (h.le hl) hi hp
    rw [hr] at e1
    refine ⟨H1, ?_, hl.trans l1⟩
    show R _ _ _ = _
    rw [R_eq, e_sMakeCertificate_0, go hl hc]
    simp only [Option.bind_some, Nat.beq, cond_true]
    rw [c_sIsPrime, hp]
    simp only [Option.bind_some, one_bool, Bool.not_true, cond_false]
    rw [e1]
    rfl
  · have hpa := prime_at hp
    obtain ⟨H1, e1, l1⟩ := c_sl42Residue (h.le hF.le) hi hp
    rw [hr] at e1
    obtain ⟨a', H2, e2, F2⟩ := Fr.push [] (hF.ext l1) (by omega) p
    obtain ⟨b', H3, e3, F3⟩ := Fr.push [(a', l ++ [p])] F2 (by omega) r
    refine ⟨a', b', H3, ?_, F3⟩
    show R _ _ _ = R _ _ _
    have hw : IntKind.wrap .i64 (p - 1) = p - 1 := by rw [wrap_id] <;> omega
    have hm1 : 0 ≤ pr * p := Int.mul_nonneg h0 (by omega)
    have hm2 : pr * p ≤ 1000006000009 * 1000003 := Int.mul_le_mul h1 hpa.2 (by omega) (by omega)
    have hwm : IntKind.wrap .i64 (pr * p) = pr * p := by rw [wrap_id] <;> omega
    rw [R_eq, e_sMakeCertificate_0, go hF.le hc]
    simp only [Option.bind_some, Nat.beq, cond_true]
    rw [c_sIsPrime, hp]
    simp only [Option.bind_some, one_bool, Bool.not_true, cond_false]
    rw [e1]
    simp only [Option.bind_some]
    rw [n_ib]
    simp only [Option.isSome_some, Bool.not_true, cond_false, Option.getD_some]
    rw [e2, e3, hw, hwm]
/-- What a certificate that is made holds. -/
def mkP (ts : List Tn) : List Int := if intB ts then ((mkV ts).getD ([], [])).1 else []
def mkR (ts : List Tn) : List Int := if intB ts then ((mkV ts).getD ([], [])).2 else []
def mkB' (ts : List Tn) : Bool := intB ts && (mkV ts).isSome
theorem Fr.nil2 {H H' : AH} (h : Go.Abs.Le H H') : Fr H H' [((⟨0, 0, 0, 0, true⟩ : Sl), ([] : List Int)), (⟨0, 0, 0, 0, true⟩, [])] := ((Fr.of h).empty 0).empty 0
/-- impl.MakeCertificate -/
theorem c_iMakeCertificate {H : AH} {s : Sl} {ts : List Tn} (h : T3 H s ts) : ∃ a b H', R (.fn F.iMakeCertificate) [.agg [.sl s]] H = some ⟨1, [ctv a b, bsc (mkB' ts)], H'⟩ ∧ Fr H H' [(a, mkP ts), (b, mkR ts)] ∧ (mkP ts).length ≤ 3 ∧ (mkR ts).length ≤ 3 := by
  have e1 := c_iIntOk h
  unfold mkP mkR mkB'
  cases hi : intB ts with
  | false =>
    rw [hi] at e1
    exact ⟨_, _, H, by rw [R_eq, e_iMakeCertificate, e1]; rfl, Fr.nil2 (Go.Abs.Le.refl _), by simp, by simp⟩
  | true =>
    rw [hi] at e1
    obtain ⟨k1, k2⟩ := (cl_i h hi).run (bound_rng hi)
    simp only [if_true, Bool.true_and]
    cases hv : mkV ts with
    | none =>
      obtain ⟨a, b, H', e, l⟩ := k1 hv
      refine ⟨_, _, H', ?_, Fr.nil2 l, by simp, by simp⟩
      rw [R_eq, e_iMakeCertificate, e1]
      simp only [Option.bind_some, one_bool, Bool.not_true, cond_false]
      rw [c_iIntBound h hi]
      simp only [Option.bind_some, one_int]
      rw [e]
      rfl
    | some v =>
      obtain ⟨a, b, H', e, l, m1, m2⟩ := k2 v hv
      refine ⟨a, b, H', ?_, l, m1, m2⟩
      rw [R_eq, e_iMakeCertificate, e1]
      simp only [Option.bind_some, one_bool, Bool.not_true, cond_false]
      rw [c_iIntBound h hi]
      simp only [Option.bind_some, one_int]
      rw [e]
      rfl
/-- spec.MakeCertificate -/
theorem c_sMakeCertificate {H : AH} {s : Sl} {ts : List Tn} (h : T3 H s ts) : ∃ a b H', R (.fn F.sMakeCertificate) [.agg [.sl s]] H = some ⟨1, [ctv a b, bsc (mkB' ts)], H'⟩ ∧ Fr H H' [(a, mkP ts), (b, mkR ts)] := by
  have e1 := c_sIntOk h
  unfold mkP mkR mkB'
  cases hi : intB ts with
  | false =>
    rw [hi] at e1
    exact ⟨_, _, H, by rw [R_eq, e_sMakeCertificate, e1]; rfl, Fr.nil2 (Go.Abs.Le.refl _)⟩
  | true =>
    rw [hi] at e1
    obtain ⟨k1, k2⟩ := (cl_s h hi).run (bound_rng hi)
    simp only [if_true, Bool.true_and]
    cases hv : mkV ts with
    | none =>
      obtain ⟨a, b, H', e, l⟩ := k1 hv
      refine ⟨_, _, H', ?_, Fr.nil2 l⟩
      rw [R_eq, e_sMakeCertificate, e1]
      simp only [Option.bind_some, one_bool, Bool.not_true, cond_false]
      rw [e]
      rfl
    | some v =>
      obtain ⟨a, b, H', e, l, m1, m2⟩ := k2 v hv
      refine ⟨a, b, H', ?_, l⟩
      rw [R_eq, e_sMakeCertificate, e1]
      simp only [Option.bind_some, one_bool, Bool.not_true, cond_false]
      rw [e]
      rfl
end Go.Abs
/- The law FnExactMakeCertificate: its contract in plain Lean. -/
namespace Go.Abs
set_option linter.all false
set_option maxRecDepth 10000

/-- laws.markCertificate -/
theorem p_cert {n0 : Nat} {H : AH} {a b : Sl} {l m : List Int} (h : Own n0 H a l) (k : Own n0 H b m) (ne : l ≠ [] → m ≠ [] → a.b ≠ b.b) (hl : l.length ≤ 1048576) (hm : m.length ≤ 1048576) :
    ∃ H', R (.fn F.wmarkCertificate) [ctv a b, isc 1] H = some ⟨1, [isc (1 + (l.length : Int) + m.length)], H'⟩ ∧ H'.length = H.length ∧ (∀ b, b < n0 → H'[b]? = H[b]?) ∧ IS H' a (seqL 1 l.length) ∧ IS H' b (seqL (1 + (l.length : Int)) m.length) := by
  obtain ⟨H1, e1, l1, f1, o1⟩ := c_wmarkIntS h (by omega) (k := 1) (by omega) (by omega)
  have k1 : Own n0 H1 b m := k.mono fun hm => f1 _ (by
    by_cases hn : l = []
    · exact .inr hn
    · exact .inl (Ne.symm (ne hn hm)))
  obtain ⟨H2, e2, l2, f2, o2⟩ := c_wmarkIntS k1 (by omega) (k := 1 + (l.length : Int)) (by omega) (by omega)
  have o1' : Own n0 H2 a (seqL 1 l.length) := o1.mono fun hn => f2 _ (by
    by_cases hm : m = []
    · exact .inr hm
    · refine .inl (ne (fun e => hn ?_) hm)
      rw [e]; rfl)
  refine ⟨H2, ?_, by omega, fun c hc => ?_, o1'.is, o2.is⟩
  · rw [R_eq, e_wmarkCertificate, e1]
    simp only [Option.bind_some, one_int]
    rw [e2]
    simp only [Option.bind_some, one_int]
  · rw [f2 c ?_, f1 c ?_]
    · rcases h.lo with e | e
      · exact .inr e
      · exact .inl (by omega)
    · rcases k1.lo with e | e
      · exact .inr e
      · exact .inl (by omega)
/-- laws.heldCertificate, where the marks are held -/
theorem p_heldC {H : AH} {a b : Sl} {n m : Nat} (h : IS H a (seqL 1 n)) (k : IS H b (seqL (1 + (n : Int)) m)) (hn : n ≤ 1048576) (hm : m ≤ 1048576) :
    R (.fn F.wheldCertificate) [ctv a b, isc 1] H = some ⟨1, [isc (1 + (n : Int) + m)], H⟩ := by
  rw [R_eq, e_wheldCertificate, c_wheldIntS h (by omega) (by omega) (by omega)]
  simp only [Option.bind_some, one_int, decide_eq_false (show ¬ 1 + (n : Int) < 0 by omega), cond_false]
  rw [c_wheldIntS k (by omega) (by omega) (by omega)]
  simp only [Option.bind_some, one_int, decide_eq_false (show ¬ 1 + (n : Int) + (m : Int) < 0 by omega), cond_false]
/-- laws.markIntNetwork -/
theorem m_intnet {n0 n1 : Nat} {H : AH} {s : Sl} {ts : List Tn} (h : WT n0 n1 H s ts) (hl : ts.length ≤ 1048576) (hs : ∀ t ∈ ts, TnSmall t) :
    ∃ k' H', R (.fn F.wmarkIntNetwork) [.agg [.sl s], isc 1] H = some ⟨1, [isc k'], H'⟩ ∧ ShE n0 n1 H H' ∧ 0 ≤ k' := by
  obtain ⟨k', H', e, E, h0, _⟩ := m_tensors h hl hs
  refine ⟨k', H', ?_, E, h0⟩
  rw [R_eq, e_wmarkIntNetwork, e]
  simp only [Option.bind_some, one_int]
theorem calc_MakeCertificate {v0 k1 m : Int} {b : Bool} {s s1 s2 s3 s4 a0 b0 a1 b1 a2 b2 : Sl} {H0 H1 H2 H3 H4 H5 H6 H7 H8 H9 : AH}
    (d0 : decide (v0 < 0) = false) (d1 : decide (k1 < 0) = false) (dm : decide (m < 0) = false)
    (z0 : R (.fn F.wszIntNetwork) [.agg [.sl s], isc 1048576] H0 = some ⟨1, [isc v0], H0⟩)
    (e1 : R (.fn F.wtoIntNetwork) [.agg [.sl s]] H0 = some ⟨1, [.agg [.sl s1]], H1⟩)
    (e2 : R (.fn F.sMakeCertificate) [.agg [.sl s1]] H1 = some ⟨1, [ctv a0 b0, bsc b], H2⟩)
    (e3 : R (.fn F.wtoIntNetwork) [.agg [.sl s]] H2 = some ⟨1, [.agg [.sl s2]], H3⟩)
    (e4 : R (.fn F.iMakeCertificate) [.agg [.sl s2]] H3 = some ⟨1, [ctv a1 b1, bsc b], H4⟩)
    (q1 : R (.fn F.weqCertificate) [ctv a1 b1, ctv a0 b0] H4 = some ⟨1, [bsc true], H4⟩)
    (e5 : R (.fn F.wtoIntNetwork) [.agg [.sl s]] H4 = some ⟨1, [.agg [.sl s3]], H5⟩)
    (q2 : R (.fn F.weqIntNetwork) [.agg [.sl s2], .agg [.sl s3]] H5 = some ⟨1, [bsc true], H5⟩)
    (m1 : R (.fn F.wmarkIntNetwork) [.agg [.sl s2], isc 1] H5 = some ⟨1, [isc k1], H6⟩)
    (q3 : R (.fn F.weqCertificate) [ctv a1 b1, ctv a0 b0] H6 = some ⟨1, [bsc true], H6⟩)
    (m2 : R (.fn F.wmarkCertificate) [ctv a1 b1, isc 1] H6 = some ⟨1, [isc m], H7⟩)
    (h1 : R (.fn F.wheldCertificate) [ctv a1 b1, isc 1] H7 = some ⟨1, [isc m], H7⟩)
    (e8 : R (.fn F.wtoIntNetwork) [.agg [.sl s]] H7 = some ⟨1, [.agg [.sl s4]], H8⟩)
    (e9 : R (.fn F.iMakeCertificate) [.agg [.sl s4]] H8 = some ⟨1, [ctv a2 b2, bsc b], H9⟩)
    (q4 : R (.fn F.weqCertificate) [ctv a2 b2, ctv a0 b0] H9 = some ⟨1, [bsc true], H9⟩)
    (h2 : R (.fn F.wheldCertificate) [ctv a1 b1, isc 1] H9 = some ⟨1, [isc m], H9⟩) :
    R (.fn F.wFnExactMakeCertificate) [.agg [.sl s]] H0 = some ⟨1, [bsc true], H9⟩ := by
  rw [R_eq, e_wFnExactMakeCertificate, z0]
  simp only [Option.bind_some, one_int, d0, cond_false]
  rw [e1]
  simp only [Option.bind_some, o_s1]
  rw [e2]
  simp only [Option.bind_some, t_ss_b]
  rw [e3]
  simp only [Option.bind_some, o_s1]
  rw [e4]
  simp only [Option.bind_some, t_ss_b]
  rw [q1]
  simp only [Option.bind_some, one_bool, Bool.not_true, cond_false, ne_b]
  rw [e5]
  simp only [Option.bind_some, o_s1]
  rw [q2]
  simp only [Option.bind_some, one_bool, Bool.not_true, cond_false]
  rw [m1]
  simp only [Option.bind_some, one_int, d1, cond_false]
  rw [q3]
  simp only [Option.bind_some, one_bool, Bool.not_true, cond_false, ne_b]
  rw [m2]
  simp only [Option.bind_some, one_int]
  rw [h1]
  simp only [Option.bind_some, one_int, dm, cond_false, ne_i]
  rw [e8]
  simp only [Option.bind_some, o_s1]
  rw [e9]
  simp only [Option.bind_some, t_ss_b]
  rw [q4]
  simp only [Option.bind_some, one_bool, Bool.not_true, cond_false, ne_b]
  rw [h2]
  simp only [Option.bind_some, one_int, dm, cond_false, ne_i]
theorem law_MakeCertificate : LawPure P R F.wFnExactMakeCertificate [Y.tlaws_IntNetwork] := by
  intro H0 ls hro hA
  obtain ⟨l1, rfl, t1⟩ : ∃ l1, ls = [l1] ∧ typed P 8 H0 Y.tlaws_IntNetwork l1 := by
    cases hA with
    | cons a h => cases h; exact ⟨_, rfl, a⟩
  obtain ⟨s, ts, rfl, h, hn, hm⟩ := open_intnet t1
  show ∃ H', R _ [pvT P Y.tlaws_IntNetwork _] H0 = _
  rw [pvT_struct f_IntNetwork]
  obtain ⟨v0, z0, hneg | ⟨g1, g2, m0, ms⟩⟩ := z_intnet h hn hm (left := 1048576) (by omega) (by omega)
  · refine ⟨H0, ?_⟩
    rw [R_eq, e_wFnExactMakeCertificate, z0]
    simp only [Option.bind_some, one_int, decide_eq_true hneg, cond_true]
  obtain ⟨s1, H1, e1, l1, n1, _⟩ := w_toIntnet h m0 ms
  obtain ⟨a0, b0, H2, e2, F2⟩ := c_sMakeCertificate n1
  have l02 := l1.trans F2.le
  obtain ⟨s2, H3, e3, l3, n3, w3⟩ := w_toIntnet (h.le l02) m0 ms
  obtain ⟨a1, b1, H4, e4, F4, k1, k2⟩ := c_iMakeCertificate n3
  have i0 : IS H2 a0 (mkP ts) := F2.is (by simp)
  have j0 : IS H2 b0 (mkR ts) := F2.is (by simp)
  have i1 : IS H4 a1 (mkP ts) := F4.is (by simp)
  have j1 : IS H4 b1 (mkR ts) := F4.is (by simp)
  have l24 := l3.trans F4.le
  have q1 := cert_eq i1 j1 (i0.le l24) (j0.le l24) (by omega) (by omega)
  obtain ⟨s3, H5, e5, l5, n5, _⟩ := w_toIntnet (h.le (l02.trans l24)) m0 ms
  have q2 := intnet_eq ((n3.le F4.le).le l5) n5 m0 ms
  have c3 := l3.len
  have l25 := l24.trans l5
  obtain ⟨kk, H6, f1, E1, r1⟩ := m_intnet (w3.ext (F4.le.trans l5) (Nat.le_refl _)) m0 ms
  have l26 := E1.le l25 (Nat.le_refl _)
  have F5 := F4.ext l5
  have ra : Own H3.length H6 a1 (mkP ts) := (F5.own (s := a1) (l := mkP ts) (by simp)).mono fun hn => E1.out _ (.inr (by
    rcases (F5.own (s := a1) (l := mkP ts) (by simp)).lo with e | e
    · exact absurd e hn
    · exact e))
  have rb : Own H3.length H6 b1 (mkR ts) := (F5.own (s := b1) (l := mkR ts) (by simp)).mono fun hn => E1.out _ (.inr (by
    rcases (F5.own (s := b1) (l := mkR ts) (by simp)).lo with e | e
    · exact absurd e hn
    · exact e))
  have q3 := cert_eq ra.is rb.is (i0.le l26) (j0.le l26) (by omega) (by omega)
  obtain ⟨H7, f2, hl7, fr7, i7, j7⟩ := p_cert ra rb (fun ha hb => row_ne (p := (a1, mkP ts)) (q := (b1, mkR ts)) (xs := []) (ys := []) (zs := []) F5.rows rfl ha hb) (by omega) (by omega)
  have l27 : Go.Abs.Le H2 H7 := ⟨by rw [hl7]; exact l26.len, fun b hb => by rw [fr7 b (by omega)]; exact l26.get b hb⟩
  have h1 := p_heldC i7 j7 (by omega) (by omega)
  obtain ⟨s4, H8, e8, l8, n8, _⟩ := w_toIntnet (h.le (l02.trans l27)) m0 ms
  obtain ⟨a2, b2, H9, e9, F9, _⟩ := c_iMakeCertificate n8
  have l79 := l8.trans F9.le
  have l29 := l27.trans l79
  have q4 := cert_eq (F9.is (s := a2) (l := mkP ts) (by simp)) (F9.is (s := b2) (l := mkR ts) (by simp)) (i0.le l29) (j0.le l29) (by omega) (by omega)
  have h2 := p_heldC (i7.le l79) (j7.le l79) (by omega) (by omega)
  exact ⟨H9, calc_MakeCertificate (decide_eq_false (Int.not_lt.2 g1)) (decide_eq_false (Int.not_lt.2 r1)) (decide_eq_false (by omega)) z0 e1 e2 e3 e4 q1 e5 q2 f1 q3 f2 h1 e8 e9 q4 h2⟩
end Go.Abs
