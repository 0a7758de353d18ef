/- Part of the proof of FnExactApplyPauli: that for every input the law answers true and leaves what it reads as it was. Conditions: none beyond the given statement. -/
import Derived.Test.YtabkpkhjpfjpeaaLabP15ToC44
set_option linter.all false
/- The law FnExactApplyPauli. -/
namespace Go.Abs
set_option linter.all false
set_option maxRecDepth 10000

abbrev pupv (x z s : Int) : PV := .agg [.int .i64 x, .int .i64 z, .int .i64 s]
theorem f_Pauli : fieldsOf P Y.tlaws_Pauli = some [(Y.tint, 0, 1), (Y.tint, 1, 1), (Y.tint, 2, 1)] := by kernel_rfl
theorem z_Pauli : tsz P Y.tlaws_Pauli = 3 := by kernel_rfl
theorem open_pauli {H : AH} {n : Nat} {l : List Sc} (h : typed P (n + 2) H Y.tlaws_Pauli l) : ∃ x z s, l = [.int .i64 x, .int .i64 z, .int .i64 s] := by
  obtain ⟨h1, h2⟩ := open_struct f_Pauli h
  obtain ⟨a, b, c, rfl⟩ := len3 (h1.trans z_Pauli)
  obtain ⟨x, hx, _⟩ := open_int u_int (h2 (Y.tint, 0, 1) (by simp))
  obtain ⟨z, hz, _⟩ := open_int u_int (h2 (Y.tint, 1, 1) (by simp))
  obtain ⟨s, hs, _⟩ := open_int u_int (h2 (Y.tint, 2, 1) (by simp))
  simp at hx hz hs
  exact ⟨x, z, s, by rw [hx, hz, hs]⟩
theorem c_wtoPauli {x z s : Int} (H : AH) : R (.fn F.wtoPauli) [pupv x z s] H = some ⟨1, [pupv x z s], H⟩ := by rw [R_eq, e_wtoPauli]
theorem calc_ApplyPauli {p x z s v0 k1 m : Int} {b : Bool} {ta tb tc a1 b1 c1 a2 b2 c2 a3 b3 c3 a4 b4 c4 ra rb rc sa sb sc ua ub uc : Sl} {H0 H1 H2 H3 H4 H5 H6 H7 H8 H9 : AH}
    (d0 : decide (v0 < 0) = false) (d1 : decide (k1 < 0) = false) (dm : decide (m < 0) = false)
    (z0 : R (.fn F.wszTensor) [tpv ta tb tc, isc 1048576] H0 = some ⟨1, [isc v0], H0⟩)
    (e1 : R (.fn F.wtoTensor) [tpv ta tb tc] H0 = some ⟨1, [tpv a1 b1 c1], H1⟩)
    (e2 : R (.fn F.sApplyPauli) [isc p, pupv x z s, tpv a1 b1 c1] H1 = some ⟨1, [tpv ra rb rc, bsc b], H2⟩)
    (e3 : R (.fn F.wtoTensor) [tpv ta tb tc] H2 = some ⟨1, [tpv a2 b2 c2], H3⟩)
    (e4 : R (.fn F.iApplyPauli) [isc p, pupv x z s, tpv a2 b2 c2] H3 = some ⟨1, [tpv sa sb sc, bsc b], H4⟩)
    (q1 : R (.fn F.weqTensor) [tpv sa sb sc, tpv ra rb rc] H4 = some ⟨1, [bsc true], H4⟩)
    (e5 : R (.fn F.wtoTensor) [tpv ta tb tc] H4 = some ⟨1, [tpv a3 b3 c3], H5⟩)
    (q2 : R (.fn F.weqTensor) [tpv a2 b2 c2, tpv a3 b3 c3] H5 = some ⟨1, [bsc true], H5⟩)
    (m1 : R (.fn F.wmarkTensor) [tpv a2 b2 c2, isc 1] H5 = some ⟨1, [isc k1], H6⟩)
    (q3 : R (.fn F.weqTensor) [tpv sa sb sc, tpv ra rb rc] H6 = some ⟨1, [bsc true], H6⟩)
    (m2 : R (.fn F.wmarkTensor) [tpv sa sb sc, isc 1] H6 = some ⟨1, [isc m], H7⟩)
    (h1 : R (.fn F.wheldTensor) [tpv sa sb sc, isc 1] H7 = some ⟨1, [isc m], H7⟩)
    (e8 : R (.fn F.wtoTensor) [tpv ta tb tc] H7 = some ⟨1, [tpv a4 b4 c4], H8⟩)
    (e9 : R (.fn F.iApplyPauli) [isc p, pupv x z s, tpv a4 b4 c4] H8 = some ⟨1, [tpv ua ub uc, bsc b], H9⟩)
    (q4 : R (.fn F.weqTensor) [tpv ua ub uc, tpv ra rb rc] H9 = some ⟨1, [bsc true], H9⟩)
    (h2 : R (.fn F.wheldTensor) [tpv sa sb sc, isc 1] H9 = some ⟨1, [isc m], H9⟩) :
    R (.fn F.wFnExactApplyPauli) [isc p, pupv x z s, tpv ta tb tc] H0 = some ⟨1, [bsc true], H9⟩ := by
  rw [R_eq, e_wFnExactApplyPauli, z0]
  simp only [Option.bind_some, one_int, d0, cond_false]
  rw [c_wtoPauli]
  simp only [Option.bind_some, o_iii]
  rw [e1]
  simp only [Option.bind_some, o_sss]
  rw [e2]
  simp only [Option.bind_some, t_sss_b]
  rw [e3]
  simp only [Option.bind_some, o_sss]
  rw [c_wtoPauli]
  simp only [Option.bind_some, o_iii]
  rw [e4]
  simp only [Option.bind_some, t_sss_b]
  rw [q1]
  simp only [Option.bind_some, one_bool, Bool.not_true, cond_false, ne_b]
  rw [e5]
  simp only [Option.bind_some, o_sss]
  rw [q2]
  simp only [Option.bind_some, one_bool, Bool.not_true, cond_false]
  rw [m1]
  simp only [Option.bind_some, one_int, d1, cond_false]
  rw [q3]
  simp only [Option.bind_some, one_bool, Bool.not_true, cond_false, ne_b]
  rw [m2]
  simp only [Option.bind_some, one_int]
  rw [h1]
  simp only [Option.bind_some, one_int, dm, cond_false, ne_i]
  rw [c_wtoPauli]
  simp only [Option.bind_some, o_iii]
  rw [e8]
  simp only [Option.bind_some, o_sss]
  rw [e9]
  simp only [Option.bind_some, t_sss_b]
  rw [q4]
  simp only [Option.bind_some, one_bool, Bool.not_true, cond_false, ne_b]
  rw [h2]
  simp only [Option.bind_some, one_int, dm, cond_false, ne_i]
theorem Fr.ts {H0 H : AH} {a b c : Sl} {t : Tn} (h : Fr H0 H (rows3 a b c t)) : TS H a b c t := ⟨h.is (s := a) (l := t.L) (by simp [rows3]), h.is (s := b) (l := t.D) (by simp [rows3]), h.is (s := c) (l := t.X) (by simp [rows3])⟩
theorem pau_small {p x z s : Int} {t : Tn} : TnSmall (pauT p x z s t) := by
  unfold pauT pauB
  cases hs : stateB p t.L.length t with
  | false => exact ⟨by simp, by simp, by simp⟩
  | true =>
    cases hu : pauliB t.L.length x z s with
    | false => exact ⟨by simp, by simp, by simp⟩
    | true =>
      obtain ⟨hT, h1, h5, hL, hD⟩ := state_at hs
      obtain ⟨hp, hp2⟩ := omega_at hT
      have hv := om_vr hp hp2
      generalize hq : t.L.length = q at *
      obtain ⟨L, D, X⟩ := t
      simp only at hL hD hq
      subst hL hD
      have hTf := paF_tens hv h5 (x := x) (z := z) (k := q) (i := 0) (by omega) hT
      simp only [Bool.and_self, if_true]
      unfold paX
      split
      · have hve := els_ve hTf
        have hwr : (widthR (omega p)).toNat = 4 := rfl
        rw [hwr] at hve
        refine ok_small (r := omega p) (tens_of hTf (E := (elsT 4 ⟨iota q, twos q, paF p q x z q 0 X⟩).map (mulP (omega p) (rootE p 4))) ?_ fun e he => ?_)
        · unfold elsT
          rw [List.length_map, List.length_map, List.length_range]
          show (((prd (twos q)).toNat : Nat) : Int) = prd (twos q)
          rw [prd_tw, Int.toNat_natCast]
        · obtain ⟨y, hy, rfl⟩ := List.mem_map.1 he
          exact hv.alg.m (hv.ve.2 (root_in hv.lo 4)) (hve y hy)
      · exact ok_small hTf
theorem law_ApplyPauli : LawPure P R F.wFnExactApplyPauli [Y.tint, Y.tlaws_Pauli, Y.tlaws_Tensor] := by
  intro H0 ls hro hA
  obtain ⟨l1, l2, l3, rfl, t1, t2, t3⟩ : ∃ l1 l2 l3, ls = [l1, l2, l3] ∧ typed P 8 H0 Y.tint l1 ∧ typed P 8 H0 Y.tlaws_Pauli l2 ∧ typed P 8 H0 Y.tlaws_Tensor l3 := by
    cases hA with
    | cons a h =>
      cases h with
      | cons b h =>
        cases h with
        | cons c h => cases h; exact ⟨_, _, _, rfl, a, b, c⟩
  obtain ⟨p, rfl, _⟩ := open_int u_int t1
  obtain ⟨x, z, s, rfl⟩ := open_pauli t2
  obtain ⟨ta, tb, tc, t, rfl, h, hm⟩ := open_tensor t3
  show ∃ H', R _ [pvT P Y.tint _, pvT P Y.tlaws_Pauli _, pvT P Y.tlaws_Tensor _] H0 = _
  rw [pvT_int u_int, pvT_struct f_Pauli, pvT_struct f_Tensor]
  show ∃ H', R (.fn F.wFnExactApplyPauli) [isc p, pupv x z s, tpv ta tb tc] H0 = _
  obtain ⟨v0, z0, hneg | ⟨g1, g2, hs⟩⟩ := z_tensor h hm (left := 1048576) (by omega) (by omega)
  · refine ⟨H0, ?_⟩
    rw [R_eq, e_wFnExactApplyPauli, z0]
    simp only [Option.bind_some, one_int, decide_eq_true hneg, cond_true]
  have hsm := pau_small (p := p) (x := x) (z := z) (s := s) (t := t)
  obtain ⟨a1, b1, c1, H1, e1, l1, n1, _⟩ := w_toTensor h hs
  obtain ⟨ra, rb, rc, H2, e2, F2⟩ := c_sApplyPauli (p := p) (x := x) (z := z) (s := s) n1
  have l02 := l1.trans F2.le
  have r2 := F2.ts
  obtain ⟨a2, b2, c2, H3, e3, l3, n3, w3, _⟩ := w_toTensor (h.le l02) hs
  obtain ⟨sa, sb, sc, H4, e4, F4⟩ := c_iApplyPauli (p := p) (x := x) (z := z) (s := s) n3 hs.1
  have l24 := l3.trans F4.le
  have q1 := c11_eq F4.ts (r2.le l24) hsm
  obtain ⟨a3, b3, c3, H5, e5, l5, n5, _⟩ := w_toTensor (h.le (l02.trans l24)) hs
  have q2 := c11_eq ((n3.le F4.le).le l5) n5 hs
  obtain ⟨k1, H6, f1, E1, r1⟩ := m_tensor1 (w3.ext (F4.le.trans l5) (Nat.le_refl _)) hs
  have l25 := l24.trans l5
  have l26 := E1.le l25 (Nat.le_refl _)
  have F5 := F4.ext l5
  have R6 : Rows H3.length H6 (rows3 sa sb sc (pauT p x z s t)) := F5.rows.frame fun p hp hn => E1.out _ (.inr (by
    rcases (F5.rows.own p hp).lo with e | e
    · exact absurd e hn
    · exact e))
  have ts6 : TS H6 sa sb sc (pauT p x z s t) := ⟨(R6.own (sa, _) (by simp [rows3])).is, (R6.own (sb, _) (by simp [rows3])).is, (R6.own (sc, _) (by simp [rows3])).is⟩
  have q3 := c11_eq ts6 (r2.le l26) hsm
  have c3 := l3.len
  obtain ⟨H7, f2, hl7, fr7, i7, j7, k7⟩ := p_tensor R6 hsm
  have l27 : Go.Abs.Le H2 H7 := ⟨by rw [hl7]; exact l26.len, fun b hb => by rw [fr7 b (by omega)]; exact l26.get b hb⟩
  obtain ⟨g3, g4, g5⟩ := hsm
  have h1 := p_heldT i7 j7 k7 g3 g4 g5
  obtain ⟨a4, b4, c4, H8, e8, l8, n8, _⟩ := w_toTensor (h.le (l02.trans l27)) hs
  obtain ⟨ua, ub, uc, H9, e9, F9⟩ := c_iApplyPauli (p := p) (x := x) (z := z) (s := s) n8 hs.1
  have l79 := l8.trans F9.le
  have q4 := c11_eq F9.ts (r2.le (l27.trans l79)) ⟨g3, g4, g5⟩
  have h2 := p_heldT (i7.le l79) (j7.le l79) (k7.le l79) g3 g4 g5
  exact ⟨H9, calc_ApplyPauli (decide_eq_false (Int.not_lt.2 g1)) (decide_eq_false (Int.not_lt.2 r1)) (decide_eq_false (by omega)) z0 e1 e2 e3 e4 q1 e5 q2 f1 q3 f2 h1 e8 e9 q4 h2⟩
end Go.Abs
