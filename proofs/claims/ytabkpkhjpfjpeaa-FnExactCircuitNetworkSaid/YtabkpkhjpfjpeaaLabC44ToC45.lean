/- Part of the proof of FnExactCircuitNetwork: that for every input the law answers true and leaves what it reads as it was. Conditions: none beyond the given statement. -/
import Derived.Test.YtabkpkhjpfjpeaaLabC28ToC36
set_option linter.all false
/- Contracts: the law's own helpers for circuits. -/
namespace Go.Abs
set_option linter.all false
set_option maxRecDepth 10000

def gcs (gs : List Gt) : List Sc := (gs.map fun g => [Sc.int .i64 g.k, Sc.int .i64 g.a, Sc.int .i64 g.b]).flatten
theorem gcs_len : ∀ gs : List Gt, (gcs gs).length = gs.length * 3
  | [] => rfl
  | g :: gs => by
    have := gcs_len gs
    simp only [gcs, List.map_cons, List.flatten_cons, List.length_append, List.length_cons, List.length_nil] at this ⊢
    omega
theorem gcs_app (a b : List Gt) : gcs (a ++ b) = gcs a ++ gcs b := by simp [gcs]
theorem gcs_get : ∀ (gs : List Gt) (i : Nat) (g : Gt), gs[i]? = some g → (gcs gs)[i * 3]? = some (.int .i64 g.k) ∧ (gcs gs)[i * 3 + 1]? = some (.int .i64 g.a) ∧ (gcs gs)[i * 3 + 1 + 1]? = some (.int .i64 g.b)
  | [], i, g, h => by simp at h
  | x :: gs, 0, g, h => by simp at h; subst h; simp [gcs]
  | x :: gs, i + 1, g, h => by
    have := gcs_get gs i g (by simpa using h)
    have e : (i + 1) * 3 = i * 3 + 3 := by omega
    have e2 : gcs (x :: gs) = [Sc.int .i64 x.k, Sc.int .i64 x.a, Sc.int .i64 x.b] ++ gcs gs := rfl
    have e3 : i * 3 + 3 + 1 = (i * 3 + 1) + 3 := by omega
    have e4 : i * 3 + 3 + 1 + 1 = (i * 3 + 1 + 1) + 3 := by omega
    rw [e2, e, e4, e3]
    refine ⟨?_, ?_, ?_⟩
    · rw [List.getElem?_append_right (by simp)]; simpa using this.1
    · rw [List.getElem?_append_right (by simp)]; simpa using this.2.1
    · rw [List.getElem?_append_right (by simp)]; simpa using this.2.2
@[reducible] def gAt (b : Nat) (gs : List Gt) : Sl := ⟨b, 0, gs.length, gs.length, true⟩
theorem g3_of {H : AH} {b : Nat} {gs : List Gt} (h : H[b]? = some ⟨gcs gs, .rw, 3⟩) : G3 H (gAt b gs) gs :=
  ⟨rfl, Nat.le_refl _, .inr ⟨gcs gs, by unfold rdB; rw [h]; rfl, fun i g hi => by rw [Nat.zero_add]; exact gcs_get gs i g hi⟩⟩
theorem set3 {cs : List Sc} {x y z : Sc} {o : Nat} (h : o + 3 ≤ cs.length) : setAll cs o [x, y, z] = cs.take o ++ [x, y, z] ++ cs.drop (o + 3) := setAll_all [x, y, z] cs o h
/-- laws.toGateS -/
theorem c_wtoGateS {H : AH} {s : Sl} {gs : List Gt} (h : G3 H s gs) (hl : gs.length ≤ 1048576) : R (.fn F.wtoGateS) [ssc s] H = some ⟨1, [ssc (gAt H.length gs)], H ++ [⟨gcs gs, .rw, 3⟩]⟩ := by
  have key : ∀ k i, i + k = gs.length → R (.loop F.wtoGateS 0) [ssc s, ssc (gAt H.length gs), isc (i : Int)] (H ++ [⟨gcs (gs.take i) ++ List.replicate (k * 3) (.int .i64 0), .rw, 3⟩]) = some ⟨2, [], H ++ [⟨gcs gs, .rw, 3⟩]⟩ := by
    intro k
    induction k with
    | zero =>
      intro i hi
      obtain rfl : i = gs.length := by omega
      rw [List.take_of_length_le (Nat.le_refl _), R_eq, e_wtoGateS_0, h.1, lt_self]
      simp
    | succ k ih =>
      intro i hi
      have hlt : i < gs.length := by omega
      have hlen : (gcs (gs.take i)).length = i * 3 := by rw [gcs_len]; simp; omega
      rw [R_eq, e_wtoGateS_0, h.1, lt_true hlt, w1 hlt (by omega), cond_true, (h.le (Le.app H _)).ld hlt]
      have ht : R (.fn F.wtoGate) [.agg [.int .i64 gs[i].k, .int .i64 gs[i].a, .int .i64 gs[i].b]] (H ++ [⟨gcs (gs.take i) ++ List.replicate ((k + 1) * 3) (.int .i64 0), .rw, 3⟩]) = some ⟨1, [gpv gs[i]], H ++ [⟨gcs (gs.take i) ++ List.replicate ((k + 1) * 3) (.int .i64 0), .rw, 3⟩]⟩ := by rw [R_eq, e_wtoGate]
      rw [ht]
      simp only [Option.bind_some, o_iii]
      rw [ixA_nat (by exact hlt)]
      simp only [Option.bind_some, Nat.zero_add]
      have hp : putR (H ++ [⟨gcs (gs.take i) ++ List.replicate ((k + 1) * 3) (.int .i64 0), .rw, 3⟩]) H.length (i * 3) [.int .i64 gs[i].k, .int .i64 gs[i].a, .int .i64 gs[i].b] = some (H ++ [⟨gcs (gs.take (i + 1)) ++ List.replicate (k * 3) (.int .i64 0), .rw, 3⟩]) := by
        unfold putR
        simp only [app_get, Option.bind_some]
        rw [if_pos (by simp only [List.length_append, hlen, List.length_replicate, List.length_cons, List.length_nil]; omega), app_set]
        congr 3
        rw [set3 (by simp only [List.length_append, hlen, List.length_replicate]; omega), take_snoc_any hlt, gcs_app]
        have e1 : (gcs (gs.take i) ++ List.replicate ((k + 1) * 3) (Sc.int .i64 0)).take (i * 3) = gcs (gs.take i) := by rw [← hlen]; simp
        have e2 : (gcs (gs.take i) ++ List.replicate ((k + 1) * 3) (Sc.int .i64 0)).drop (i * 3 + 3) = List.replicate (k * 3) (Sc.int .i64 0) := by
          rw [List.drop_append, hlen, List.drop_eq_nil_of_le (by omega), List.nil_append, List.drop_replicate]
          congr 1; omega
        rw [e1, e2]
        simp [gcs]
      rw [hp]
      exact ih (i + 1) (by omega)
  have hm : mkB H 3 24 [.int .i64 0, .int .i64 0, .int .i64 0] (gs.length : Int) (gs.length : Int) = some (gAt H.length gs, H ++ [⟨List.replicate (gs.length * 3) (.int .i64 0), .rw, 3⟩]) := by
    unfold mkB
    have hmost : (gs.length : Int) * 24 ≤ most := by unfold most; omega
    rw [if_pos ⟨by omega, by omega, by omega, by omega, hmost⟩]
    have : (List.replicate (gs.length : Int).toNat [Sc.int .i64 0, Sc.int .i64 0, Sc.int .i64 0]).flatten = List.replicate (gs.length * 3) (Sc.int .i64 0) := by
      have : [Sc.int .i64 0, Sc.int .i64 0, Sc.int .i64 0] = List.replicate 3 (Sc.int .i64 0) := rfl
      rw [this, Int.toNat_natCast, List.flatten_replicate_replicate]
    rw [this]; simp
  have h0 := key gs.length 0 (by omega)
  have e0 : gcs (gs.take 0) ++ List.replicate (gs.length * 3) (Sc.int .i64 0) = List.replicate (gs.length * 3) (Sc.int .i64 0) := by simp [gcs]
  rw [e0] at h0
  have h0 : R (.loop F.wtoGateS 0) [ssc s, ssc (gAt H.length gs), isc 0] (H ++ [⟨List.replicate (gs.length * 3) (.int .i64 0), .rw, 3⟩]) = _ := h0
  rw [R_eq, e_wtoGateS, h.1, hm]
  simp only [Option.bind_some]
  rw [h0]
  rfl
/-- laws.toCircuit -/
theorem c_wtoCircuit {H : AH} {p q : Int} {s : Sl} {gs : List Gt} (h : G3 H s gs) (hl : gs.length ≤ 1048576) : R (.fn F.wtoCircuit) [crpv p q s] H = some ⟨1, [crpv p q (gAt H.length gs)], H ++ [⟨gcs gs, .rw, 3⟩]⟩ := by
  rw [R_eq, e_wtoCircuit, c_wtoGateS h hl]; rfl
/-- laws.szCircuit -/
theorem c_wszCircuit {H : AH} {p q : Int} {s : Sl} (hs : s.n ≤ 9223372036854775807) : R (.fn F.wszCircuit) [crpv p q s, isc 1048576] H = some ⟨1, [isc (if 1048576 - (s.n : Int) < 0 then -1 else 1048576 - s.n)], H⟩ := by
  have hw : IntKind.wrap .i64 (1048576 - (s.n : Int)) = 1048576 - s.n := by rw [wrap_id] <;> omega
  have h1 : R (.fn F.wszGateS) [ssc s, isc 1048576] H = some ⟨1, [isc (if 1048576 - (s.n : Int) < 0 then -1 else 1048576 - s.n)], H⟩ := by
    rw [R_eq, e_wszGateS, hw]
    by_cases h : 1048576 - (s.n : Int) < 0
    · rw [if_pos h, decide_eq_true h]; rfl
    · rw [if_neg h, decide_eq_false h]; rfl
  rw [R_eq, e_wszCircuit, h1]
  simp only [Option.bind_some, one_int]
  by_cases h : 1048576 - (s.n : Int) < 0
  · rw [if_pos h]; rfl
  · rw [if_neg h, decide_eq_false h]; rfl
/-- laws.eqCircuit -/
theorem c_weqCircuit {H : AH} {p q : Int} {a b : Sl} {gs : List Gt} (ha : G3 H a gs) (hb : G3 H b gs) (hl : gs.length ≤ 1048576) : R (.fn F.weqCircuit) [crpv p q a, crpv p q b] H = some ⟨1, [bsc true], H⟩ := by
  have lp := loop_all (F := fun i : Nat => R (.loop F.weqGateS 0) [ssc a, ssc b, isc (i : Int)] H) (l := gs) (some ⟨2, [], H⟩)
    (by rw [R_eq, e_weqGateS_0, ha.1, lt_self]; rfl) (fun i hi => by
      rw [R_eq, e_weqGateS_0, ha.1, lt_true hi, w1 hi (by omega), cond_true, ha.ld hi, hb.ld hi]
      have he : R (.fn F.weqGate) [gpv gs[i], gpv gs[i]] H = some ⟨1, [bsc true], H⟩ := by
        rw [R_eq, e_weqGate]
        simp only [ne_i, cond_false]
      rw [he]
      rfl)
  have lp : R (.loop F.weqGateS 0) [ssc a, ssc b, isc 0] H = _ := lp
  have hg : R (.fn F.weqGateS) [ssc a, ssc b] H = some ⟨1, [bsc true], H⟩ := by
    rw [R_eq, e_weqGateS, ha.1, hb.1, ne_i, cond_false, lp]
    rfl
  rw [R_eq, e_weqCircuit, ne_i, ne_i, cond_false, cond_false, hg]
  rfl
theorem put_at {H : AH} {b o z : Nat} {cs : List Sc} (hb : H[b]? = some ⟨cs, .rw, z⟩) (ho : o < cs.length) (v : Sc) : putR H b o [v] = some (H.set b ⟨cs.set o v, .rw, z⟩) := putR_one hb ho
/-- laws.markCircuit of a copy -/
theorem c_wmarkCircuit {H : AH} {b : Nat} {p q : Int} {gs : List Gt} {cs : List Sc} (hb : H[b]? = some ⟨cs, .rw, 3⟩) (hc : cs.length = gs.length * 3) (hl : gs.length ≤ 1048576) :
    ∃ cs', R (.fn F.wmarkCircuit) [crpv p q (gAt b gs), isc 1] H = some ⟨1, [isc (1 + 3 * (gs.length : Int))], H.set b ⟨cs', .rw, 3⟩⟩ := by
  have key : ∀ k i, i + k = gs.length → ∀ cs : List Sc, cs.length = gs.length * 3 → ∃ cs', R (.loop F.wmarkGateS 0) [ssc (gAt b gs), isc (1 + 3 * (i : Int)), isc (i : Int)] (H.set b ⟨cs, .rw, 3⟩) = some ⟨2, [isc (1 + 3 * (gs.length : Int))], H.set b ⟨cs', .rw, 3⟩⟩ := by
    intro k
    induction k with
    | zero =>
      intro i hi cs hc
      obtain rfl : i = gs.length := by omega
      exact ⟨cs, by rw [R_eq, e_wmarkGateS_0, lt_self]; rfl⟩
    | succ k ih =>
      intro i hi cs hc
      have hlt : i < gs.length := by omega
      have w1' : IntKind.wrap .i64 (1 + 3 * (i : Int) + 1) = 1 + 3 * (i : Int) + 1 := by rw [wrap_id] <;> omega
      have w2' : IntKind.wrap .i64 (1 + 3 * (i : Int) + 1 + 1) = 1 + 3 * (i : Int) + 1 + 1 := by rw [wrap_id] <;> omega
      have w3' : IntKind.wrap .i64 (1 + 3 * (i : Int) + 1 + 1 + 1) = 1 + 3 * ((i + 1 : Nat) : Int) := by rw [wrap_id] <;> omega
      have hix : ixA (gAt b gs) (i : Int) 3 = some (i * 3) := by rw [ixA_nat (by exact hlt), Nat.zero_add]
      obtain ⟨cs', e⟩ := ih (i + 1) (by omega) (((cs.set (i * 3 + 0) (.int .i64 (1 + 3 * (i : Int)))).set (i * 3 + 1) (.int .i64 (1 + 3 * (i : Int) + 1))).set (i * 3 + 2) (.int .i64 (1 + 3 * (i : Int) + 1 + 1))) (by simpa using hc)
      refine ⟨cs', ?_⟩
      rw [R_eq, e_wmarkGateS_0, lt_true hlt, w1 hlt (by omega), cond_true, hix, w1', w2', w3']
      simp only [Option.bind_some]
      rw [put_at (set_get hb) (by omega), set_set]
      simp only [Option.bind_some]
      rw [put_at (set_get hb) (by simp; omega), set_set]
      simp only [Option.bind_some]
      rw [put_at (set_get hb) (by simp; omega), set_set]
      simp only [Option.bind_some]
      exact e
  obtain ⟨cs', e⟩ := key gs.length 0 (by omega) cs hc
  rw [set_same hb] at e
  refine ⟨cs', ?_⟩
  have e : R (.loop F.wmarkGateS 0) [ssc (gAt b gs), isc 1, isc 0] H = _ := e
  have hg : R (.fn F.wmarkGateS) [ssc (gAt b gs), isc 1] H = some ⟨1, [isc (1 + 3 * (gs.length : Int))], H.set b ⟨cs', .rw, 3⟩⟩ := by
    rw [R_eq, e_wmarkGateS, e]; rfl
  rw [R_eq, e_wmarkCircuit, hg]
  rfl

theorem f_Gate : fieldsOf P Y.tlaws_Gate = some [(Y.tint, 0, 1), (Y.tint, 1, 1), (Y.tint, 2, 1)] := by kernel_rfl
theorem z_Gate : tsz P Y.tlaws_Gate = 3 := by kernel_rfl
theorem u_SGate : P.underlying Y.tSlaws_Gate = some (.slice Y.tlaws_Gate) := by kernel_rfl
theorem f_Circuit : fieldsOf P Y.tlaws_Circuit = some [(Y.tint, 0, 1), (Y.tint, 1, 1), (Y.tSlaws_Gate, 2, 1)] := by kernel_rfl
theorem z_Circuit : tsz P Y.tlaws_Circuit = 3 := by kernel_rfl
theorem take_three {cells : List Sc} {i : Nat} {x y z : Sc} (h : (cells.drop (i * 3)).take 3 = [x, y, z]) : cells[i * 3]? = some x ∧ cells[i * 3 + 1]? = some y ∧ cells[i * 3 + 1 + 1]? = some z := by
  have h0 := congrArg (fun l => l[0]?) h
  have h1 := congrArg (fun l => l[1]?) h
  have h2 := congrArg (fun l => l[2]?) h
  simp at h0 h1 h2
  exact ⟨h0, h1, h2⟩
theorem open_gates {H : AH} {n : Nat} {l : List Sc} (h : typed P (n + 3) H Y.tSlaws_Gate l) : ∃ s gs, l = [.sl s] ∧ G3 H s gs ∧ gs.length ≤ maxLen := by
  obtain ⟨s, xs, h1, h2, h3, h4, h5, h6⟩ := open_sl (E := fun i cells (g : Gt) => cells[i * 3]? = some (.int .i64 g.k) ∧ cells[i * 3 + 1]? = some (.int .i64 g.a) ∧ cells[i * 3 + 1 + 1]? = some (.int .i64 g.b)) u_SGate z_Gate h (fun cells i ht => by
    obtain ⟨g1, g2⟩ := open_struct f_Gate ht
    obtain ⟨a, b, c, habc⟩ := len3 (g1.trans z_Gate)
    rw [habc] at g2
    obtain ⟨k, hk, _⟩ := open_int u_int (g2 (Y.tint, 0, 1) (by simp))
    obtain ⟨p, hp, _⟩ := open_int u_int (g2 (Y.tint, 1, 1) (by simp))
    obtain ⟨m, hm, _⟩ := open_int u_int (g2 (Y.tint, 2, 1) (by simp))
    simp at hk hp hm
    rw [hk, hp, hm] at habc
    exact ⟨⟨k, p, m⟩, take_three habc⟩)
  refine ⟨s, xs, h1, ⟨h2, h3, h6.imp id fun ⟨cells, g1, g2⟩ => ⟨cells, g1, fun i g hi => by rw [h5, Nat.zero_add]; exact g2 i g hi⟩⟩, h4⟩
theorem open_circuit {H : AH} {n : Nat} {l : List Sc} (h : typed P (n + 4) H Y.tlaws_Circuit l) : ∃ p q s gs, l = [.int .i64 p, .int .i64 q, .sl s] ∧ G3 H s gs ∧ gs.length ≤ maxLen := by
  obtain ⟨h1, h2⟩ := open_struct f_Circuit h
  obtain ⟨a, b, c, rfl⟩ := len3 (h1.trans z_Circuit)
  obtain ⟨p, hp, _⟩ := open_int u_int (h2 (Y.tint, 0, 1) (by simp))
  obtain ⟨q, hq, _⟩ := open_int u_int (h2 (Y.tint, 1, 1) (by simp))
  obtain ⟨s, gs, hs, g1, g2⟩ := open_gates (h2 (Y.tSlaws_Gate, 2, 1) (by simp))
  simp at hp hq hs
  exact ⟨p, q, s, gs, by rw [hp, hq, hs], g1, g2⟩
theorem pvT_int {t : TypeId} (hu : P.underlying t = some (.int .i64)) (s : Sc) : pvT P t [s] = .sc s := by
  unfold pvT; rw [hu]
end Go.Abs
/- The law FnExactCircuitNetwork: its contract in plain Lean. -/
namespace Go.Abs
set_option linter.all false
set_option maxRecDepth 10000

def resC (p q k : Int) (gs : List Gt) : Nw := if cnB p q k gs then circN p q.toNat k gs else nw0
theorem resC_small (p q k : Int) (gs : List Gt) : netB (resC p q k gs) = true ∨ resC p q k gs = nw0 := by
  unfold resC
  split
  · rename_i h
    simp only [cnB, Bool.and_eq_true] at h
    exact .inl h.2
  · exact .inr rfl
theorem k_iCircuitNetwork {H : AH} {p q k : Int} {s : Sl} {gs : List Gt} (hs : G3 H s gs) :
    ∃ s' u' xs H', R (.fn F.iCircuitNetwork) [crpv p q s, isc k] H = some ⟨1, [npv (resC p q k gs).r s' u', bsc (cnB p q k gs)], H'⟩ ∧ Le H H' ∧ NetO H.length H' s' u' xs (resC p q k gs) := by
  unfold resC
  rcases c_iCircuitNetwork (p := p) (q := q) (k := k) hs with ⟨h, s', u', xs, H', e, l, N⟩ | ⟨h, H', e, l⟩
  · rw [h]; exact ⟨s', u', xs, H', e, l, N⟩
  · rw [h]; exact ⟨_, _, [], H', e, l, neto0 _ _ _ _⟩
theorem k_sCircuitNetwork {H : AH} {p q k : Int} {s : Sl} {gs : List Gt} (hs : G3 H s gs) :
    ∃ s' u' H', R (.fn F.sCircuitNetwork) [crpv p q s, isc k] H = some ⟨1, [npv (resC p q k gs).r s' u', bsc (cnB p q k gs)], H'⟩ ∧ Le H H' ∧ NS H' s' u' (resC p q k gs) := by
  unfold resC
  rcases c_sCircuitNetwork (p := p) (q := q) (k := k) hs with ⟨h, s', u', H', e, l, N⟩ | ⟨h, H', e, l⟩
  · rw [h]; exact ⟨s', u', H', e, l, N⟩
  · rw [h]; exact ⟨_, _, H', e, l, (neto0 H'.length H' 0 0).ns⟩

theorem calc_CircuitNetwork {p q k v k6 m : Int} {s s1 s3 s5 s8 sw uw sg ug sh uh : Sl} {n : Rg} {b : Bool} {H0 H1 H2 H3 H4 H5 H6 H7 H8 H9 : AH} (hd : decide (v < 0) = false)
    (hv : R (.fn F.wszCircuit) [crpv p q s, isc 1048576] H0 = some ⟨1, [isc v], H0⟩)
    (e1 : R (.fn F.wtoCircuit) [crpv p q s] H0 = some ⟨1, [crpv p q s1], H1⟩)
    (e2 : R (.fn F.sCircuitNetwork) [crpv p q s1, isc k] H1 = some ⟨1, [npv n sw uw, bsc b], H2⟩)
    (e3 : R (.fn F.wtoCircuit) [crpv p q s] H2 = some ⟨1, [crpv p q s3], H3⟩)
    (e4 : R (.fn F.iCircuitNetwork) [crpv p q s3, isc k] H3 = some ⟨1, [npv n sg ug, bsc b], H4⟩)
    (q1 : R (.fn F.weqNetwork) [npv n sg ug, npv n sw uw] H4 = some ⟨1, [bsc true], H4⟩)
    (e5 : R (.fn F.wtoCircuit) [crpv p q s] H4 = some ⟨1, [crpv p q s5], H5⟩)
    (q2 : R (.fn F.weqCircuit) [crpv p q s3, crpv p q s5] H5 = some ⟨1, [bsc true], H5⟩)
    (e6 : R (.fn F.wmarkCircuit) [crpv p q s3, isc 1] H5 = some ⟨1, [isc k6], H6⟩) (hk6 : decide (k6 < 0) = false)
    (q3 : R (.fn F.weqNetwork) [npv n sg ug, npv n sw uw] H6 = some ⟨1, [bsc true], H6⟩)
    (e7 : R (.fn F.wmarkNetwork) [npv n sg ug, isc 1] H6 = some ⟨1, [isc m], H7⟩) (hpos : decide (m < 0) = false)
    (q4 : R (.fn F.wheldNetwork) [npv n sg ug, isc 1] H7 = some ⟨1, [isc m], H7⟩)
    (e8 : R (.fn F.wtoCircuit) [crpv p q s] H7 = some ⟨1, [crpv p q s8], H8⟩)
    (e9 : R (.fn F.iCircuitNetwork) [crpv p q s8, isc k] H8 = some ⟨1, [npv n sh uh, bsc b], H9⟩)
    (q5 : R (.fn F.weqNetwork) [npv n sh uh, npv n sw uw] H9 = some ⟨1, [bsc true], H9⟩)
    (q6 : R (.fn F.wheldNetwork) [npv n sg ug, isc 1] H9 = some ⟨1, [isc m], H9⟩) :
    R (.fn F.wFnExactCircuitNetwork) [crpv p q s, isc k] H0 = some ⟨1, [bsc true], H9⟩ := by
  rw [R_eq, e_wFnExactCircuitNetwork, hv]
  simp only [Option.bind_some, one_int, hd, cond_false]
  rw [e1]
  simp only [Option.bind_some, one_int, one_bool, o_iis, t_iiiss_b, cond_true, cond_false, Bool.not_true, ne_b, ne_i, hpos, hk6]
  rw [e2]
  simp only [Option.bind_some, one_int, one_bool, o_iis, t_iiiss_b, cond_true, cond_false, Bool.not_true, ne_b, ne_i, hpos, hk6]
  rw [e3]
  simp only [Option.bind_some, one_int, one_bool, o_iis, t_iiiss_b, cond_true, cond_false, Bool.not_true, ne_b, ne_i, hpos, hk6]
  rw [e4]
  simp only [Option.bind_some, one_int, one_bool, o_iis, t_iiiss_b, cond_true, cond_false, Bool.not_true, ne_b, ne_i, hpos, hk6]
  rw [q1]
  simp only [Option.bind_some, one_int, one_bool, o_iis, t_iiiss_b, cond_true, cond_false, Bool.not_true, ne_b, ne_i, hpos, hk6]
  rw [e5]
  simp only [Option.bind_some, one_int, one_bool, o_iis, t_iiiss_b, cond_true, cond_false, Bool.not_true, ne_b, ne_i, hpos, hk6]
  rw [q2]
  simp only [Option.bind_some, one_int, one_bool, o_iis, t_iiiss_b, cond_true, cond_false, Bool.not_true, ne_b, ne_i, hpos, hk6]
  rw [e6]
  simp only [Option.bind_some, one_int, one_bool, o_iis, t_iiiss_b, cond_true, cond_false, Bool.not_true, ne_b, ne_i, hpos, hk6]
  rw [q3]
  simp only [Option.bind_some, one_int, one_bool, o_iis, t_iiiss_b, cond_true, cond_false, Bool.not_true, ne_b, ne_i, hpos, hk6]
  rw [e7]
  simp only [Option.bind_some, one_int, one_bool, o_iis, t_iiiss_b, cond_true, cond_false, Bool.not_true, ne_b, ne_i, hpos, hk6]
  rw [q4]
  simp only [Option.bind_some, one_int, one_bool, o_iis, t_iiiss_b, cond_true, cond_false, Bool.not_true, ne_b, ne_i, hpos, hk6]
  rw [e8]
  simp only [Option.bind_some, one_int, one_bool, o_iis, t_iiiss_b, cond_true, cond_false, Bool.not_true, ne_b, ne_i, hpos, hk6]
  rw [e9]
  simp only [Option.bind_some, one_int, one_bool, o_iis, t_iiiss_b, cond_true, cond_false, Bool.not_true, ne_b, ne_i, hpos, hk6]
  rw [q5]
  simp only [Option.bind_some, one_int, one_bool, o_iis, t_iiiss_b, cond_true, cond_false, Bool.not_true, ne_b, ne_i, hpos, hk6]
  rw [q6]
  simp only [Option.bind_some, one_int, one_bool, o_iis, t_iiiss_b, cond_true, cond_false, Bool.not_true, ne_b, ne_i, hpos, hk6]

theorem law_CircuitNetwork : LawPure P R F.wFnExactCircuitNetwork [Y.tlaws_Circuit, Y.tint] := by
  intro H0 ls hro hA
  obtain ⟨l1, l2, rfl, t1, t2⟩ : ∃ l1 l2, ls = [l1, l2] ∧ typed P 8 H0 Y.tlaws_Circuit l1 ∧ typed P 8 H0 Y.tint l2 := by
    cases hA with
    | cons a h =>
      cases h with
      | cons b h => cases h; exact ⟨_, _, rfl, a, b⟩
  obtain ⟨p, q, s, gs, rfl, hs, hm⟩ := open_circuit t1
  obtain ⟨k, rfl, _⟩ := open_int u_int t2
  show ∃ H', R _ [pvT P Y.tlaws_Circuit _, pvT P Y.tint _] H0 = _
  rw [pvT_struct f_Circuit, pvT_int u_int]
  have hmx : maxLen ≤ 9223372036854775807 := by decide
  have hv := c_wszCircuit (H := H0) (p := p) (q := q) (s := s) (by rw [hs.1]; omega)
  generalize hvv : (if 1048576 - (s.n : Int) < 0 then (-1 : Int) else 1048576 - s.n) = v at hv
  by_cases hneg : v < 0
  · refine ⟨H0, ?_⟩
    have hd : decide (v < 0) = true := decide_eq_true hneg
    rw [R_eq, e_wFnExactCircuitNetwork, hv]
    simp only [Option.bind_some, one_int, hd, cond_true]
  · have hd : decide (v < 0) = false := decide_eq_false hneg
    have hl : gs.length ≤ 1048576 := by
      have := hs.1
      split at hvv
      · omega
      · omega
    have e1 := c_wtoCircuit (p := p) (q := q) hs hl
    have le1 := Le.app H0 [⟨gcs gs, .rw, 3⟩]
    obtain ⟨sw, uw, H2, e2, le2, nsw⟩ := k_sCircuitNetwork (p := p) (q := q) (k := k) (g3_of (H := H0 ++ [⟨gcs gs, .rw, 3⟩]) (b := H0.length) (gs := gs) app_get)
    have e3 := c_wtoCircuit (p := p) (q := q) (hs.le (le1.trans le2)) hl
    have le3 := Le.app H2 [⟨gcs gs, .rw, 3⟩]
    have gx := g3_of (H := H2 ++ [⟨gcs gs, .rw, 3⟩]) (b := H2.length) (gs := gs) app_get
    obtain ⟨sg, ug, xg, H4, e4, le4, ng⟩ := k_iCircuitNetwork (p := p) (q := q) (k := k) gx
    obtain ⟨sm1, sm2, sm3, sm4⟩ := small_net (resC_small p q k gs)
    have nsw4 := nsw.le (le3.trans le4)
    have q1 := c19_eq ng.ns nsw4 sm3 sm2 sm4
    have e5 := c_wtoCircuit (p := p) (q := q) (hs.le (((le1.trans le2).trans le3).trans le4)) hl
    have le5 := Le.app H4 [⟨gcs gs, .rw, 3⟩]
    have q2 := c_weqCircuit (p := p) (q := q) (gx.le (le4.trans le5)) (g3_of (H := H4 ++ [⟨gcs gs, .rw, 3⟩]) (b := H4.length) (gs := gs) app_get) hl
    have hbx : (H4 ++ [⟨gcs gs, .rw, 3⟩] : AH)[H2.length]? = some ⟨gcs gs, .rw, 3⟩ := by rw [(le4.trans le5).get _ (by simp)]; exact app_get
    obtain ⟨cs', e6⟩ := c_wmarkCircuit (p := p) (q := q) hbx (gcs_len gs) hl
    have f6 : ∀ b, b ≠ H2.length → ((H4 ++ [⟨gcs gs, .rw, 3⟩] : AH).set H2.length ⟨cs', .rw, 3⟩)[b]? = (H4 ++ [⟨gcs gs, .rw, 3⟩] : AH)[b]? := fun b hb => List.getElem?_set_ne (Ne.symm hb)
    have le56 : Le H2 ((H4 ++ [⟨gcs gs, .rw, 3⟩] : AH).set H2.length ⟨cs', .rw, 3⟩) := ((le3.trans le4).trans le5).set (Nat.le_refl _)
    have nsw6 := nsw.le le56
    have hl3 : (H2 ++ [⟨gcs gs, .rw, 3⟩] : AH).length = H2.length + 1 := by simp
    have ng5 : NetO (H2 ++ [⟨gcs gs, .rw, 3⟩] : AH).length (H4 ++ [⟨gcs gs, .rw, 3⟩]) sg ug xg (resC p q k gs) := ng.keep fun b h1 h2 => le5.get b h2
    have ng6 := ng5.keep (H' := (H4 ++ [⟨gcs gs, .rw, 3⟩] : AH).set H2.length ⟨cs', .rw, 3⟩) fun b h1 h2 => f6 b (by omega)
    generalize hH6 : (H4 ++ [⟨gcs gs, .rw, 3⟩] : AH).set H2.length ⟨cs', .rw, 3⟩ = H6 at *
    have q3 := c19_eq ng6.ns nsw6 sm3 sm2 sm4
    obtain ⟨H7, e7, ln7, o7, f7⟩ := c_wmarkNetwork ng6.own sm1
    have hIS7 : ∀ r ∈ rowsN xg ug (relN 1 (resC p q k gs)), IS H7 r.1 r.2 := fun r hr => (o7.rows.own r hr).is
    have q4 := c_wheldNetwork (n0 := (H2 ++ [⟨gcs gs, .rw, 3⟩] : AH).length) ng6.len o7.outer hIS7 sm1
    have hle27 : Le H2 H7 := ⟨by rw [ln7]; exact le56.len, fun b hb => by
      rw [f7 b fun r hr => ?_]
      · exact le56.get b hb
      · rcases (ng6.rows.own r hr).lo with h | h
        · exact .inr h
        · exact .inl (by omega)⟩
    have oo7 : OOut (H2 ++ [⟨gcs gs, .rw, 3⟩] : AH).length H7 sg xg := ng6.out.keep fun hx => f7 _ fun r hr => by
      by_cases hp2 : r.2 = []
      · exact .inr hp2
      · exact .inl (Ne.symm (ng6.out.ne hx (ng6.rows.own r hr) hp2))
    have hle07 : Le H0 H7 := (le1.trans le2).trans hle27
    have e8 := c_wtoCircuit (p := p) (q := q) (hs.le hle07) hl
    have le8 := Le.app H7 [⟨gcs gs, .rw, 3⟩]
    obtain ⟨sh, uh, xh, H9, e9, le9, nh⟩ := k_iCircuitNetwork (p := p) (q := q) (k := k) (g3_of (H := H7 ++ [⟨gcs gs, .rw, 3⟩]) (b := H7.length) (gs := gs) app_get)
    have nsw9 := nsw.le (hle27.trans (le8.trans le9))
    have q5 := c19_eq nh.ns nsw9 sm3 sm2 sm4
    have q6 := c_wheldNetwork (n0 := (H2 ++ [⟨gcs gs, .rw, 3⟩] : AH).length) (H := H9) ng6.len (oo7.le (le8.trans le9)).outer (fun r hr => (hIS7 r hr).le (le8.trans le9)) sm1
    refine ⟨H9, ?_⟩
    have hpos : decide (1 + cntN (resC p q k gs) < 0) = false := decide_eq_false (by
      have h1 := cntTs_pos (resC p q k gs).ts
      unfold cntN; omega)
    have hk6 : decide (1 + 3 * (gs.length : Int) < 0) = false := decide_eq_false (by omega)
    exact calc_CircuitNetwork hd hv e1 e2 e3 e4 q1 e5 q2 e6 hk6 q3 e7 hpos q4 e8 e9 q5 q6
end Go.Abs
