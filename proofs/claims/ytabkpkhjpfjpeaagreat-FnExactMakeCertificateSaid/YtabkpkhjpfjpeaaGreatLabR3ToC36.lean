/- Part of the proof of FnExactMakeCertificate: that for every input the law answers true and leaves what it reads as it was. Conditions: none beyond the given statement. -/
import Derived.Test.YtabkpkhjpfjpeaaGreatLabC47ToR2
import Derived.Test.YtabkpkhjpfjpeaaGreatLabC1ToC46
set_option linter.all false
/- Contracts: two tensors are contracted (impl): a product is added. -/
namespace Go.Abs
set_option linter.all false
set_option maxRecDepth 10000

theorem fr_apart {H0 H : AH} {p q : Row} {rs : List Row} (h : Fr H0 H (p :: rs)) (hq : q ∈ rs) (hp : p.2 ≠ []) (hq2 : q.2 ≠ []) : p.1.b ≠ q.1.b := by
  rcases (List.pairwise_cons.1 h.rows.apart).1 q hq with e | e | e
  · exact absurd e hp
  · exact absurd e hq2
  · exact e
theorem fr_below {H0 H : AH} {p : Row} {rs : List Row} (h : Fr H0 H rs) (hp : p ∈ rs) (hne : p.2 ≠ []) {s : Sl} {l : List Int} (hs : IS H0 s l) (hl : l ≠ []) : s.b ≠ p.1.b := fun e => by
  have h1 := hs.lt hl
  rcases (h.rows.own p hp).lo with h2 | h2
  · exact hne h2
  · omega
theorem flat_ne {w : Nat} {E : List (List Int)} (hu : Uni w E) (hw : 0 < w) (hE : 0 < E.length) : E.flatten ≠ [] := fun e => by
  have hl := uni_len hu
  rw [e] at hl
  have : 0 < E.length * w := Nat.mul_pos hE hw
  simp at hl; omega
theorem ve_uni {r : Rg} {w : Nat} (hw : widthR r = (w : Int)) {E : List (List Int)} (h : ∀ e ∈ E, VE r e) : Uni w E := fun e he => by
  have := (h e he).1
  omega
/-- The element of a tensor's data, as impl.rawElem cuts it out. -/
theorem cut_elem {r : Rg} {H : AH} {x y z : Sl} {t : Tn} {w : Nat} (hw : widthR r = (w : Int)) (hz : IS H z t.X) (ht : tensorB r t = true) {n : Nat} (hn : (n : Int) < prd t.D) :
    (R (.fn F.irawElem) [r.pv, tpv x y z, isc (n : Int)] H = some ⟨1, [ssc (partAt z w n)], H⟩) ∧ IS H (partAt z w n) (getE w t.X n) ∧ VE r (getE w t.X n) ∧ t.X ≠ [] := by
  have hT := tensor_ok ht
  obtain ⟨N, hN, hN1, hN2, hN3⟩ := hT.d.nat
  have hwr := width_range hT.rg
  have hl := hT.len
  rw [hw, hN, ← Int.natCast_mul] at hl
  have hl : t.X.length = N * w := by omega
  have h2 : (n + 1) * w ≤ N * w := Nat.mul_le_mul_right _ (by omega)
  have hNw : N * w ≤ 4096 * 6 := Nat.mul_le_mul hN2 (by omega)
  have e2 : (n + 1) * w = n * w + w := by rw [Nat.add_mul, Nat.one_mul]
  have hzc : t.X.length ≤ z.c := by have := hz.n; have := hz.c; omega
  refine ⟨c_irawElem' hw (by omega) (by omega) (by omega) (by omega), hz.part (by omega), ?_, fun e => ?_⟩
  · have := getE_ve ht hn
    rwa [hw, Int.toNat_natCast] at this
  · rw [e] at hl
    have : 0 < N * w := Nat.mul_pos (by omega) (by omega)
    simp at hl; omega
/-- impl.ContractPair: a product is added -/
theorem c_iContractPair_s {r : Rg} {A M : List Int → List Int → List Int} {dm : Int → Int} {a b : Tn} {m L : List Int} (hR : RC r A M) (hC : PairC r dm a b m L) (hml : m.length ≤ 100) (hL : DimsOk (L.map dm)) {w : Nat} (hw : widthR r = (w : Int))
    {H0 : AH} {aa ab ac ba bb bc : Sl} (ha : TS H0 aa ab ac a) (hb : TS H0 ba bb bc b) {sD ssa ssb sso sI sX cl cd cc z1 z2 z3 : Sl} {rs : List Row} (rD : (sD, m.map dm) ∈ rs) (ra : (ssa, strM m a.L a.D) ∈ rs) (rb : (ssb, strM m b.L b.D) ∈ rs) (ro : (sso, strM m L (L.map dm)) ∈ rs)
    {n : Nat} (hn : (n : Int) < prd (m.map dm)) {H : AH} {xs : List Int} {E : List (List Int)} (hx : (xs.length : Int) = widthR r) (hEl : E.length = (prd (L.map dm)).toNat) (hE : ∀ e ∈ E, VE r e) (hF : Fr H0 H ((sI, idxF (m.map dm) (n : Int)) :: (sX, xs) :: (cc, E.flatten) :: rs)) :
    ∃ xs' H', R (.loop F.iContractPair 2) [ssc sD, ssc ssa, ssc ssb, ssc sso, ssc sI, ssc sX, r.pv, tpv aa ab ac, tpv ba bb bc, tpv z1 z2 z3, tpv cl cd cc] H =
        cond (!(decide ((n : Int) + 1 < prd (m.map dm)))) (some ⟨1, [bsc true, tpv cl cd cc], H'⟩) (R (.loop F.iContractPair 2) [ssc sD, ssc ssa, ssc ssb, ssc sso, ssc sI, ssc sX, r.pv, tpv aa ab ac, tpv ba bb bc, tpv z1 z2 z3, tpv cl cd cc] H') ∧
      (xs'.length : Int) = widthR r ∧ Fr H0 H' ((sI, idxF (m.map dm) ((n + 1 : Nat) : Int)) :: (sX, xs') :: (cc, (pairS A M w (strM m a.L a.D) (strM m b.L b.D) (strM m L (L.map dm)) a.X b.X (idxF (m.map dm) (n : Int)) E).flatten) :: rs) := by
  have hwr := width_range hR.alg.rg
  have hge : ∀ d ∈ m.map dm, 1 ≤ d ∧ d ≤ 8 := fun d hd => by
    obtain ⟨x, hx, rfl⟩ := List.mem_map.1 hd
    exact (hC.labs x hx).2.2
  have hfit := hC.fits (n : Int)
  have hil := idxF_len (m.map dm) (n : Int)
  rw [List.length_map] at hil
  have hiv : ∀ v ∈ idxF (m.map dm) (n : Int), 0 ≤ v ∧ v ≤ 8 := fun v hv => by
    obtain ⟨d, hdm, h0, h1⟩ := fits_mem hfit v hv
    have := hge d hdm
    omega
  have hTa := tensor_ok hC.ca.ok
  have hTb := tensor_ok hC.cb.ok
  have ga : ∀ x ∈ strM m a.L a.D, 0 ≤ x ∧ x ≤ 4096 := fun x hx => by have := strM_rng hC.ca.nodup hC.ca.len.2.symm hTa.d.ge x hx; have := hTa.d.2.2; omega
  have gb : ∀ x ∈ strM m b.L b.D, 0 ≤ x ∧ x ≤ 4096 := fun x hx => by have := strM_rng hC.cb.nodup hC.cb.len.2.symm hTb.d.ge x hx; have := hTb.d.2.2; omega
  have gl : ∀ x ∈ strM m L (L.map dm), 0 ≤ x ∧ x ≤ 4096 := fun x hx => by have := strM_rng hC.nl (by simp) hL.ge x hx; have := hL.2.2; omega
  have d1 := hC.da (n : Int); have d2 := hC.db (n : Int); have d3 := hC.dl (n : Int)
  obtain ⟨o1, ho1⟩ : ∃ o : Nat, dotL (strM m a.L a.D) (idxF (m.map dm) (n : Int)) = (o : Int) := ⟨(dotL (strM m a.L a.D) (idxF (m.map dm) (n : Int))).toNat, by omega⟩
  obtain ⟨o2, ho2⟩ : ∃ o : Nat, dotL (strM m b.L b.D) (idxF (m.map dm) (n : Int)) = (o : Int) := ⟨(dotL (strM m b.L b.D) (idxF (m.map dm) (n : Int))).toNat, by omega⟩
  obtain ⟨o3, ho3⟩ : ∃ o : Nat, dotL (strM m L (L.map dm)) (idxF (m.map dm) (n : Int)) = (o : Int) := ⟨(dotL (strM m L (L.map dm)) (idxF (m.map dm) (n : Int))).toNat, by omega⟩
  have hEu := ve_uni hw hE
  have ho3l : o3 < E.length := by omega
  have hEne := flat_ne hEu (by omega) (by omega)
  have hxne : xs ≠ [] := fun e => by rw [e] at hx; simp at hx; omega
  -- the two factors
  have isI := hF.is (s := sI) (l := idxF (m.map dm) (n : Int)) (by simp)
  have e1 := c_idotOf2 (hF.is (s := ssa) (l := strM m a.L a.D) (by simp [ra])) isI (by rw [strM_len, hil]) (by rw [strM_len]; omega) ga hiv
  have e3 := c_idotOf2 (hF.is (s := ssb) (l := strM m b.L b.D) (by simp [rb])) isI (by rw [strM_len, hil]) (by rw [strM_len]; omega) gb hiv
  rw [ho1] at e1 d1
  rw [ho2] at e3 d2
  obtain ⟨e2, i2, v2, n2⟩ := cut_elem (x := aa) (y := ab) hw (ha.X.le hF.le) hC.ca.ok (n := o1) d1.2
  obtain ⟨e4, i4, v4, n4⟩ := cut_elem (x := ba) (y := bb) hw (hb.X.le hF.le) hC.cb.ok (n := o2) d2.2
  have oX := hF.own (s := sX) (l := xs) (by simp)
  have m1 := hR.mulI (q := sX.x) (oX.blk' hxne) hx i2 i4 v2 v4 (show ac.b ≠ sX.b from fr_below hF (p := (sX, xs)) (by simp) hxne ha.X n2) (show bc.b ≠ sX.b from fr_below hF (p := (sX, xs)) (by simp) hxne hb.X n4)
  rw [← oX.eta] at m1
  have vM := hR.alg.m v2 v4
  have lM : (M (getE w a.X o1) (getE w b.X o2)).length = xs.length := by have := vM.1; omega
  have F1 := Fr.mut [(sI, idxF (m.map dm) (n : Int))] (ys := (cc, E.flatten) :: rs) hF (Mut.set oX hxne lM) (fun e => absurd e hxne)
  generalize hH1 : H.set sX.b ⟨ics (M (getE w a.X o1) (getE w b.X o2)), .rw, 1⟩ = H1 at *
  have F1 : Fr H0 H1 ((sI, idxF (m.map dm) (n : Int)) :: (sX, M (getE w a.X o1) (getE w b.X o2)) :: (cc, E.flatten) :: rs) := F1
  have hMne : M (getE w a.X o1) (getE w b.X o2) ≠ [] := fun e => by rw [e] at lM; exact hxne (List.length_eq_zero_iff.1 lM.symm)
  -- the sum
  have e5 := c_idotOf2 (F1.is (s := sso) (l := strM m L (L.map dm)) (by simp [ro])) (F1.is (s := sI) (l := idxF (m.map dm) (n : Int)) (by simp)) (by rw [strM_len, hil]) (by rw [strM_len]; omega) gl hiv
  rw [ho3] at e5
  have oC := F1.own (s := cc) (l := E.flatten) (by simp)
  have hfl := uni_len hEu
  have hNL : E.length ≤ 4096 := by have := hL.2.2; have := prd_pos hL.ge; omega
  have hNw : E.length * w ≤ 4096 * 6 := Nat.mul_le_mul hNL (by omega)
  have e3n : (o3 + 1) * w = o3 * w + w := by rw [Nat.add_mul, Nat.one_mul]
  have hle3 : (o3 + 1) * w ≤ E.length * w := Nat.mul_le_mul_right _ ho3l
  have hcc := oC.c
  have e6 := c_irawElem' (r := r) (H := H1) (a := cl) (b := cd) (c := cc) (n := o3) hw (by omega) (by omega) (by omega) (by omega)
  have hat := uni_at hEu ho3l
  have a1 := hR.addI (c := partAt cc w o3) (s := sX) (oC.blk' hEne) (by show ((w : Nat) : Int) = _; exact hw.symm) (by show w ≤ cc.c - o3 * w; omega) (by show cc.o + o3 * w + w ≤ _; rw [oC.o]; omega)
    (by
      show VE r ((E.flatten.drop (cc.o + o3 * w)).take w)
      rw [oC.o, Nat.zero_add, hat]
      exact hE _ (List.getElem_mem ho3l)) (F1.is (s := sX) (l := M (getE w a.X o1) (getE w b.X o2)) (by simp)) vM
    (fun e => fr_apart (F1.sub (qs := (sX, M (getE w a.X o1) (getE w b.X o2)) :: (cc, E.flatten) :: rs) (List.sublist_cons_self _ _)) (q := (cc, E.flatten)) (by simp) hMne hEne e)
  have hres : putL E.flatten (partAt cc w o3).o (A ((E.flatten.drop (partAt cc w o3).o).take (partAt cc w o3).n) (M (getE w a.X o1) (getE w b.X o2))) = (pairS A M w (strM m a.L a.D) (strM m b.L b.D) (strM m L (L.map dm)) a.X b.X (idxF (m.map dm) (n : Int)) E).flatten := by
    show putL E.flatten (cc.o + o3 * w) (A ((E.flatten.drop (cc.o + o3 * w)).take w) (M (getE w a.X o1) (getE w b.X o2))) = _
    have vA := hR.alg.a (hE _ (List.getElem_mem ho3l)) vM
    rw [oC.o, Nat.zero_add, hat, putL_flat hEu ho3l (by have := vA.1; omega)]
    unfold pairS
    rw [ho1, ho2, ho3]
    simp only [Int.toNat_natCast]
    rw [List.getD_eq_getElem?_getD, List.getElem?_eq_getElem ho3l]
    rfl
  rw [hres] at a1
  have hlen2 : (pairS A M w (strM m a.L a.D) (strM m b.L b.D) (strM m L (L.map dm)) a.X b.X (idxF (m.map dm) (n : Int)) E).flatten.length = E.flatten.length := by
    have hwt : (widthR r).toNat = w := by omega
    have hst := hC.step hR.alg n E hEl hE
    rw [hwt] at hst
    rw [uni_len (ve_uni hw hst.2), hst.1, hfl, hEl]
  have F2 := Fr.mut [(sI, idxF (m.map dm) (n : Int)), (sX, M (getE w a.X o1) (getE w b.X o2))] (ys := rs) F1 (Mut.set oC hEne hlen2) (fun e => absurd e hEne)
  have hbb : (partAt cc w o3).b = cc.b := rfl
  rw [hbb] at a1
  generalize hH2 : H1.set cc.b ⟨ics (pairS A M w (strM m a.L a.D) (strM m b.L b.D) (strM m L (L.map dm)) a.X b.X (idxF (m.map dm) (n : Int)) E).flatten, .rw, 1⟩ = H2 at *
  -- the next index
  have F2 : Fr H0 H2 ((sI, idxF (m.map dm) (n : Int)) :: (sX, M (getE w a.X o1) (getE w b.X o2)) :: (cc, (pairS A M w (strM m a.L a.D) (strM m b.L b.D) (strM m L (L.map dm)) a.X b.X (idxF (m.map dm) (n : Int)) E).flatten) :: rs) := F2
  obtain ⟨H3, e7, m7⟩ := m_inextIndex (F2.is (s := sD) (l := m.map dm) (by simp [rD])) (by simp; omega) (F2.own (s := sI) (l := idxF (m.map dm) (n : Int)) (by simp)) (fun hne => by
    have hine : idxF (m.map dm) (n : Int) ≠ [] := fun e => by
      rw [e] at hil
      exact hne (by rw [List.length_eq_zero_iff.1 (show m.length = 0 from hil.symm)]; rfl)
    exact (fr_apart F2 (q := (sD, m.map dm)) (by simp [rD]) hine hne).symm) (by rw [hil]; simp) (fun x hx => by have := hiv x hx; omega)
  rw [nextF_idx (fun d hd => (hge d hd).1) (by omega) hn] at e7 m7
  have F3 := Fr.mut [] (ys := (sX, M (getE w a.X o1) (getE w b.X o2)) :: (cc, (pairS A M w (strM m a.L a.D) (strM m b.L b.D) (strM m L (L.map dm)) a.X b.X (idxF (m.map dm) (n : Int)) E).flatten) :: rs) F2 m7 (fun e => by
    have h1 := idxF_len (m.map dm) ((n : Int) + 1)
    rw [List.length_map] at h1
    rw [e] at hil
    exact List.length_eq_zero_iff.1 (by rw [h1, ← hil]; rfl))
  refine ⟨M (getE w a.X o1) (getE w b.X o2), H3, ?_, vM.1, F3⟩
  rw [R_eq, e_iContractPair_2, e1]
  simp only [Option.bind_some, one_int]
  rw [e2]
  simp only [Option.bind_some, one_sl]
  rw [e3]
  simp only [Option.bind_some, one_int]
  rw [e4]
  simp only [Option.bind_some, one_sl]
  rw [m1]
  simp only [Option.bind_some]
  rw [e5]
  simp only [Option.bind_some, one_int]
  rw [e6]
  simp only [Option.bind_some, one_sl]
  rw [a1]
  simp only [Option.bind_some]
  rw [e7]
  simp only [Option.bind_some, one_bool]
end Go.Abs
/- Contracts: two tensors are contracted (impl), the call. -/
namespace Go.Abs
set_option linter.all false
set_option maxRecDepth 10000

/-- impl.ContractPair: the products -/
theorem c_iContractPair_2 {r : Rg} {A M : List Int → List Int → List Int} {dm : Int → Int} {a b : Tn} {m L : List Int} (hR : RC r A M) (hC : PairC r dm a b m L) (hml : m.length ≤ 100) (hL : DimsOk (L.map dm)) {w : Nat} (hw : widthR r = (w : Int))
    {H0 : AH} {aa ab ac ba bb bc : Sl} (ha : TS H0 aa ab ac a) (hb : TS H0 ba bb bc b) {sD ssa ssb sso sI sX cl cd cc z1 z2 z3 : Sl} {rs : List Row} (rD : (sD, m.map dm) ∈ rs) (ra : (ssa, strM m a.L a.D) ∈ rs) (rb : (ssb, strM m b.L b.D) ∈ rs) (ro : (sso, strM m L (L.map dm)) ∈ rs) :
    ∀ (k n : Nat) (H : AH) (xs : List Int) (E : List (List Int)), ((n + k + 1 : Nat) : Int) = prd (m.map dm) → (xs.length : Int) = widthR r → E.length = (prd (L.map dm)).toNat → (∀ e ∈ E, VE r e) → Fr H0 H ((sI, idxF (m.map dm) (n : Int)) :: (sX, xs) :: (cc, E.flatten) :: rs) →
      ∃ xs' I' H', R (.loop F.iContractPair 2) [ssc sD, ssc ssa, ssc ssb, ssc sso, ssc sI, ssc sX, r.pv, tpv aa ab ac, tpv ba bb bc, tpv z1 z2 z3, tpv cl cd cc] H = some ⟨1, [bsc true, tpv cl cd cc], H'⟩ ∧
        Fr H0 H' ((sI, I') :: (sX, xs') :: (cc, (pairR (pairS A M w (strM m a.L a.D) (strM m b.L b.D) (strM m L (L.map dm)) a.X b.X) (m.map dm) (k + 1) n E).flatten) :: rs)
  | 0, n, H, xs, E, hn, hx, hEl, hE, hF => by
    obtain ⟨xs', H', e, x1, F1⟩ := c_iContractPair_s (z1 := z1) (z2 := z2) (z3 := z3) hR hC hml hL hw ha hb rD ra rb ro (n := n) (by omega) hx hEl hE hF
    refine ⟨xs', _, H', ?_, F1⟩
    rw [e, decide_eq_false (show ¬ (n : Int) + 1 < prd (m.map dm) by omega)]
    rfl
  | k + 1, n, H, xs, E, hn, hx, hEl, hE, hF => by
    obtain ⟨xs', H', e, x1, F1⟩ := c_iContractPair_s (z1 := z1) (z2 := z2) (z3 := z3) hR hC hml hL hw ha hb rD ra rb ro (n := n) (by omega) hx hEl hE hF
    have hst := hC.step hR.alg n E hEl hE
    have hwt : (widthR r).toNat = w := by omega
    rw [hwt] at hst
    obtain ⟨xs2, I2, H2, e2, F2⟩ := c_iContractPair_2 hR hC hml hL hw ha hb rD ra rb ro k (n + 1) H' xs' _ (by omega) x1 hst.1 hst.2 F1
    refine ⟨xs2, I2, H2, ?_, F2⟩
    rw [e, decide_eq_true (show (n : Int) + 1 < prd (m.map dm) by omega)]
    exact e2
/-- impl.ContractPair: the sizes that are kept -/
theorem c_iContractPair_1 {H1 : AH} {sD sm cl c3 : Sl} {m L : List Int} {dm : Int → Int} (hD : IS H1 sD (m.map dm)) (hm : IS H1 sm m) (hml : m.length ≤ 1000) {k : Nat} {l : Int} {X : List Int} (hk : k < X.length) (hX : X.length = L.length) (hlm : l ∈ m) :
    R (.loop F.iContractPair 1) [ssc sD, isc (k : Int), isc l, ssc sm, isc (m.length : Int), isc 0, tpv cl ⟨H1.length, 0, L.length, L.length, true⟩ c3] (H1 ++ [⟨ics X, .rw, 1⟩]) = some ⟨4, [], H1 ++ [⟨ics (X.set k (dm l)), .rw, 1⟩]⟩ := by
  have loop : ∀ (j i : Nat), i + j = m.length → R (.loop F.iContractPair 1) [ssc sD, isc (k : Int), isc l, ssc sm, isc (m.length : Int), isc (i : Int), tpv cl ⟨H1.length, 0, L.length, L.length, true⟩ c3] (H1 ++ [⟨ics (if l ∈ m.take i then X.set k (dm l) else X), .rw, 1⟩]) = some ⟨4, [], H1 ++ [⟨ics (X.set k (dm l)), .rw, 1⟩]⟩ := by
    intro j
    induction j with
    | zero =>
      intro i hi
      obtain rfl : i = m.length := by omega
      rw [R_eq, e_iContractPair_1, lt_self, List.take_length, if_pos hlm]
      rfl
    | succ j ih =>
      intro i hi
      have hlt : i < m.length := by omega
      have hlt2 : i < (m.map dm).length := by simpa using hlt
      generalize hX2 : (if l ∈ m.take i then X.set k (dm l) else X) = X2
      have hl2 : X2.length = X.length := by rw [← hX2]; split <;> simp
      have le := Go.Abs.Le.app H1 [⟨ics X2, .rw, 1⟩]
      have hnext : (if l ∈ m.take (i + 1) then X.set k (dm l) else X) = if m[i] = l then X2.set k (dm l) else X2 := by
        rw [take_snoc' hlt, ← hX2]
        by_cases h1 : m[i] = l
        · rw [if_pos (List.mem_append.2 (.inr (by simp [h1]))), if_pos h1]
          split <;> simp
        · rw [if_neg h1]
          by_cases h2 : l ∈ m.take i
          · rw [if_pos (List.mem_append.2 (.inl h2)), if_pos h2]
          · rw [if_neg h2, if_neg]
            intro h3
            rcases List.mem_append.1 h3 with h3 | h3
            · exact h2 h3
            · simp at h3; exact h1 h3.symm
      have ih := ih (i + 1) (by omega)
      rw [hnext] at ih
      rw [R_eq, e_iContractPair_1, lt_true hlt, w1 hlt (by omega), cond_true, (hm.le le).ldk hlt]
      by_cases h1 : m[i] = l
      · rw [if_pos h1] at ih
        have hb : (m[i] == l) = true := by simpa using h1
        rw [hb, cond_true, (hD.le le).ldk hlt2, List.getElem_map, h1, st_own0 app_get (by omega) (by omega), app_set]
        exact ih
      · rw [if_neg h1] at ih
        have hb : (m[i] == l) = false := by simpa using h1
        rw [hb, cond_false]
        exact ih
  have := loop m.length 0 (by omega)
  simpa using this
theorem c_iContractPair_0 {H1 : AH} {sD sm cl c3 : Sl} {m L : List Int} {dm : Int → Int} (hD : IS H1 sD (m.map dm)) (hm : IS H1 sm m) (hL : IS H1 cl L) (hml : m.length ≤ 1000) (hll : L.length ≤ 1000) (hlm : ∀ x ∈ L, x ∈ m) :
    ∀ (j k : Nat), k + j = L.length → R (.loop F.iContractPair 0) [ssc sm, ssc sD, ssc cl, isc (L.length : Int), isc (k : Int), tpv cl ⟨H1.length, 0, L.length, L.length, true⟩ c3] (H1 ++ [⟨ics ((L.take k).map dm ++ List.replicate j 0), .rw, 1⟩]) = some ⟨2, [], H1 ++ [⟨ics (L.map dm), .rw, 1⟩]⟩
  | 0, k, hk => by
    obtain rfl : k = L.length := by omega
    rw [R_eq, e_iContractPair_0, lt_self, List.take_length]
    simp
  | j + 1, k, hk => by
    have hlt : k < L.length := by omega
    have le := Go.Abs.Le.app H1 [⟨ics ((L.take k).map dm ++ List.replicate (j + 1) 0), .rw, 1⟩]
    have hset : ((L.take k).map dm ++ List.replicate (j + 1) 0).set k (dm L[k]) = (L.take (k + 1)).map dm ++ List.replicate j 0 := by
      rw [take_snoc' hlt, List.map_append, List.set_append_right _ _ (by simp; omega)]
      have : k - ((L.take k).map dm).length = 0 := by simp; omega
      rw [this]
      simp [List.replicate_succ]
    have e1 := c_iContractPair_1 (cl := cl) (c3 := c3) (L := L) hD hm hml (k := k) (l := L[k]) (X := (L.take k).map dm ++ List.replicate (j + 1) 0) (by simp; omega) (by simp; omega) (hlm _ (List.getElem_mem hlt))
    rw [hset] at e1
    rw [R_eq, e_iContractPair_0, lt_true hlt, w1 hlt (by omega), cond_true, (hL.le le).ldk hlt]
    rw [hm.n, e1]
    simp only [Option.bind_some, Nat.beq, cond_true]
    exact c_iContractPair_0 hD hm hL hml hll hlm j (k + 1) (by omega)
theorem t_ssb2 {α : Type} (a b : Sl) (q : Bool) (K : Sl → Sl → Bool → Option α) : ((lenP [ssc a, ssc b, bsc q] 3).bind fun _ => (nthP [ssc a, ssc b, bsc q] 0).bind fun p10 => p10.sc?.bind fun c11 => (slAt [c11] 0).bind fun s12 => (nthP [ssc a, ssc b, bsc q] 1).bind fun p13 => p13.sc?.bind fun c14 => (slAt [c14] 0).bind fun s15 => (nthP [ssc a, ssc b, bsc q] 2).bind fun p16 => p16.sc?.bind fun c17 => (boolAt [c17] 0).bind fun b18 => K s12 s15 b18) = K a b q := rfl
/-- impl.ContractPair -/
theorem c_iContractPair {r : Rg} {A M : List Int → List Int → List Int} {dm : Int → Int} {a b : Tn} {K : List Int} (hR : RC r A M) {H : AH} {aa ab ac ba bb bc sk : Sl} (ha : TS H aa ab ac a) (hb : TS H ba bb bc b) (ca : CT r dm a) (cb : CT r dm b) (hk : IS H sk K) (hK : K.length ≤ 1048576) :
    (pairB dm a b K = true ∧ ∃ a' b' c' H', R (.fn F.iContractPair) [r.pv, tpv aa ab ac, tpv ba bb bc, ssc sk] H = some ⟨1, [tpv a' b' c', bsc true], H'⟩ ∧ NewT H H' a' b' c' (ctrT r A M dm a b K)) ∨
    (pairB dm a b K = false ∧ ∃ H', R (.fn F.iContractPair) [r.pv, tpv aa ab ac, tpv ba bb bc, ssc sk] H = some ⟨1, [tpv ⟨0, 0, 0, 0, true⟩ ⟨0, 0, 0, 0, true⟩ ⟨0, 0, 0, 0, true⟩, bsc false], H'⟩ ∧ Go.Abs.Le H H') := by
  have hC := pairC_of ca cb K
  have hwr := width_range hR.alg.rg
  obtain ⟨w, hw⟩ : ∃ w : Nat, widthR r = (w : Int) := ⟨(widthR r).toNat, by omega⟩
  have la := ca.len; have lb := cb.len
  have hTa := tensor_ok ca.ok
  have hTb := tensor_ok cb.ok
  have hjl := joinL_len a.L b.L
  have e1 := c_iTensorOk r ha
  rw [ca.ok] at e1
  have e2 := c_iTensorOk r hb
  rw [cb.ok] at e2
  have hDa := ha.D
  rw [ca.d] at hDa
  have hDb := hb.D
  rw [cb.d] at hDb
  obtain ⟨sm, sD, H1, e3, F1⟩ := c_ijoinAxes (c := ac) (c' := bc) ha.L hDa hb.L hDb (by omega)
  have hpj := prd_join (fun x hx => (ca.labs x hx).2.2.1) (fun x hx => (cb.labs x hx).2.2.1) (by rw [← ca.d]; exact hTa.d.2.2) (by rw [← cb.d]; exact hTb.d.2.2)
  have hgem : ∀ d ∈ (joinL a.L b.L).map dm, 1 ≤ d ∧ d ≤ 8 := fun d hd => by
    obtain ⟨x, hx, rfl⟩ := List.mem_map.1 hd
    exact (hC.labs x hx).2.2
  have e4 := c_iproductOf2 (F1.is (s := sD) (l := (joinL a.L b.L).map dm) (by simp)) (by simp; omega) (fun d hd => (hgem d hd).1) (by omega)
  unfold pairB ctrT
  have hkl : (keepF (joinL a.L b.L) K).length ≤ (joinL a.L b.L).length := List.length_filter_le _ _
  unfold pairE
  generalize hm : joinL a.L b.L = m at *
  have start : ∀ v : Option Out, (R (.fn F.iContractPair) [r.pv, tpv aa ab ac, tpv ba bb bc, ssc sk] H = v) ↔ (R (.fn F.iContractPair) [r.pv, tpv aa ab ac, tpv ba bb bc, ssc sk] H = v) := fun _ => Iff.rfl
  by_cases hbig : prd (m.map dm) > 65536
  · refine .inr ⟨by rw [decide_eq_false (show ¬ prd (m.map dm) ≤ 65536 by omega)]; rfl, H1, ?_, F1.le⟩
    rw [R_eq, e_iContractPair, e1]
    simp only [Option.bind_some, one_bool, Bool.not_true, cond_false]
    rw [e2]
    simp only [Option.bind_some, one_bool, Bool.not_true, cond_false]
    rw [e3]
    simp only [Option.bind_some, t_ssb2, Bool.not_true, cond_false]
    rw [e4]
    simp only [Option.bind_some, one_int, decide_eq_true hbig, cond_true]
  · have hsml : prd (m.map dm) ≤ 65536 := by omega
    obtain ⟨cl, H2, e5, o5, l5⟩ := c_ikeptOnly (F1.is (s := sm) (l := m) (by simp)) (hk.le F1.le) (by omega) hK
    have F2 := F1.new l5 o5
    generalize hLL : keepF m K = L at *
    have F3 := F2.mk0 L.length
    have e6 := c_iContractPair_0 (c3 := ⟨0, 0, 0, 0, true⟩) (F2.is (s := sD) (l := m.map dm) (by simp)) (F2.is (s := sm) (l := m) (by simp)) (F2.is (s := cl) (l := L) (by simp)) (by omega) (by omega) hC.ml L.length 0 (by omega)
    have nw := new_app H2 (L.map dm)
    unfold rowAt at nw
    rw [List.length_map] at nw
    have F4 := F2.newN nw
    generalize hH3 : H2 ++ [⟨ics (L.map dm), .rw, 1⟩] = H3 at *
    have e7 := c_iTensorSize (c := ⟨0, 0, 0, 0, true⟩) (F4.is (s := cl) (l := L) (by simp)) (F4.is (s := ⟨H2.length, 0, L.length, L.length, true⟩) (l := L.map dm) (by simp))
    have e6 : R (.loop F.iContractPair 0) [ssc sm, ssc sD, ssc cl, isc (L.length : Int), isc 0, tpv cl ⟨H2.length, 0, L.length, L.length, true⟩ ⟨0, 0, 0, 0, true⟩] (H2 ++ [⟨ics (List.replicate L.length 0), .rw, 1⟩]) = _ := e6
    by_cases hsz : sizeB L (L.map dm) = -1
    · refine .inr ⟨by rw [decide_eq_false (show ¬ sizeB L (L.map dm) ≠ -1 by simp [hsz])]; simp, H3, ?_, F4.le⟩
      rw [R_eq, e_iContractPair, e1]
      simp only [Option.bind_some, one_bool, Bool.not_true, cond_false]
      rw [e2]
      simp only [Option.bind_some, one_bool, Bool.not_true, cond_false]
      rw [e3]
      simp only [Option.bind_some, t_ssb2, Bool.not_true, cond_false]
      rw [e4]
      simp only [Option.bind_some, one_int, decide_eq_false hbig, cond_false]
      rw [e5]
      simp only [Option.bind_some, one_sl]
      rw [o5.n, mk_ints (by omega)]
      simp only [Option.bind_some]
      rw [e6]
      simp only [Option.bind_some, Nat.beq, cond_true]
      rw [e7, hsz]
      rfl
    · obtain ⟨f1, f2⟩ := size_facts hsz
      have hszb : (sizeB L (L.map dm) == -1) = false := by simpa using hsz
      obtain ⟨sz, H4, e8, n8⟩ := c_irawZero hR.alg.rg H3
      have F5 := F4.newN n8
      obtain ⟨fa, fb, fc, H5, e9, n9⟩ := c_ifillTensor (r := r) (w := w) (F5.is (s := cl) (l := L) (by simp)) (F5.is (s := ⟨H2.length, 0, L.length, L.length, true⟩) (l := L.map dm) (by simp)) (F5.is (s := sz) (l := zeroR r) (by simp)) (by omega) f2 (by omega) (by omega) (by rw [zeroR_len]; omega)
      have F6 := F5.newT n9
      have hpn := prd_pos f2.ge
      have i6 : ∀ {s : Sl} {l : List Int}, (s, l) ∈ ((fa, L) :: (fb, L.map dm) :: (fc, (List.replicate (prd (L.map dm)).toNat (zeroR r)).flatten) :: (sz, zeroR r) :: (⟨H2.length, 0, L.length, L.length, true⟩, L.map dm) :: (cl, L) :: (sD, m.map dm) :: (sm, m) :: ([] : List Row)) → IS H5 s l := fun h => F6.is h
      have e10 := c_istridesOf2 (c := ac) (ha.L.le F6.le) (ha.D.le F6.le) (i6 (s := sm) (l := m) (by simp)) (by omega) (by omega) hTa.d
      have n10 := new_app H5 (strM m a.L a.D)
      unfold rowAt at n10
      rw [strM_len] at n10
      have F7 := F6.newN n10
      generalize hH6 : H5 ++ [⟨ics (strM m a.L a.D), .rw, 1⟩] = H6 at *
      have e11 := c_istridesOf2 (c := bc) (hb.L.le F7.le) (hb.D.le F7.le) (F7.is (s := sm) (l := m) (by simp)) (by omega) (by omega) hTb.d
      have n11 := new_app H6 (strM m b.L b.D)
      unfold rowAt at n11
      rw [strM_len] at n11
      have F8 := F7.newN n11
      generalize hH7 : H6 ++ [⟨ics (strM m b.L b.D), .rw, 1⟩] = H7 at *
      have e12 := c_istridesOf2 (c := fc) (F8.is (s := fa) (l := L) (by simp)) (F8.is (s := fb) (l := L.map dm) (by simp)) (F8.is (s := sm) (l := m) (by simp)) (by omega) (by simp) f2
      have n12 := new_app H7 (strM m L (L.map dm))
      unfold rowAt at n12
      rw [strM_len] at n12
      have F9 := F8.newN n12
      generalize hH8 : H7 ++ [⟨ics (strM m L (L.map dm)), .rw, 1⟩] = H8 at *
      have F10 := F9.mk0 m.length
      generalize hH9 : H8 ++ [⟨ics (List.replicate m.length 0), .rw, 1⟩] = H9 at *
      have F11 := F10.mk0 w
      have hidx : List.replicate m.length (0 : Int) = idxF (m.map dm) ((0 : Nat) : Int) := by
        have := idxF_zero (m.map dm)
        rw [List.length_map] at this
        exact this.symm
      rw [hidx] at F11
      -- the rows in the order of the walk
      have F12 : Fr H (H9 ++ [⟨ics (List.replicate w 0), .rw, 1⟩]) ((⟨H8.length, 0, m.length, m.length, true⟩, idxF (m.map dm) ((0 : Nat) : Int)) :: (⟨H9.length, 0, w, w, true⟩, List.replicate w 0) :: (fc, (List.replicate (prd (L.map dm)).toNat (zeroR r)).flatten) ::
          [(⟨H7.length, 0, m.length, m.length, true⟩, strM m L (L.map dm)), (⟨H6.length, 0, m.length, m.length, true⟩, strM m b.L b.D), (⟨H5.length, 0, m.length, m.length, true⟩, strM m a.L a.D), (fa, L), (fb, L.map dm), (sz, zeroR r), (⟨H2.length, 0, L.length, L.length, true⟩, L.map dm), (cl, L), (sD, m.map dm), (sm, m)]) := by
        refine F11.perm ?_
        refine (List.Perm.swap _ _ _).trans (.cons _ (.cons _ ?_))
        exact List.perm_middle (l₁ := [(⟨H7.length, 0, m.length, m.length, true⟩, strM m L (L.map dm)), (⟨H6.length, 0, m.length, m.length, true⟩, strM m b.L b.D), (⟨H5.length, 0, m.length, m.length, true⟩, strM m a.L a.D), (fa, L), (fb, L.map dm)]) |>.symm
      have hN := prd_pos (a := m.map dm) fun d hd => (hgem d hd).1
      obtain ⟨xs', I', H', e13, F13⟩ := c_iContractPair_2 (z1 := ⟨0, 0, 0, 0, true⟩) (z2 := ⟨0, 0, 0, 0, true⟩) (z3 := ⟨0, 0, 0, 0, true⟩) (cl := fa) (cd := fb) hR hC (by omega) f2 hw ha hb (sD := sD) (ssa := ⟨H5.length, 0, m.length, m.length, true⟩) (ssb := ⟨H6.length, 0, m.length, m.length, true⟩) (sso := ⟨H7.length, 0, m.length, m.length, true⟩)
        (by simp) (by simp) (by simp) (by simp) ((prd (m.map dm)).toNat - 1) 0 _ (List.replicate w 0) (List.replicate (prd (L.map dm)).toNat (zeroR r)) (by omega) (by simp; omega) (by simp) (fun e he => by rw [(List.mem_replicate.1 he).2]; exact hR.alg.z) F12
      have hk1 : (prd (m.map dm)).toNat - 1 + 1 = (prd (m.map dm)).toNat := by omega
      rw [hk1] at F13
      have hwt : (widthR r).toNat = w := by omega
      refine .inl ⟨by rw [decide_eq_true hsml, decide_eq_true (show sizeB L (L.map dm) ≠ -1 from hsz)]; rfl, fa, fb, fc, H', ?_, ⟨F13.le, ?_⟩⟩
      · rw [R_eq, e_iContractPair, e1]
        simp only [Option.bind_some, one_bool, Bool.not_true, cond_false]
        rw [e2]
        simp only [Option.bind_some, one_bool, Bool.not_true, cond_false]
        rw [e3]
        simp only [Option.bind_some, t_ssb2, Bool.not_true, cond_false]
        rw [e4]
        simp only [Option.bind_some, one_int, decide_eq_false hbig, cond_false]
        rw [e5]
        simp only [Option.bind_some, one_sl]
        rw [o5.n, mk_ints (by omega)]
        simp only [Option.bind_some]
        rw [e6]
        simp only [Option.bind_some, Nat.beq, cond_true]
        rw [e7]
        simp only [Option.bind_some, one_int, hszb, cond_false]
        rw [e8]
        simp only [Option.bind_some, one_sl]
        rw [e9]
        simp only [Option.bind_some, o_sss]
        rw [e10]
        simp only [Option.bind_some, one_sl]
        rw [e11]
        simp only [Option.bind_some, one_sl]
        rw [e12]
        simp only [Option.bind_some, one_sl]
        rw [(F1.own (s := sm) (l := m) (by simp)).n, mk_ints (by omega)]
        simp only [Option.bind_some]
        rw [hH9, c_irawWidth]
        simp only [Option.bind_some, one_int]
        rw [hw, mk_ints (by omega)]
        simp only [Option.bind_some]
        rw [e13]
        simp only [Option.bind_some, Nat.beq, cond_true]
        rfl
      · have S : ([(fc, (pairR (pairS A M w (strM m a.L a.D) (strM m b.L b.D) (strM m L (L.map dm)) a.X b.X) (m.map dm) (prd (m.map dm)).toNat 0 (List.replicate (prd (L.map dm)).toNat (zeroR r))).flatten), (fa, L), (fb, L.map dm)] : List Row).Sublist
            ((⟨H8.length, 0, m.length, m.length, true⟩, I') :: (⟨H9.length, 0, w, w, true⟩, xs') :: (fc, (pairR (pairS A M w (strM m a.L a.D) (strM m b.L b.D) (strM m L (L.map dm)) a.X b.X) (m.map dm) (prd (m.map dm)).toNat 0 (List.replicate (prd (L.map dm)).toNat (zeroR r))).flatten) ::
          [(⟨H7.length, 0, m.length, m.length, true⟩, strM m L (L.map dm)), (⟨H6.length, 0, m.length, m.length, true⟩, strM m b.L b.D), (⟨H5.length, 0, m.length, m.length, true⟩, strM m a.L a.D), (fa, L), (fb, L.map dm), (sz, zeroR r), (⟨H2.length, 0, L.length, L.length, true⟩, L.map dm), (cl, L), (sD, m.map dm), (sm, m)]) := by
          refine .cons _ (.cons _ (.cons₂ _ (.cons _ (.cons _ (.cons _ (.cons₂ _ (.cons₂ _ ?_)))))))
          exact List.nil_sublist _
        have := (F13.sub S).rows
        rw [hwt]
        refine this.perm ?_
        exact (List.perm_append_comm (l₁ := [(fa, L), (fb, L.map dm)]) (l₂ := [(fc, _)]))
end Go.Abs
/- Contracts: two tensors are contracted (spec): steps of axes, sums, the next index. -/
namespace Go.Abs
set_option linter.all false
set_option maxRecDepth 10000

theorem nodup_inj {m : List Int} (h : m.Nodup) {i j : Nat} (hi : i < m.length) (hj : j < m.length) (e : m[i] = m[j]) : i = j := by
  have hp := List.pairwise_iff_getElem.1 (List.nodup_iff_pairwise_ne.1 h)
  rcases Nat.lt_trichotomy i j with h1 | h1 | h1
  · exact absurd e (hp i j hi hj h1)
  · exact h1
  · exact absurd e.symm (hp j i hj hi h1)
theorem updS_find {m S : List Int} (hm : m.Nodup) (hS : S.length = m.length) (l step : Int) : updS m S l step = if 0 ≤ findF m l 0 then S.set (findF m l 0).toNat step else S := by
  by_cases hf : 0 ≤ findF m l 0
  · rw [if_pos hf]
    obtain ⟨j, hj⟩ : ∃ j : Nat, findF m l 0 = (j : Int) := ⟨(findF m l 0).toNat, by omega⟩
    obtain ⟨_, hjl, hjx⟩ := findF_at hj
    simp only [Nat.sub_zero] at hjl hjx
    rw [hj, Int.toNat_natCast]
    refine List.ext_getElem (by simp [updS, hS]) fun i h1 h2 => ?_
    have hi : i < m.length := by rw [updS_len hS] at h1; exact h1
    simp only [updS, List.getElem_map, List.getElem_zip, List.getElem_set]
    by_cases e : j = i
    · subst e; simp [hjx]
    · rw [if_neg e, if_neg]
      intro h
      have h : m[i] = l := by simpa using h
      exact e (nodup_inj hm hjl hi (hjx.trans h.symm))
  · rw [if_neg hf]
    have hn : l ∉ m := fun h => hf ((findF_mem m l 0).2 h)
    refine List.ext_getElem (by simp [updS, hS]) fun i h1 h2 => ?_
    have hi : i < m.length := by omega
    simp only [updS, List.getElem_map, List.getElem_zip]
    rw [if_neg]
    intro h
    have h : m[i] = l := by simpa using h
    exact hn (h ▸ List.getElem_mem hi)
/-- spec.l08Steps -/
theorem c_sl08Steps {H : AH} {a b c ms : Sl} {L D m : List Int} (hL : IS H a L) (hD : IS H b D) (hm : IS H ms m) (hnd : m.Nodup) (hml : m.length ≤ 100) (hl : L.length = D.length) (hd : DimsOk D) :
    R (.fn F.sl08Steps) [tpv a b c, ssc ms] H = some ⟨1, [ssc ⟨H.length, 0, m.length, m.length, true⟩], H ++ [⟨ics (strM m L D), .rw, 1⟩]⟩ := by
  have hdl := hd.1
  have loop : ∀ (k : Nat) (step : Int) (S : List Int), k ≤ D.length → S.length = m.length → 1 ≤ step → step * prd (D.take k) ≤ 4096 →
      R (.loop F.sl08Steps 0) [ssc ms, ssc ⟨H.length, 0, m.length, m.length, true⟩, isc step, isc ((k : Int) - 1), tpv a b c] (H ++ [⟨ics S, .rw, 1⟩]) = some ⟨2, [], H ++ [⟨ics (strG m (L.take k).reverse (D.take k).reverse step S), .rw, 1⟩]⟩ := by
    intro k
    induction k with
    | zero =>
      intro step S hk hS h1 h2
      rw [R_eq, e_sl08Steps_0, ge_false]
      simp [strG]
    | succ k ih =>
      intro step S hk hS h1 h2
      have hlt : k < D.length := by omega
      have hlt2 : k < L.length := by omega
      have hdk := hd.2.1 D[k] (List.getElem_mem hlt)
      rw [take_snoc' hlt, prd_app] at h2
      have hp := prd_pos (a := D.take k) fun x hx => hd.ge x (List.mem_of_mem_take hx)
      have e0 : prd [D[k]] = D[k] := by simp [prd]
      rw [e0, Int.mul_comm (prd (D.take k)), ← Int.mul_assoc] at h2
      have h3 : 1 * 1 ≤ step * D[k] := Int.mul_le_mul h1 hdk.1 (by omega) (by omega)
      have h4 : step * D[k] * 1 ≤ step * D[k] * prd (D.take k) := Int.mul_le_mul_of_nonneg_left hp (by omega)
      have ew : IntKind.wrap .i64 (step * D[k]) = step * D[k] := by rw [wrap_id] <;> omega
      have le1 := Go.Abs.Le.app H [⟨ics S, .rw, 1⟩]
      have ef := c_sl05Find (hm.le le1) (by omega) L[k]
      have hu := updS_find hnd hS L[k] step
      have ih := ih (step * D[k]) (updS m S L[k] step) (by omega) (updS_len hS _ _) (by omega) h2
      have hg : strG m (L.take (k + 1)).reverse (D.take (k + 1)).reverse step S = strG m (L.take k).reverse (D.take k).reverse (step * D[k]) (updS m S L[k] step) := by
        rw [take_snoc' hlt, take_snoc' hlt2, List.reverse_append, List.reverse_append]
        rfl
      rw [← hg] at ih
      rw [R_eq, e_sl08Steps_0, ge_true, cond_true, down1, (hL.le le1).ldk hlt2, ef]
      simp only [Option.bind_some, one_int]
      by_cases hf : 0 ≤ findF m L[k] 0
      · rw [if_pos hf] at hu
        obtain ⟨j, hj⟩ : ∃ j : Nat, findF m L[k] 0 = (j : Int) := ⟨(findF m L[k] 0).toNat, by omega⟩
        obtain ⟨_, hjl, _⟩ := findF_at hj
        simp only [Nat.sub_zero] at hjl
        rw [hj, Int.toNat_natCast] at hu
        rw [hj, decide_eq_true (show (j : Int) ≥ 0 by omega), cond_true, st_own0 app_get hjl (by omega), app_set, ← hu]
        simp only [Option.bind_some, Nat.beq, cond_true]
        rw [(hD.le (Go.Abs.Le.app H _)).ldk hlt, ew, wdown (by omega)]
        exact ih
      · rw [if_neg hf] at hu
        rw [decide_eq_false (show ¬ findF m L[k] 0 ≥ 0 from hf)]
        simp only [cond_false, Option.bind_some, Nat.beq, cond_true]
        rw [(hD.le le1).ldk hlt, ew, wdown (by omega)]
        rw [hu] at ih
        exact ih
  have e := loop D.length 1 (List.replicate m.length 0) (Nat.le_refl _) (by simp) (by omega) (by rw [List.take_length, Int.one_mul]; exact hd.2.2)
  rw [List.take_length, show L.take D.length = L by rw [← hl, List.take_length]] at e
  rw [R_eq, e_sl08Steps, hm.n, mk_ints (by omega)]
  simp only [Option.bind_some]
  rw [hL.n, hl, wdown (by omega), e]
  rfl
/-- spec.l08Pair: three places of an index -/
theorem c_sl08Pair_1 {H : AH} {sa sb so sI : Sl} {SA SB SO I : List Int} (hA : IS H sa SA) (hB : IS H sb SB) (hO : IS H so SO) (hI : IS H sI I) (l1 : SA.length = I.length) (l2 : SB.length = I.length) (l3 : SO.length = I.length) (hl : I.length ≤ 100)
    (ga : ∀ x ∈ SA, 0 ≤ x ∧ x ≤ 4096) (gb : ∀ x ∈ SB, 0 ≤ x ∧ x ≤ 4096) (go : ∀ x ∈ SO, 0 ≤ x ∧ x ≤ 4096) (gi : ∀ x ∈ I, 0 ≤ x ∧ x ≤ 8) :
    R (.loop F.sl08Pair 1) [ssc sa, ssc sb, ssc so, isc 0, isc 0, isc 0, ssc sI, isc (I.length : Int), isc 0] H = some ⟨4, [isc (dotL SA I), isc (dotL SB I), isc (dotL SO I)], H⟩ := by
  have loop : ∀ (k i : Nat), i + k = I.length → ∀ x y z : Int, 0 ≤ x → x ≤ 32768 * i → 0 ≤ y → y ≤ 32768 * i → 0 ≤ z → z ≤ 32768 * i →
      R (.loop F.sl08Pair 1) [ssc sa, ssc sb, ssc so, isc x, isc y, isc z, ssc sI, isc (I.length : Int), isc (i : Int)] H = some ⟨4, [isc (x + dotL (SA.drop i) (I.drop i)), isc (y + dotL (SB.drop i) (I.drop i)), isc (z + dotL (SO.drop i) (I.drop i))], H⟩ := by
    intro k
    induction k with
    | zero =>
      intro i hi x y z _ _ _ _ _ _
      obtain rfl : i = I.length := by omega
      rw [R_eq, e_sl08Pair_1, lt_self, List.drop_eq_nil_of_le (show SA.length ≤ I.length by omega), List.drop_eq_nil_of_le (show SB.length ≤ I.length by omega), List.drop_eq_nil_of_le (show SO.length ≤ I.length by omega)]
      simp [dotL]
    | succ k ih =>
      intro i hi x y z x0 x1 y0 y1 z0 z1
      have h2 : i < I.length := by omega
      have h3 : i < SA.length := by omega
      have h4 : i < SB.length := by omega
      have h5 : i < SO.length := by omega
      have q := gi I[i] (List.getElem_mem h2)
      have key : ∀ s v : Int, 0 ≤ s ∧ s ≤ 4096 → 0 ≤ v → v ≤ 32768 * i → IntKind.wrap .i64 (I[i] * s) = I[i] * s ∧ IntKind.wrap .i64 (v + I[i] * s) = v + s * I[i] ∧ 0 ≤ v + s * I[i] ∧ v + s * I[i] ≤ 32768 * ((i + 1 : Nat) : Int) := fun s v hs v0 v1 => by
        have q3 : 0 ≤ s * I[i] := Int.mul_nonneg hs.1 q.1
        have q4 : s * I[i] ≤ 4096 * 8 := Int.mul_le_mul hs.2 q.2 q.1 (by omega)
        have e : I[i] * s = s * I[i] := Int.mul_comm _ _
        rw [e]
        refine ⟨by rw [wrap_id] <;> omega, by rw [wrap_id] <;> omega, by omega, by omega⟩
      obtain ⟨a1, a2, a3, a4⟩ := key SA[i] x (ga _ (List.getElem_mem h3)) x0 x1
      obtain ⟨b1, b2, b3, b4⟩ := key SB[i] y (gb _ (List.getElem_mem h4)) y0 y1
      obtain ⟨c1, c2, c3, c4⟩ := key SO[i] z (go _ (List.getElem_mem h5)) z0 z1
      rw [R_eq, e_sl08Pair_1, lt_true h2, w1 h2 (by omega), cond_true, hI.ldk h2, hA.ldk h3, hB.ldk h4, hO.ldk h5, a1, a2, b1, b2, c1, c2]
      rw [ih (i + 1) (by omega) _ _ _ a3 a4 b3 b4 c3 c4, List.drop_eq_getElem_cons h2, List.drop_eq_getElem_cons h3, List.drop_eq_getElem_cons h4, List.drop_eq_getElem_cons h5]
      simp only [dotL]
      rw [Int.add_assoc, Int.add_assoc, Int.add_assoc]
  have := loop I.length 0 (by omega) 0 0 0 (by omega) (by omega) (by omega) (by omega) (by omega) (by omega)
  simpa using this
/-- spec.l08Pair: the next index -/
theorem c_sl08Pair_2 {H : AH} {s : Sl} {D I : List Int} {b : Nat} {x : Bool} (h : IS H s D) (hl : D.length ≤ 1048576) (hb : H[b]? = some ⟨ics I, .rw, 1⟩) (hs : D ≠ [] → s.b ≠ b) (hi : I.length = D.length) (hx : ∀ x ∈ I, 0 ≤ x ∧ x ≤ 1048576) :
    R (.loop F.sl08Pair 2) [ssc s, ssc ⟨b, 0, I.length, I.length, x⟩, isc ((D.length : Int) - 1)] H = some ⟨6, [], H.set b ⟨ics (nextF D I).2, .rw, 1⟩⟩ := by
  have key : ∀ (k : Nat) (out : List Int), k ≤ D.length → out.length = D.length → (∀ (j : Nat) (h : j < I.length) (h' : j < out.length), j < k → out[j] = I[j]) →
      R (.loop F.sl08Pair 2) [ssc s, ssc ⟨b, 0, I.length, I.length, x⟩, isc ((k : Int) - 1)] (H.set b ⟨ics out, .rw, 1⟩) =
        some ⟨6, [], H.set b ⟨ics ((nextF (D.take k) (I.take k)).2 ++ out.drop k), .rw, 1⟩⟩ := by
    intro k
    induction k with
    | zero =>
      intro out hk ho hj
      rw [R_eq, e_sl08Pair_2, ge_false]
      simp [nextF, nextR]
    | succ k ih =>
      intro out hk ho hj
      have h1 : k < D.length := by omega
      have h2 : k < I.length := by omega
      have hxk := hx I[k] (List.getElem_mem h2)
      have hne : D ≠ [] := fun e => by rw [e] at h1; simp at h1
      have ew : IntKind.wrap .i64 (I[k] + 1) = I[k] + 1 := by rw [wrap_id] <;> omega
      have hok : out[k]'(by omega) = I[k] := hj k h2 (by omega) (by omega)
      rw [R_eq, e_sl08Pair_2, ge_true, cond_true, down1]
      rw [ld_own0 (set_get hb) h2 (by omega), hok, ew]
      rw [st_own0 (set_get hb) h2 (by omega), set_set]
      rw [ld_own0 (set_get hb) h2 (by simp; omega)]
      rw [(h.set fun _ => hs hne).ldk h1]
      rw [take_snoc' h1, take_snoc' h2, nextF_snoc]
      simp only [List.getElem_set_self]
      have e3 : I.take k ++ [I[k] + 1] ++ out.drop (k + 1) = out.set k (I[k] + 1) := by
        refine List.ext_getElem (by simp; omega) fun j hj1 hj2 => ?_
        rw [List.getElem_set]
        by_cases hjk : j < k
        · rw [if_neg (by omega), hj j (by omega) (by simpa using hj2) (by omega)]
          rw [List.getElem_append_left (by simp; omega), List.getElem_append_left (by simp; omega)]
          simp
        · by_cases e : j = k
          · subst e
            rw [List.getElem_append_left (by simp; omega), List.getElem_append_right (by simp; omega)]
            simp
          · rw [if_neg (by omega), List.getElem_append_right (by simp; omega)]
            simp
            congr 1; omega
      by_cases hc : I[k] + 1 < D[k]
      · rw [if_pos hc]
        have : decide (I[k] + 1 < D[k]) = true := by simpa using hc
        rw [this]
        simp only [cond_true]
        rw [e3]
      · rw [if_neg hc]
        have : decide (I[k] + 1 < D[k]) = false := by simpa using hc
        rw [this, cond_false, st_own0 (set_get hb) h2 (by simp; omega), set_set, wdown (by omega)]
        rw [ih _ (by omega) (by simpa using ho) (fun j hj1 hj2 hjk => by
          rw [List.getElem_set_ne (by omega), List.getElem_set_ne (by omega)]
          exact hj j hj1 (by simpa using hj2) (by omega))]
        have e4 : ((out.set k (I[k] + 1)).set k 0).drop k = 0 :: out.drop (k + 1) := by
          rw [drop_set_self (by simp; omega), drop_set_gt (Nat.lt_succ_self k)]
        rw [e4]
        simp
  have e0 : H.set b ⟨ics I, .rw, 1⟩ = H := set_same hb
  have := key D.length I (Nat.le_refl _) hi (fun _ _ _ _ => rfl)
  rw [e0, List.take_of_length_le (Nat.le_refl _), List.take_of_length_le (by omega), List.drop_eq_nil_of_le (by omega), List.append_nil] at this
  exact this
theorem m_sl08Pair_2 {n0 : Nat} {H : AH} {s u : Sl} {D I : List Int} (h : IS H s D) (hl : D.length ≤ 1048576) (ho : Own n0 H u I) (hs : D ≠ [] → s.b ≠ u.b) (hi : I.length = D.length) (hx : ∀ x ∈ I, 0 ≤ x ∧ x ≤ 1048576) :
    ∃ H', R (.loop F.sl08Pair 2) [ssc s, ssc u, isc ((D.length : Int) - 1)] H = some ⟨6, [], H'⟩ ∧ Mut n0 H H' u I (nextF D I).2 := by
  by_cases he : I = []
  · subst he
    have : D = [] := List.length_eq_zero_iff.1 (by simpa using hi.symm)
    subst this
    exact ⟨H, by rw [R_eq, e_sl08Pair_2]; rfl, Mut.refl ho⟩
  · have hc := c_sl08Pair_2 (x := u.x) h hl (ho.blk' he) hs hi hx
    rw [← ho.eta] at hc
    refine ⟨_, hc, Mut.set ho he ?_⟩
    unfold nextF
    rw [List.length_reverse, nextR_len (by simp [hi])]
    simp [hi]
end Go.Abs
/- Contracts: two tensors are contracted (spec), the call; whether they fit. -/
namespace Go.Abs
set_option linter.all false
set_option maxRecDepth 10000

/-- The element of a tensor's data, as spec.l05Get copies it. -/
theorem get_elem {r : Rg} {H : AH} {x y z : Sl} {t : Tn} {w : Nat} (hw : widthR r = (w : Int)) (hz : IS H z t.X) (ht : tensorB r t = true) {n : Nat} (hn : (n : Int) < prd t.D) :
    ∃ s' H', R (.fn F.sl05Get) [r.pv, tpv x y z, isc (n : Int)] H = some ⟨1, [ssc s'], H'⟩ ∧ Go.Abs.Le H H' ∧ IS H' s' (getE w t.X n) ∧ VE r (getE w t.X n) := by
  have hT := tensor_ok ht
  obtain ⟨N, hN, hN1, hN2, hN3⟩ := hT.d.nat
  have hwr := width_range hT.rg
  have hl := hT.len
  rw [hw, hN, ← Int.natCast_mul] at hl
  have hl : t.X.length = N * w := by omega
  have h2 : (n + 1) * w ≤ N * w := Nat.mul_le_mul_right _ (by omega)
  have hNw : N * w ≤ 4096 * 6 := Nat.mul_le_mul hN2 (by omega)
  have e2 : (n + 1) * w = n * w + w := by rw [Nat.add_mul, Nat.one_mul]
  obtain ⟨s', H', e, l, o⟩ := c_sl05Get (a := x) (b := y) hz hw (by omega) (by omega) (n := n) (by omega) (by omega) (by omega)
  refine ⟨s', H', e, l, o.is, ?_⟩
  have := getE_ve ht hn
  rwa [hw, Int.toNat_natCast] at this
/-- spec.l08Pair: a product is added -/
theorem c_sl08Pair_s {r : Rg} {A M : List Int → List Int → List Int} {dm : Int → Int} {a b : Tn} {m L : List Int} (hR : RC r A M) (hC : PairC r dm a b m L) (hml : m.length ≤ 100) (hL : DimsOk (L.map dm)) {w : Nat} (hw : widthR r = (w : Int))
    {H0 : AH} {aa ab ac ba bb bc : Sl} (ha : TS H0 aa ab ac a) (hb : TS H0 ba bb bc b) {sD ssa ssb sso sI cl cd cc : Sl} {rs : List Row} (iD : IS H0 sD (m.map dm)) (ra : (ssa, strM m a.L a.D) ∈ rs) (rb : (ssb, strM m b.L b.D) ∈ rs) (ro : (sso, strM m L (L.map dm)) ∈ rs)
    {n k : Nat} (hk : k ≤ 1048576) (hn : (n : Int) < prd (m.map dm)) {H : AH} {E : List (List Int)} (hEl : E.length = (prd (L.map dm)).toNat) (hE : ∀ e ∈ E, VE r e) (hF : Fr H0 H ((sI, idxF (m.map dm) (n : Int)) :: (cc, E.flatten) :: rs)) :
    ∃ H', R (.loop F.sl08Pair 0) [ssc sD, ssc ssa, ssc ssb, ssc sso, ssc sI, isc ((k + 1 : Nat) : Int), r.pv, tpv aa ab ac, tpv ba bb bc, tpv cl cd cc] H = R (.loop F.sl08Pair 0) [ssc sD, ssc ssa, ssc ssb, ssc sso, ssc sI, isc (k : Int), r.pv, tpv aa ab ac, tpv ba bb bc, tpv cl cd cc] H' ∧
      Fr H0 H' ((sI, idxF (m.map dm) ((n + 1 : Nat) : Int)) :: (cc, (pairS A M w (strM m a.L a.D) (strM m b.L b.D) (strM m L (L.map dm)) a.X b.X (idxF (m.map dm) (n : Int)) E).flatten) :: rs) := by
  have hwr := width_range hR.alg.rg
  have hge : ∀ d ∈ m.map dm, 1 ≤ d ∧ d ≤ 8 := fun d hd => by
    obtain ⟨x, hx, rfl⟩ := List.mem_map.1 hd
    exact (hC.labs x hx).2.2
  have hfit := hC.fits (n : Int)
  have hil := idxF_len (m.map dm) (n : Int)
  rw [List.length_map] at hil
  have hiv : ∀ v ∈ idxF (m.map dm) (n : Int), 0 ≤ v ∧ v ≤ 8 := fun v hv => by
    obtain ⟨d, hdm, h0, h1⟩ := fits_mem hfit v hv
    have := hge d hdm
    omega
  have hTa := tensor_ok hC.ca.ok
  have hTb := tensor_ok hC.cb.ok
  have ga : ∀ x ∈ strM m a.L a.D, 0 ≤ x ∧ x ≤ 4096 := fun x hx => by have := strM_rng hC.ca.nodup hC.ca.len.2.symm hTa.d.ge x hx; have := hTa.d.2.2; omega
  have gb : ∀ x ∈ strM m b.L b.D, 0 ≤ x ∧ x ≤ 4096 := fun x hx => by have := strM_rng hC.cb.nodup hC.cb.len.2.symm hTb.d.ge x hx; have := hTb.d.2.2; omega
  have gl : ∀ x ∈ strM m L (L.map dm), 0 ≤ x ∧ x ≤ 4096 := fun x hx => by have := strM_rng hC.nl (by simp) hL.ge x hx; have := hL.2.2; omega
  have d1 := hC.da (n : Int); have d2 := hC.db (n : Int); have d3 := hC.dl (n : Int)
  obtain ⟨o1, ho1⟩ : ∃ o : Nat, dotL (strM m a.L a.D) (idxF (m.map dm) (n : Int)) = (o : Int) := ⟨(dotL (strM m a.L a.D) (idxF (m.map dm) (n : Int))).toNat, by omega⟩
  obtain ⟨o2, ho2⟩ : ∃ o : Nat, dotL (strM m b.L b.D) (idxF (m.map dm) (n : Int)) = (o : Int) := ⟨(dotL (strM m b.L b.D) (idxF (m.map dm) (n : Int))).toNat, by omega⟩
  obtain ⟨o3, ho3⟩ : ∃ o : Nat, dotL (strM m L (L.map dm)) (idxF (m.map dm) (n : Int)) = (o : Int) := ⟨(dotL (strM m L (L.map dm)) (idxF (m.map dm) (n : Int))).toNat, by omega⟩
  have hEu := ve_uni hw hE
  have ho3l : o3 < E.length := by omega
  have hEne := flat_ne hEu (by omega) (by omega)
  have hfl := uni_len hEu
  have hNL : E.length ≤ 4096 := by have := hL.2.2; have := prd_pos hL.ge; omega
  have hNw : E.length * w ≤ 4096 * 6 := Nat.mul_le_mul hNL (by omega)
  have e3n : (o3 + 1) * w = o3 * w + w := by rw [Nat.add_mul, Nat.one_mul]
  have hle3 : (o3 + 1) * w ≤ E.length * w := Nat.mul_le_mul_right _ ho3l
  have hat := uni_at hEu ho3l
  -- the places
  have e1 := c_sl08Pair_1 (hF.is (s := ssa) (l := strM m a.L a.D) (by simp [ra])) (hF.is (s := ssb) (l := strM m b.L b.D) (by simp [rb])) (hF.is (s := sso) (l := strM m L (L.map dm)) (by simp [ro])) (hF.is (s := sI) (l := idxF (m.map dm) (n : Int)) (by simp))
    (by rw [strM_len, hil]) (by rw [strM_len, hil]) (by rw [strM_len, hil]) (by omega) ga gb gl hiv
  rw [ho1, ho2, ho3] at e1
  rw [ho1] at d1
  rw [ho2] at d2
  -- the elements
  obtain ⟨s3, H1, e2, l1, g3⟩ := c_sl05Get (r := r) (a := cl) (b := cd) (hF.is (s := cc) (l := E.flatten) (by simp)) hw (by omega) (by omega) (n := o3) (by omega) (by omega) (by omega)
  have g3i := g3.is
  rw [hat] at g3i
  have F1 := hF.ext l1
  obtain ⟨s1, H2, e3, l2, i1, v1⟩ := get_elem (x := aa) (y := ab) hw (ha.X.le F1.le) hC.ca.ok (n := o1) d1.2
  have F2 := F1.ext l2
  obtain ⟨s2, H3, e4, l3, i2, v2⟩ := get_elem (x := ba) (y := bb) hw (hb.X.le F2.le) hC.cb.ok (n := o2) d2.2
  have F3 := F2.ext l3
  obtain ⟨s4, H4, e5, l4, i4⟩ := hR.mulS (i1.le l3) i2 v1 v2
  have F4 := F3.ext l4
  have vM := hR.alg.m v1 v2
  have vE := hE _ (List.getElem_mem ho3l)
  obtain ⟨s5, H5, e6, l5, i5, lo5⟩ := hR.addS ((((g3i.le l2).le l3).le l4)) i4 vE vM
  have F5 := F4.ext l5
  have vA := hR.alg.a vE vM
  have oC := F5.own (s := cc) (l := E.flatten) (by simp)
  have hcl : cc.b < H4.length := (F4.own (s := cc) (l := E.flatten) (by simp)).lt hEne
  obtain ⟨H6, e7, m6⟩ := m_sl05Put (r := r) (a := cl) (b := cd) hw (by omega) hEu ho3l (v := A E[o3] (M (getE w a.X o1) (getE w b.X o2))) (by have := vA.1; omega) oC i5 (by omega) (by omega)
  have hres : (E.set o3 (A E[o3] (M (getE w a.X o1) (getE w b.X o2)))) = pairS A M w (strM m a.L a.D) (strM m b.L b.D) (strM m L (L.map dm)) a.X b.X (idxF (m.map dm) (n : Int)) E := by
    unfold pairS
    rw [ho1, ho2, ho3]
    simp only [Int.toNat_natCast]
    rw [List.getD_eq_getElem?_getD, List.getElem?_eq_getElem ho3l]
    rfl
  rw [hres] at m6
  have F6 : Fr H0 H6 ((sI, idxF (m.map dm) (n : Int)) :: (cc, (pairS A M w (strM m a.L a.D) (strM m b.L b.D) (strM m L (L.map dm)) a.X b.X (idxF (m.map dm) (n : Int)) E).flatten) :: rs) := Fr.mut [(sI, idxF (m.map dm) (n : Int))] (ys := rs) F5 m6 (fun e => absurd e hEne)
  -- the next index
  obtain ⟨H7, e8, m7⟩ := m_sl08Pair_2 (iD.le F6.le) (by simp; omega) (F6.own (s := sI) (l := idxF (m.map dm) (n : Int)) (by simp)) (fun hne => by
    have hine : idxF (m.map dm) (n : Int) ≠ [] := fun e => by
      rw [e] at hil
      exact hne (by rw [List.length_eq_zero_iff.1 (show m.length = 0 from hil.symm)]; rfl)
    exact fr_below F6 (p := (sI, idxF (m.map dm) (n : Int))) (by simp) hine iD hne) (by rw [hil]; simp) (fun x hx => by have := hiv x hx; omega)
  rw [nextF_idx (fun d hd => (hge d hd).1) (by omega) hn] at m7
  have F7 := Fr.mut [] (ys := (cc, (pairS A M w (strM m a.L a.D) (strM m b.L b.D) (strM m L (L.map dm)) a.X b.X (idxF (m.map dm) (n : Int)) E).flatten) :: rs) F6 m7 (fun e => by
    have h1 := idxF_len (m.map dm) ((n : Int) + 1)
    rw [List.length_map] at h1
    rw [e] at hil
    exact List.length_eq_zero_iff.1 (by rw [h1, ← hil]; rfl))
  refine ⟨H7, ?_, F7⟩
  have hIn := (hF.own (s := sI) (l := idxF (m.map dm) (n : Int)) (by simp)).n
  have hwk : IntKind.wrap .i64 (((k + 1 : Nat) : Int) - 1) = (k : Int) := by rw [wrap_id] <;> omega
  rw [R_eq, e_sl08Pair_0, decide_eq_true (show ((k + 1 : Nat) : Int) > 0 by omega), cond_true]
  rw [hIn, e1]
  simp only [Option.bind_some, Nat.beq, cond_true]
  rw [show ∀ (x y z : Int) (K : Int → Int → Int → Option Out), ((nthP [isc x, isc y, isc z] 0).bind fun p53 => p53.sc?.bind fun c54 => (intAt .i64 [c54] 0).bind fun n55 => (nthP [isc x, isc y, isc z] 1).bind fun p56 => p56.sc?.bind fun c57 => (intAt .i64 [c57] 0).bind fun n58 => (nthP [isc x, isc y, isc z] 2).bind fun p59 => p59.sc?.bind fun c60 => (intAt .i64 [c60] 0).bind fun n61 => K n55 n58 n61) = K x y z from fun _ _ _ _ => rfl]
  rw [e2]
  simp only [Option.bind_some, one_sl]
  rw [e3]
  simp only [Option.bind_some, one_sl]
  rw [e4]
  simp only [Option.bind_some, one_sl]
  rw [e5]
  simp only [Option.bind_some, one_sl]
  rw [e6]
  simp only [Option.bind_some, one_sl]
  rw [e7]
  simp only [Option.bind_some]
  have hdl : (m.map dm).length = (idxF (m.map dm) (n : Int)).length := by rw [hil]; simp
  rw [wdown (by omega), ← hdl, e8]
  simp only [Option.bind_some, cond_true, hwk, Nat.beq]
theorem c_sl08Pair_0 {r : Rg} {A M : List Int → List Int → List Int} {dm : Int → Int} {a b : Tn} {m L : List Int} (hR : RC r A M) (hC : PairC r dm a b m L) (hml : m.length ≤ 100) (hL : DimsOk (L.map dm)) {w : Nat} (hw : widthR r = (w : Int))
    {H0 : AH} {aa ab ac ba bb bc : Sl} (ha : TS H0 aa ab ac a) (hb : TS H0 ba bb bc b) {sD ssa ssb sso sI cl cd cc : Sl} {rs : List Row} (iD : IS H0 sD (m.map dm)) (ra : (ssa, strM m a.L a.D) ∈ rs) (rb : (ssb, strM m b.L b.D) ∈ rs) (ro : (sso, strM m L (L.map dm)) ∈ rs) :
    ∀ (k n : Nat) (H : AH) (E : List (List Int)), k ≤ 1048576 → ((n + k : Nat) : Int) ≤ prd (m.map dm) → E.length = (prd (L.map dm)).toNat → (∀ e ∈ E, VE r e) → Fr H0 H ((sI, idxF (m.map dm) (n : Int)) :: (cc, E.flatten) :: rs) →
      ∃ I' H', R (.loop F.sl08Pair 0) [ssc sD, ssc ssa, ssc ssb, ssc sso, ssc sI, isc (k : Int), r.pv, tpv aa ab ac, tpv ba bb bc, tpv cl cd cc] H = some ⟨2, [], H'⟩ ∧
        Fr H0 H' ((sI, I') :: (cc, (pairR (pairS A M w (strM m a.L a.D) (strM m b.L b.D) (strM m L (L.map dm)) a.X b.X) (m.map dm) k n E).flatten) :: rs)
  | 0, n, H, E, _, hn, hEl, hE, hF => ⟨_, H, by rw [R_eq, e_sl08Pair_0]; rfl, hF⟩
  | k + 1, n, H, E, hk, hn, hEl, hE, hF => by
    obtain ⟨H', e, F1⟩ := c_sl08Pair_s hR hC hml hL hw ha hb (cl := cl) (cd := cd) iD ra rb ro (n := n) (k := k) (by omega) (by omega) hEl hE hF
    have hst := hC.step hR.alg n E hEl hE
    have hwt : (widthR r).toNat = w := by omega
    rw [hwt] at hst
    obtain ⟨I2, H2, e2, F2⟩ := c_sl08Pair_0 hR hC hml hL hw ha hb iD ra rb ro k (n + 1) H' _ (by omega) (by omega) hst.1 hst.2 F1
    exact ⟨I2, H2, e.trans e2, F2⟩
theorem size_range (L D : List Int) (hd : ∀ d ∈ D, 1 ≤ d) : sizeB L D = -1 ∨ 0 ≤ sizeB L D := by
  unfold sizeB
  split
  · have hp := prodC_min 4096 D 1 (by omega) (by omega) hd
    have := prd_pos hd
    split
    · exact .inl rfl
    · right; rw [hp]; omega
  · exact .inl rfl
/-- spec.l08Fits -/
theorem c_sl08Fits {r : Rg} {dm : Int → Int} {a b : Tn} {K : List Int} {H : AH} {aa ab ac ba bb bc sk : Sl} (ha : TS H aa ab ac a) (hb : TS H ba bb bc b) (ca : CT r dm a) (cb : CT r dm b) (hk : IS H sk K) (hK : K.length ≤ 1048576) :
    ∃ H', R (.fn F.sl08Fits) [tpv aa ab ac, tpv ba bb bc, ssc sk] H = some ⟨1, [bsc (pairB dm a b K)], H'⟩ ∧ Go.Abs.Le H H' := by
  have hC := pairC_of ca cb K
  have la := ca.len; have lb := cb.len
  have hjl := joinL_len a.L b.L
  have hDa := ha.D
  rw [ca.d] at hDa
  have hDb := hb.D
  rw [cb.d] at hDb
  obtain ⟨sm, sD, H1, e1, l1, i1, i2⟩ := c_sl08Join (c := ac) (c' := bc) ha.L hDa hb.L hDb cb.nodup (by omega)
  have hgem : ∀ d ∈ (joinL a.L b.L).map dm, 1 ≤ d ∧ d ≤ 8 := fun d hd => by
    obtain ⟨x, hx, rfl⟩ := List.mem_map.1 hd
    exact (hC.labs x hx).2.2
  have e2 := c_sl05Product_w i2 (by simp; omega) hgem
  obtain ⟨u1, u2, H2, e3, F3⟩ := c_sl08Keep i1 i2 (hk.le l1) (by omega) hK
  have e4 := c_sTensorSize (c := ⟨0, 0, 0, 0, true⟩) (F3.is (s := u1) (l := keepF (joinL a.L b.L) K) (by simp [keepF])) (F3.is (s := u2) (l := (keepF (joinL a.L b.L) K).map dm) (by simp [keepF]))
  have hsz := size_range (keepF (joinL a.L b.L) K) ((keepF (joinL a.L b.L) K).map dm) (fun d hd => by
    obtain ⟨x, hx, rfl⟩ := List.mem_map.1 hd
    exact (hC.labs x (hC.ml x hx)).2.2.1)
  unfold pairB
  by_cases hbig : prd ((joinL a.L b.L).map dm) ≤ 65536
  · refine ⟨H2, ?_, l1.trans F3.le⟩
    rw [R_eq, e_sl08Fits, e1]
    simp only [Option.bind_some, t_ssb2, cond_true]
    rw [e2]
    simp only [Option.bind_some, one_int]
    rw [decide_eq_true (show min (prd ((joinL a.L b.L).map dm)) 65537 ≤ 65536 by omega), cond_true, e3]
    simp only [Option.bind_some, o_sss]
    rw [e4]
    simp only [Option.bind_some, one_int, decide_eq_true hbig, Bool.true_and]
    congr 4
    by_cases h : sizeB (keepF (joinL a.L b.L) K) ((keepF (joinL a.L b.L) K).map dm) = -1
    · rw [decide_eq_false (by omega), decide_eq_false (by simp [h])]
    · rw [decide_eq_true (by omega), decide_eq_true h]
  · refine ⟨H1, ?_, l1⟩
    rw [R_eq, e_sl08Fits, e1]
    simp only [Option.bind_some, t_ssb2, cond_true]
    rw [e2]
    simp only [Option.bind_some, one_int]
    rw [decide_eq_false (show ¬ min (prd ((joinL a.L b.L).map dm)) 65537 ≤ 65536 by omega), cond_false, decide_eq_false hbig]
    rfl
/-- spec.l08Pair, of tensors that fit -/
theorem c_sl08Pair {r : Rg} {A M : List Int → List Int → List Int} {dm : Int → Int} {a b : Tn} {K : List Int} (hR : RC r A M) {H : AH} {aa ab ac ba bb bc sk : Sl} (ha : TS H aa ab ac a) (hb : TS H ba bb bc b) (ca : CT r dm a) (cb : CT r dm b) (hk : IS H sk K) (hK : K.length ≤ 1048576) (hp : pairB dm a b K = true) :
    ∃ a' b' c' H', R (.fn F.sl08Pair) [r.pv, tpv aa ab ac, tpv ba bb bc, ssc sk] H = some ⟨1, [tpv a' b' c'], H'⟩ ∧ NewT H H' a' b' c' (ctrT r A M dm a b K) := by
  have hC := pairC_of ca cb K
  have hwr := width_range hR.alg.rg
  obtain ⟨w, hw⟩ : ∃ w : Nat, widthR r = (w : Int) := ⟨(widthR r).toNat, by omega⟩
  have hwt : (widthR r).toNat = w := by omega
  have la := ca.len; have lb := cb.len
  have hTa := tensor_ok ca.ok
  have hTb := tensor_ok cb.ok
  have hjl := joinL_len a.L b.L
  have hDa := ha.D
  rw [ca.d] at hDa
  have hDb := hb.D
  rw [cb.d] at hDb
  obtain ⟨sm, sD, H1, e1, l1, i1, i2⟩ := c_sl08Join (c := ac) (c' := bc) ha.L hDa hb.L hDb cb.nodup (by omega)
  have hgem : ∀ d ∈ (joinL a.L b.L).map dm, 1 ≤ d ∧ d ≤ 8 := fun d hd => by
    obtain ⟨x, hx, rfl⟩ := List.mem_map.1 hd
    exact (hC.labs x hx).2.2
  simp only [pairB, Bool.and_eq_true, decide_eq_true_eq] at hp
  obtain ⟨hsml, hsz⟩ := hp
  have hkl : (keepF (joinL a.L b.L) K).length ≤ (joinL a.L b.L).length := List.length_filter_le _ _
  obtain ⟨u1, u2, H2, e2, F2⟩ := c_sl08Keep i1 i2 (hk.le l1) (by omega) hK
  have l12 := l1.trans F2.le
  have j1 := F2.is (s := u1) (l := keepF (joinL a.L b.L) K) (by simp [keepF])
  have j2 := F2.is (s := u2) (l := (keepF (joinL a.L b.L) K).map dm) (by simp [keepF])
  unfold ctrT pairE
  rw [hwt]
  generalize hm : joinL a.L b.L = m at *
  generalize hLL : keepF m K = L at *
  obtain ⟨f1, f2⟩ := size_facts hsz
  have hpn := prd_pos f2.ge
  obtain ⟨fa, fb, fc, H3, e3, n3⟩ := c_sl05Zero hR.alg.rg j1 j2 (by omega) f2
  have F3 := (Fr.start H2).newT n3
  have i1' := i1.le F2.le
  have i2' := i2.le F2.le
  have e4 := c_sl08Steps (c := ac) (ha.L.le (l12.trans F3.le)) (ha.D.le (l12.trans F3.le)) (i1'.le F3.le) hC.nm (by omega) (by omega) hTa.d
  have n4 := new_app H3 (strM m a.L a.D)
  unfold rowAt at n4
  rw [strM_len] at n4
  have F4 := F3.newN n4
  generalize hH4 : H3 ++ [⟨ics (strM m a.L a.D), .rw, 1⟩] = H4 at *
  have e5 := c_sl08Steps (c := bc) (hb.L.le (l12.trans F4.le)) (hb.D.le (l12.trans F4.le)) (i1'.le F4.le) hC.nm (by omega) (by omega) hTb.d
  have n5 := new_app H4 (strM m b.L b.D)
  unfold rowAt at n5
  rw [strM_len] at n5
  have F5 := F4.newN n5
  generalize hH5 : H4 ++ [⟨ics (strM m b.L b.D), .rw, 1⟩] = H5 at *
  have e6 := c_sl08Steps (c := fc) (F5.is (s := fa) (l := L) (by simp)) (F5.is (s := fb) (l := L.map dm) (by simp)) (i1'.le F5.le) hC.nm (by omega) (by simp) f2
  have n6 := new_app H5 (strM m L (L.map dm))
  unfold rowAt at n6
  rw [strM_len] at n6
  have F6 := F5.newN n6
  generalize hH6 : H5 ++ [⟨ics (strM m L (L.map dm)), .rw, 1⟩] = H6 at *
  have F7 := F6.mk0 m.length
  have hidx : List.replicate m.length (0 : Int) = idxF (m.map dm) ((0 : Nat) : Int) := by
    have := idxF_zero (m.map dm)
    rw [List.length_map] at this
    exact this.symm
  rw [hidx] at F7
  have e7 := c_sl05Product_w (i2'.le (F6.mk0 m.length).le) (by simp; omega) hgem
  have hN := prd_pos (a := m.map dm) fun d hd => (hgem d hd).1
  have hmin : min (prd (m.map dm)) 65537 = (((prd (m.map dm)).toNat : Nat) : Int) := by omega
  have F8 : Fr H2 (H6 ++ [⟨ics (idxF (m.map dm) ((0 : Nat) : Int)), .rw, 1⟩]) ((⟨H6.length, 0, m.length, m.length, true⟩, idxF (m.map dm) ((0 : Nat) : Int)) :: (fc, (List.replicate (prd (L.map dm)).toNat (zeroR r)).flatten) ::
      [(⟨H5.length, 0, m.length, m.length, true⟩, strM m L (L.map dm)), (⟨H4.length, 0, m.length, m.length, true⟩, strM m b.L b.D), (⟨H3.length, 0, m.length, m.length, true⟩, strM m a.L a.D), (fa, L), (fb, L.map dm)]) := by
    refine F7.perm (.cons _ ?_)
    exact List.perm_middle (l₁ := [(⟨H5.length, 0, m.length, m.length, true⟩, strM m L (L.map dm)), (⟨H4.length, 0, m.length, m.length, true⟩, strM m b.L b.D), (⟨H3.length, 0, m.length, m.length, true⟩, strM m a.L a.D), (fa, L), (fb, L.map dm)]) (l₂ := []) |>.symm
  rw [← hidx] at F8
  rw [hidx] at F8
  obtain ⟨I', H', e8, F9⟩ := c_sl08Pair_0 hR hC (by omega) f2 hw (ha.le l12) (hb.le l12) (cl := fa) (cd := fb) i2' (ssa := ⟨H3.length, 0, m.length, m.length, true⟩) (ssb := ⟨H4.length, 0, m.length, m.length, true⟩) (sso := ⟨H5.length, 0, m.length, m.length, true⟩) (by simp) (by simp) (by simp)
    (prd (m.map dm)).toNat 0 _ (List.replicate (prd (L.map dm)).toNat (zeroR r)) (by omega) (by omega) (by simp) (fun e he => by rw [(List.mem_replicate.1 he).2]; exact hR.alg.z) F8
  refine ⟨fa, fb, fc, H', ?_, ⟨l12.trans F9.le, ?_⟩⟩
  · rw [R_eq, e_sl08Pair, e1]
    simp only [Option.bind_some, t_ssb2]
    rw [e2]
    simp only [Option.bind_some, o_sss]
    rw [e3]
    simp only [Option.bind_some, o_sss]
    rw [e4]
    simp only [Option.bind_some, one_sl]
    rw [e5]
    simp only [Option.bind_some, one_sl]
    rw [e6]
    simp only [Option.bind_some, one_sl]
    rw [i1.n, mk_ints (by omega)]
    simp only [Option.bind_some]
    rw [e7]
    simp only [Option.bind_some, one_int]
    rw [hmin, hidx, e8]
    simp only [Option.bind_some, Nat.beq, cond_true]
  · have S : ([(fc, (pairR (pairS A M w (strM m a.L a.D) (strM m b.L b.D) (strM m L (L.map dm)) a.X b.X) (m.map dm) (prd (m.map dm)).toNat 0 (List.replicate (prd (L.map dm)).toNat (zeroR r))).flatten), (fa, L), (fb, L.map dm)] : List Row).Sublist
        ((⟨H6.length, 0, m.length, m.length, true⟩, I') :: (fc, (pairR (pairS A M w (strM m a.L a.D) (strM m b.L b.D) (strM m L (L.map dm)) a.X b.X) (m.map dm) (prd (m.map dm)).toNat 0 (List.replicate (prd (L.map dm)).toNat (zeroR r))).flatten) ::
      [(⟨H5.length, 0, m.length, m.length, true⟩, strM m L (L.map dm)), (⟨H4.length, 0, m.length, m.length, true⟩, strM m b.L b.D), (⟨H3.length, 0, m.length, m.length, true⟩, strM m a.L a.D), (fa, L), (fb, L.map dm)]) := by
      refine .cons _ (.cons₂ _ (.cons _ (.cons _ (.cons _ (.cons₂ _ (.cons₂ _ ?_))))))
      exact List.nil_sublist _
    have := (F9.sub S).rows.low l12.len
    refine this.perm ?_
    exact (List.perm_append_comm (l₁ := [(fa, L), (fb, L.map dm)]) (l₂ := [(fc, _)]))
end Go.Abs
/- Pure: a network is contracted along an order. -/
namespace Go.Abs
set_option linter.all false
set_option maxRecDepth 10000

def tn0 : Tn := ⟨[], [], []⟩
def tenW (W : List (Int × Tn)) (a : Int) : Tn := ((W.find? fun x => x.1 == a).map (·.2)).getD tn0
def labsT (W : List (Int × Tn)) : List (Int × List Int) := W.map fun x => (x.1, x.2.L)
def dropT (a b : Int) (W : List (Int × Tn)) : List (Int × Tn) := W.filter fun x => x.1 != a && x.1 != b
def fitT (dm : Int → Int) (op : List Int) (W : List (Int × Tn)) (p : Sp) : Bool := pairB dm (tenW W p.a) (tenW W p.b) (resW op (labsT W) p.a p.b)
def newTn (r : Rg) (A M : List Int → List Int → List Int) (dm : Int → Int) (op : List Int) (W : List (Int × Tn)) (p : Sp) : Tn := ctrT r A M dm (tenW W p.a) (tenW W p.b) (resW op (labsT W) p.a p.b)
def stepT (r : Rg) (A M : List Int → List Int → List Int) (dm : Int → Int) (op : List Int) (W : List (Int × Tn)) (nx : Int) (p : Sp) : List (Int × Tn) := dropT p.a p.b W ++ [(nx, newTn r A M dm op W p)]
/-- Whether all steps fit, and what is left. -/
def conW (r : Rg) (A M : List Int → List Int → List Int) (dm : Int → Int) (op : List Int) : List (Int × Tn) → Int → List Sp → Option (List (Int × Tn))
  | W, _, [] => some W
  | W, nx, p :: ps => if fitT dm op W p then conW r A M dm op (stepT r A M dm op W nx p) (nx + 1) ps else none
theorem labW_ten (W : List (Int × Tn)) (a : Int) : labW (labsT W) a = (tenW W a).L := by
  unfold labW tenW labsT
  induction W with
  | nil => rfl
  | cons x W ih =>
    simp only [List.map_cons, List.find?_cons]
    cases hx : x.1 == a with
    | true => rfl
    | false => exact ih
theorem keepF_res (op : List Int) (W : List (Int × List Int)) (a b : Int) : keepF (joinL (labW W a) (labW W b)) (resW op W a b) = resW op W a b := by
  unfold keepF resW
  refine List.filter_congr fun x hx => ?_
  cases hk : keptW op W a b x with
  | true =>
    refine List.any_eq_true.2 ⟨x, List.mem_filter.2 ⟨hx, hk⟩, by simp⟩
  | false =>
    rw [List.any_eq_false]
    intro y hy e
    have e : x = y := by simpa using e
    subst e
    rw [(List.mem_filter.1 hy).2] at hk
    cases hk
theorem newTn_L (r : Rg) (A M : List Int → List Int → List Int) (dm : Int → Int) (op : List Int) (W : List (Int × Tn)) (p : Sp) : (newTn r A M dm op W p).L = resW op (labsT W) p.a p.b := by
  show keepF (joinL (tenW W p.a).L (tenW W p.b).L) (resW op (labsT W) p.a p.b) = _
  rw [← labW_ten, ← labW_ten, keepF_res]
theorem stepT_labs (r : Rg) (A M : List Int → List Int → List Int) (dm : Int → Int) (op : List Int) (W : List (Int × Tn)) (nx : Int) (p : Sp) : labsT (stepT r A M dm op W nx p) = stepW op (labsT W) nx p := by
  unfold stepT stepW
  show (dropT p.a p.b W ++ [(nx, newTn r A M dm op W p)]).map _ = _
  rw [List.map_append]
  congr 1
  · unfold dropT dropW labsT
    rw [List.filter_map]
    rfl
  · simp [newTn_L]
theorem tenW_mem {W : List (Int × Tn)} {a : Int} (h : a ∈ W.map (·.1)) : ∃ x ∈ W, x.1 = a ∧ tenW W a = x.2 := by
  induction W with
  | nil => simp at h
  | cons x W ih =>
    unfold tenW
    simp only [List.find?_cons]
    cases hx : x.1 == a with
    | true => exact ⟨x, List.mem_cons_self, by simpa using hx, rfl⟩
    | false =>
      have hx : x.1 ≠ a := by simpa using hx
      simp only [List.map_cons, List.mem_cons] at h
      rcases h with h | h
      · exact absurd h.symm hx
      · obtain ⟨y, hy, e1, e2⟩ := ih h
        exact ⟨y, List.mem_cons_of_mem _ hy, e1, e2⟩
theorem tenW_at {W : List (Int × Tn)} (hd : (W.map (·.1)).Nodup) {i : Nat} (hi : i < W.length) : tenW W W[i].1 = W[i].2 := by
  induction W generalizing i with
  | nil => simp at hi
  | cons x W ih =>
    unfold tenW
    simp only [List.find?_cons]
    cases i with
    | zero => simp
    | succ i =>
      have hn := List.nodup_cons.1 hd
      have hi' : i < W.length := by simpa using hi
      have : (x.1 == W[i].1) = false := by
        have : x.1 ≠ W[i].1 := fun e => hn.1 (by
          show x.1 ∈ W.map (·.1)
          rw [e]; exact List.mem_map.2 ⟨W[i], List.getElem_mem hi', rfl⟩)
        simpa using this
      simp only [List.getElem_cons_succ, this]
      exact ih hn.2 hi'
/-- A list without two places. -/
def dropX {α : Type} (i j : Nat) : List α → Nat → List α
  | [], _ => []
  | x :: v, k => if k != i && k != j then x :: dropX i j v (k + 1) else dropX i j v (k + 1)
theorem dropX_map {α β : Type} (f : α → β) (i j : Nat) : ∀ (v : List α) (k : Nat), (dropX i j v k).map f = dropX i j (v.map f) k
  | [], k => rfl
  | x :: v, k => by
    simp only [dropX, List.map_cons]
    split
    · rw [List.map_cons, dropX_map f i j v (k + 1)]
    · exact dropX_map f i j v (k + 1)
theorem dropX_len {α β : Type} (i j : Nat) : ∀ (v : List α) (u : List β) (k : Nat), v.length = u.length → (dropX i j v k).length = (dropX i j u k).length
  | [], [], k, _ => rfl
  | x :: v, y :: u, k, h => by
    have ih := dropX_len i j v u (k + 1) (by simpa using h)
    simp only [dropX]
    split <;> simp [ih]
  | [], _ :: _, _, h => by simp at h
  | _ :: _, [], _, h => by simp at h
theorem dropX_zip {α β : Type} (i j : Nat) : ∀ (v : List α) (u : List β) (k : Nat), v.length = u.length → dropX i j (v.zip u) k = (dropX i j v k).zip (dropX i j u k)
  | [], [], k, _ => rfl
  | x :: v, y :: u, k, h => by
    have ih := dropX_zip i j v u (k + 1) (by simpa using h)
    simp only [dropX, List.zip_cons_cons]
    split
    · rw [List.zip_cons_cons, ih]
    · exact ih
  | [], _ :: _, _, h => by simp at h
  | _ :: _, [], _, h => by simp at h
theorem dropX_sub {α : Type} (i j : Nat) : ∀ (v : List α) (k : Nat), (dropX i j v k).Sublist v
  | [], _ => .slnil
  | x :: v, k => by
    unfold dropX
    split
    · exact (dropX_sub i j v (k + 1)).cons₂ x
    · exact (dropX_sub i j v (k + 1)).cons x
theorem dropX_T {i j : Nat} {a b : Int} : ∀ (W : List (Int × Tn)) (k : Nat), (∀ (m : Nat) t, W[m]? = some t → ((m + k = i ↔ t.1 = a) ∧ (m + k = j ↔ t.1 = b))) → dropX i j W k = dropT a b W
  | [], k, _ => rfl
  | t :: v, k, h => by
    have h0 := h 0 t rfl
    have ih := dropX_T (i := i) (j := j) (a := a) (b := b) v (k + 1) fun m u hm => by
      have := h (m + 1) u (by simpa using hm)
      rw [show m + 1 + k = m + (k + 1) by omega] at this
      exact this
    unfold dropX dropT
    simp only [List.filter_cons]
    have e1 : (k != i) = (t.1 != a) := by
      by_cases hh : t.1 = a
      · have hk : k = i := by have := h0.1.2 hh; omega
        have h1 : (k != i) = false := by simp [hk]
        have h2 : (t.1 != a) = false := by simp [hh]
        rw [h1, h2]
      · have : ¬ k = i := fun e => hh (h0.1.1 (by omega))
        rw [bne_iff_ne.2 this, bne_iff_ne.2 hh]
    have e2 : (k != j) = (t.1 != b) := by
      by_cases hh : t.1 = b
      · have hk : k = j := by have := h0.2.2 hh; omega
        have h1 : (k != j) = false := by simp [hk]
        have h2 : (t.1 != b) = false := by simp [hh]
        rw [h1, h2]
      · have : ¬ k = j := fun e => hh (h0.2.1 (by omega))
        rw [bne_iff_ne.2 this, bne_iff_ne.2 hh]
    unfold dropT at ih
    rw [e1, e2]
    cases hc : (t.1 != a && t.1 != b) with
    | true => simp only [if_true]; rw [ih]
    | false => simp only [Bool.false_eq_true, if_false]; exact ih
theorem numW_at {W : List (Int × Tn)} (hd : (W.map (·.1)).Nodup) {i : Nat} (hi : i < W.length) {a : Int} (ha : W[i].1 = a) (m : Nat) (t : Int × Tn) (ht : W[m]? = some t) : m = i ↔ t.1 = a := by
  obtain ⟨hm, rfl⟩ := List.getElem?_eq_some_iff.1 ht
  constructor
  · intro e; subst e; exact ha
  · intro e
    have h1 : (W.map (·.1))[m]'(by simpa using hm) = (W.map (·.1))[i]'(by simpa using hi) := by simp [e, ha]
    exact nodup_inj hd (by simpa using hm) (by simpa using hi) h1
/-- All tensors conform. -/
def WC (r : Rg) (dm : Int → Int) (W : List (Int × Tn)) : Prop := ∀ x ∈ W, CT r dm x.2
theorem WC.ten {r : Rg} {dm : Int → Int} {W : List (Int × Tn)} (h : WC r dm W) {a : Int} (ha : a ∈ W.map (·.1)) : CT r dm (tenW W a) := by
  obtain ⟨x, hx, _, e⟩ := tenW_mem ha
  rw [e]; exact h x hx
theorem WC.step {r : Rg} {A M : List Int → List Int → List Int} {dm : Int → Int} {op : List Int} {W : List (Int × Tn)} (h : WC r dm W) (hA : AlgOk r A M) {nx : Int} {p : Sp} (ha : p.a ∈ W.map (·.1)) (hb : p.b ∈ W.map (·.1)) (hf : fitT dm op W p = true) : WC r dm (stepT r A M dm op W nx p) := fun x hx => by
  unfold stepT at hx
  rcases List.mem_append.1 hx with hx | hx
  · exact h x (List.mem_filter.1 hx).1
  · simp at hx
    subst hx
    exact pair_ct (h.ten ha) (h.ten hb) hA hf
/-- Numbers along an order. -/
theorem ordW_at {ns : List Int} {nx : Int} {p : Sp} {ps : List Sp} (h : orderN ns nx (p :: ps) = true) : p.a ∈ ns ∧ p.b ∈ ns ∧ p.a < p.b ∧ orderN (ns.filter (fun x => x != p.a && x != p.b) ++ [nx]) (nx + 1) ps = true := by
  unfold orderN at h
  split at h
  · rename_i hc; exact ⟨hc.1, hc.2.1, hc.2.2, h⟩
  · cases h
theorem stepT_nums (r : Rg) (A M : List Int → List Int → List Int) (dm : Int → Int) (op : List Int) (W : List (Int × Tn)) (nx : Int) (p : Sp) : (stepT r A M dm op W nx p).map (·.1) = (W.map (·.1)).filter (fun x => x != p.a && x != p.b) ++ [nx] := by
  unfold stepT dropT
  rw [List.map_append, List.filter_map]
  rfl
theorem nums_step {ns : List Int} (hd : ns.Nodup) {nx : Int} (hx : ∀ x ∈ ns, x < nx) (a b : Int) : (ns.filter (fun x => x != a && x != b) ++ [nx]).Nodup ∧ ∀ x ∈ ns.filter (fun x => x != a && x != b) ++ [nx], x < nx + 1 := by
  refine ⟨List.nodup_append.2 ⟨hd.filter _, by simp, fun x hx' y hy => ?_⟩, fun x hx' => ?_⟩
  · simp at hy; subst hy
    have := hx x (List.mem_filter.1 hx').1
    omega
  · rcases List.mem_append.1 hx' with h | h
    · have := hx x (List.mem_filter.1 h).1; omega
    · simp at h; omega
/-- Two numbers are dropped, one is put behind. -/
theorem nums_len : ∀ {ns : List Int}, ns.Nodup → ∀ {a b : Int}, a ∈ ns → b ∈ ns → a ≠ b → (ns.filter (fun x => x != a && x != b)).length + 2 = ns.length := by
  have one : ∀ {ns : List Int}, ns.Nodup → ∀ {b : Int}, b ∈ ns → (ns.filter (fun x => x != b)).length + 1 = ns.length := by
    intro ns
    induction ns with
    | nil => intro _ b hb; simp at hb
    | cons x ns ih =>
      intro hd b hb
      have hn := List.nodup_cons.1 hd
      by_cases e : x = b
      · subst e
        have h1 : (x != x) = false := by simp
        have h2 : ns.filter (fun y => y != x) = ns := List.filter_eq_self.2 fun y hy => bne_iff_ne.2 fun e => hn.1 (e ▸ hy)
        simp only [List.filter_cons, h1, Bool.false_eq_true, if_false, h2, List.length_cons]
      · rcases List.mem_cons.1 hb with h | h
        · exact absurd h.symm e
        · have := ih hn.2 h
          have h1 : (x != b) = true := bne_iff_ne.2 e
          simp only [List.filter_cons, h1, if_true, List.length_cons]
          omega
  intro ns hd a b ha hb hab
  have h1 := one (hd.filter (fun x => x != a)) (b := b) (List.mem_filter.2 ⟨hb, bne_iff_ne.2 (Ne.symm hab)⟩)
  have h2 := one hd ha
  rw [List.filter_filter] at h1
  have e : (fun x : Int => x != b && x != a) = fun x => x != a && x != b := by funext x; rw [Bool.and_comm]
  rw [e] at h1
  omega
theorem conW_len {r : Rg} {A M : List Int → List Int → List Int} {dm : Int → Int} {op : List Int} : ∀ (ps : List Sp) (W W' : List (Int × Tn)) (nx : Int), (W.map (·.1)).Nodup → (∀ x ∈ W.map (·.1), x < nx) → orderN (W.map (·.1)) nx ps = true → conW r A M dm op W nx ps = some W' → W'.length + ps.length = W.length
  | [], W, W', nx, _, _, _, h => by simp only [conW, Option.some.injEq] at h; subst h; simp
  | p :: ps, W, W', nx, hd, hx, ho, h => by
    obtain ⟨h1, h2, h3, h4⟩ := ordW_at ho
    simp only [conW] at h
    split at h
    · have hs := stepT_nums r A M dm op W nx p
      obtain ⟨g1, g2⟩ := nums_step hd hx p.a p.b
      have := conW_len ps _ W' (nx + 1) (by rw [hs]; exact g1) (by rw [hs]; exact g2) (by rw [hs]; exact h4) h
      have hl := congrArg List.length hs
      have hn := nums_len hd h1 h2 (by omega)
      simp only [List.length_map, List.length_append, List.length_cons, List.length_nil] at hl hn ⊢
      omega
    · cases h
/-- Where the last number stands. -/
theorem conW_last {r : Rg} {A M : List Int → List Int → List Int} {dm : Int → Int} {op : List Int} : ∀ (ps : List Sp) (W W' : List (Int × Tn)) (nx : Int) (t : Tn), conW r A M dm op W nx ps = some W' → (ps = [] → ∃ W1, W = W1 ++ [(nx - 1, t)]) → ps ≠ [] ∨ True → (∃ W1 t', W' = W1 ++ [(nx + ps.length - 1, t')])
  | [], W, W', nx, t, h, h0, _ => by
    simp only [conW, Option.some.injEq] at h
    subst h
    obtain ⟨W1, e⟩ := h0 rfl
    exact ⟨W1, t, by simpa using e⟩
  | p :: ps, W, W', nx, t, h, _, _ => by
    simp only [conW] at h
    split at h
    · obtain ⟨W1, t', e⟩ := conW_last ps _ W' (nx + 1) (newTn r A M dm op W p) h (fun _ => ⟨dropT p.a p.b W, by simp only [stepT]; congr 3; omega⟩) (.inr trivial)
      refine ⟨W1, t', ?_⟩
      rw [e]
      congr 3
      simp only [List.length_cons]
      omega
    · cases h
theorem conW_wc {r : Rg} {A M : List Int → List Int → List Int} {dm : Int → Int} {op : List Int} (hA : AlgOk r A M) : ∀ (ps : List Sp) (W W' : List (Int × Tn)) (nx : Int), WC r dm W → orderN (W.map (·.1)) nx ps = true → conW r A M dm op W nx ps = some W' → WC r dm W'
  | [], W, W', nx, hC, _, h => by simp only [conW, Option.some.injEq] at h; subst h; exact hC
  | p :: ps, W, W', nx, hC, ho, h => by
    obtain ⟨h1, h2, h3, h4⟩ := ordW_at ho
    simp only [conW] at h
    split at h
    · rename_i hf
      exact conW_wc hA ps _ W' (nx + 1) (hC.step hA h1 h2 hf) (by rw [stepT_nums]; exact h4) h
    · cases h
end Go.Abs
/- Contracts: a network is contracted along an order (impl): the steps. -/
namespace Go.Abs
set_option linter.all false
set_option maxRecDepth 10000

/-- A row of tensors, all from some block on. -/
structure CS (n0 : Nat) (H : AH) (s : Sl) (xs : List Tri) (ts : List Tn) : Prop where
  out : OOut n0 H s xs
  len : xs.length = ts.length
  own : ∀ (i : Nat) x t, xs[i]? = some x → ts[i]? = some t → Own n0 H x.1 t.L ∧ Own n0 H x.2.1 t.D ∧ Own n0 H x.2.2 t.X
theorem CS.ts {n0 : Nat} {H : AH} {s : Sl} {xs : List Tri} {ts : List Tn} (h : CS n0 H s xs ts) {i : Nat} (h1 : i < xs.length) (h2 : i < ts.length) : TS H xs[i].1 xs[i].2.1 xs[i].2.2 ts[i] := by
  obtain ⟨a, b, c⟩ := h.own i _ _ (List.getElem?_eq_getElem h1) (List.getElem?_eq_getElem h2)
  exact ⟨a.is, b.is, c.is⟩
theorem CS.le {n0 : Nat} {H H' : AH} {s : Sl} {xs : List Tri} {ts : List Tn} (h : CS n0 H s xs ts) (k : Go.Abs.Le H H') : CS n0 H' s xs ts :=
  ⟨h.out.le k, h.len, fun i x t hx ht => let ⟨a, b, c⟩ := h.own i x t hx ht; ⟨a.le k, b.le k, c.le k⟩⟩
theorem own_keep {n0 : Nat} {H H' : AH} {s : Sl} {l : List Int} (h : Own n0 H s l) (k : ∀ d, n0 ≤ d → d < H.length → H'[d]? = H[d]?) : Own n0 H' s l := h.mono fun hne => k _ (by
  rcases h.lo with e | e
  · exact absurd e hne
  · exact e) (h.lt hne)
theorem CS.keepB {n0 : Nat} {H H' : AH} {s : Sl} {xs : List Tri} {ts : List Tn} (h : CS n0 H s xs ts) (k : ∀ d, n0 ≤ d → d < H.length → H'[d]? = H[d]?) : CS n0 H' s xs ts :=
  ⟨h.out.keep fun hx => k _ (by
    rcases h.out.blk with ⟨e, _⟩ | ⟨_, e, _⟩
    · exact absurd e hx
    · exact e) (h.out.lt hx), h.len, fun i x t hx ht => let ⟨a, b, c⟩ := h.own i x t hx ht; ⟨own_keep a k, own_keep b k, own_keep c k⟩⟩
theorem rowsT_mem : ∀ {xs : List Tri} {ts : List Tn} {i : Nat} {x : Tri} {t : Tn}, xs[i]? = some x → ts[i]? = some t → ∀ p ∈ rows3 x.1 x.2.1 x.2.2 t, p ∈ rowsT xs ts
  | [], _, i, x, t, h, _, _, _ => by simp at h
  | y :: xs, [], i, x, t, _, h, _, _ => by simp at h
  | y :: xs, u :: ts, 0, x, t, h1, h2, p, hp => by
    simp at h1 h2; subst h1 h2
    exact List.mem_append.2 (.inl hp)
  | y :: xs, u :: ts, i + 1, x, t, h1, h2, p, hp => List.mem_append.2 (.inr (rowsT_mem (by simpa using h1) (by simpa using h2) p hp))
theorem NetR.cs {H0 H : AH} {s : Sl} {xs : List Tri} {ts : List Tn} {rs : List Row} (h : NetR H0 H s xs ts rs) : CS H0.length H s xs ts :=
  ⟨h.out, h.len, fun i x t hx ht => by
    have g : ∀ p ∈ rows3 x.1 x.2.1 x.2.2 t, Own H0.length H p.1 p.2 := fun p hp => h.fr.rows.own p (List.mem_append.2 (.inl (rowsT_mem hx ht p hp)))
    exact ⟨g (x.1, t.L) (by simp), g (x.2.1, t.D) (by simp), g (x.2.2, t.X) (by simp)⟩⟩
theorem CS.step {n0 n1 : Nat} {H H' : AH} {s s' : Sl} {xs : List Tri} {ts : List Tn} {a b c : Sl} {t : Tn} {i j : Nat} (h : CS n0 H s xs ts) (k : Go.Abs.Le H H') (ho : OOut n1 H' s' (dropX i j xs 0 ++ [(a, b, c)])) (hn : n0 ≤ n1) (ht : Own n0 H' a t.L ∧ Own n0 H' b t.D ∧ Own n0 H' c t.X) : CS n0 H' s' (dropX i j xs 0 ++ [(a, b, c)]) (dropX i j ts 0 ++ [t]) := by
  refine ⟨ho.low hn, by simp [dropX_len i j xs ts 0 h.len], fun m x u hx hu => ?_⟩
  have hl := dropX_len i j xs ts 0 h.len
  rcases Nat.lt_or_ge m (dropX i j xs 0).length with hm | hm
  · rw [List.getElem?_append_left hm] at hx
    rw [List.getElem?_append_left (by omega)] at hu
    have hz : ((dropX i j xs 0).zip (dropX i j ts 0))[m]? = some (x, u) := by
      rw [List.getElem?_zip_eq_some]
      exact ⟨hx, hu⟩
    rw [← dropX_zip i j xs ts 0 h.len] at hz
    have hmem := (dropX_sub i j (xs.zip ts) 0).subset (List.mem_of_getElem? hz)
    obtain ⟨q, hq⟩ := List.getElem?_of_mem hmem
    rw [List.getElem?_zip_eq_some] at hq
    obtain ⟨o1, o2, o3⟩ := h.own q x u hq.1 hq.2
    exact ⟨o1.le k, o2.le k, o3.le k⟩
  · have hm1 := (List.getElem?_eq_some_iff.1 hx).1
    simp at hm1
    obtain rfl : m = (dropX i j xs 0).length := by omega
    rw [List.getElem?_append_right (Nat.le_refl _), Nat.sub_self] at hx
    rw [List.getElem?_append_right (by omega), hl, Nat.sub_self] at hu
    simp at hx hu
    subst hx hu
    exact ht
theorem le_take {H H' : AH} (h : Go.Abs.Le H H') : H'.take H.length = H.take H.length := by
  refine List.ext_getElem? fun d => ?_
  rw [List.getElem?_take, List.getElem?_take]
  split
  · exact h.get d (by omega)
  · rfl
theorem OOut.cells {n0 : Nat} {H : AH} {s : Sl} {xs : List Tri} (h : OOut n0 H s xs) {i : Nat} (hi : i < xs.length) : ∃ cs, rdB H s.b = some cs ∧ ixA s (i : Int) 3 = some (i * 3) ∧ slAt cs (i * 3) = some xs[i].1 ∧ slAt cs (i * 3 + 1) = some xs[i].2.1 ∧ slAt cs (i * 3 + 1 + 1) = some xs[i].2.2 := by
  obtain ⟨cs, h1, h2, h3, h4, h5⟩ := h.outer.rd (List.getElem?_eq_getElem hi)
  exact ⟨cs, h1, h2, slAt_get h3, slAt_get h4, slAt_get (show cs[i * 3 + 1 + 1]? = _ from h5)⟩
/-- impl.PartialNetwork: the tensors that are left -/
theorem c_iPartialNetwork_1 {H : AH} {n0 : Nat} {sT : Sl} {xs : List Tri} (hO : OOut n0 H sT xs) (hl : xs.length ≤ 1000) (i j : Nat) :
    ∀ (k m : Nat) (Hc : AH) (so : Sl) (acc : List Tri), m + k = xs.length → Fr H Hc [] → OOut H.length Hc so acc → acc.length ≤ m →
      ∃ s' H', R (.loop F.iPartialNetwork 1) [isc (i : Int), isc (j : Int), ssc so, ssc sT, isc (xs.length : Int), isc (m : Int)] Hc = some ⟨4, [ssc s'], H'⟩ ∧ Fr H H' [] ∧ OOut H.length H' s' (acc ++ dropX i j (xs.drop m) m)
  | 0, m, Hc, so, acc, hm, hF, hA, hac => by
    obtain rfl : m = xs.length := by omega
    refine ⟨so, Hc, by rw [R_eq, e_iPartialNetwork_1, lt_self]; rfl, hF, ?_⟩
    rw [List.drop_eq_nil_of_le (Nat.le_refl _)]
    simpa [dropX] using hA
  | k + 1, m, Hc, so, acc, hm, hF, hA, hac => by
    have hlt : m < xs.length := by omega
    rw [List.drop_eq_getElem_cons hlt]
    have e1 : ((m : Int) != (i : Int)) = (m != i) := bne_nat m i
    have e2 : ((m : Int) != (j : Int)) = (m != j) := bne_nat m j
    obtain ⟨cs, h1, h2, h3, h4, h5⟩ := (hO.le hF.le).cells hlt
    have start : ∀ K : Option Out, K = K := fun _ => rfl
    cases hc : (m != i && m != j) with
    | true =>
      have hc1 : (m != i) = true := by simp only [Bool.and_eq_true] at hc; exact hc.1
      have hc2 : (m != j) = true := by simp only [Bool.and_eq_true] at hc; exact hc.2
      obtain ⟨so', H1, e3, F3, O3, _⟩ := push_tensor' (a := xs[m].1) (b := xs[m].2.1) (c := xs[m].2.2) hF hA (by omega)
      obtain ⟨s', H', e4, F4, O4⟩ := c_iPartialNetwork_1 hO hl i j k (m + 1) H1 so' (acc ++ [(xs[m].1, xs[m].2.1, xs[m].2.2)]) (by omega) F3 O3 (by simp; omega)
      refine ⟨s', H', ?_, F4, ?_⟩
      · rw [R_eq, e_iPartialNetwork_1, lt_true hlt, w1 hlt (by omega), cond_true, h2]
        simp only [Option.bind_some, h1, h3, h4, h5, e1, e2, hc1, hc2, cond_true, Nat.beq]
        rw [n_bool, cond_true, e3]
        exact e4
      · simp only [dropX, hc, if_true]
        simpa using O4
    | false =>
      obtain ⟨s', H', e4, F4, O4⟩ := c_iPartialNetwork_1 hO hl i j k (m + 1) Hc so acc (by omega) hF hA (by omega)
      refine ⟨s', H', ?_, F4, ?_⟩
      · rw [R_eq, e_iPartialNetwork_1, lt_true hlt, w1 hlt (by omega), cond_true, h2]
        simp only [Option.bind_some, h1, h3, h4, h5, e1, e2]
        cases hc1 : (m != i) with
        | false =>
          simp only [cond_false, Option.bind_some, Nat.beq, cond_true, n_bool]
          exact e4
        | true =>
          have hc2 : (m != j) = false := by rw [hc1, Bool.true_and] at hc; exact hc
          simp only [hc2, cond_true, cond_false, Option.bind_some, Nat.beq, n_bool]
          exact e4
      · simp only [dropX, hc, Bool.false_eq_true, if_false]
        exact O4
theorem t_sss_b2 {α : Type} (a b c : Sl) (q : Bool) (K : Sl → Sl → Sl → Bool → Option α) : ((lenP [tpv a b c, bsc q] 2).bind fun _ => (nthP [tpv a b c, bsc q] 0).bind fun p46 => p46.agg?.bind fun l47 => cond (decide (l47.length = 3)) ((slAt l47 0).bind fun s48 => (slAt l47 1).bind fun s49 => (slAt l47 2).bind fun s50 => (nthP [tpv a b c, bsc q] 1).bind fun p51 => p51.sc?.bind fun c52 => (boolAt [c52] 0).bind fun b53 => K s48 s49 s50 b53) none) = K a b c q := rfl
theorem vp_nums (v : List LE) : (vp v).map (·.1) = v.map (·.n) := by unfold vp; rw [List.map_map]; rfl
theorem labsT_nums (W : List (Int × Tn)) : (labsT W).map (·.1) = W.map (·.1) := by unfold labsT; rw [List.map_map]; rfl
/-- impl.PartialNetwork: the steps -/
theorem c_iPartialNetwork_0 {r : Rg} {A M : List Int → List Int → List Int} {dm : Int → Int} (hR : RC r A M) {H0 : AH} {n0 bs : Nat} {D op : List Int} {so sp s u u9 : Sl} {ps : List Sp} (hp : S2 H0 sp ps) (hpl : ps.length ≤ 1000) (ho : op.length ≤ 1000) (hbs : bs < n0) (hn0 : H0.length ≤ n0) :
    ∀ (k i : Nat) (H : AH) (sl sT : Sl) (next : Nat) (v : List LE) (xs : List Tri) (W : List (Int × Tn)), i + k = ps.length → OS H0 H bs D op so sl next v → n0 ≤ H.length → CS n0 H sT xs (W.map (·.2)) → vp v = labsT W → WC r dm W → W.length ≤ 12 → next ≤ 2048 + i → (W.map (·.1)).Nodup → (∀ x ∈ W.map (·.1), x < (next : Int)) → orderN (W.map (·.1)) next (ps.drop i) = true →
      (∃ W' sT' xs' H', conW r A M dm op W next (ps.drop i) = some W' ∧ R (.loop F.iPartialNetwork 0) [.sc (.hp bs 0), ssc sp, isc (ps.length : Int), isc (i : Int), npv r s u, npv0, npv r sT u9] H = some ⟨2, [npv0, npv r sT' u9], H'⟩ ∧ CS n0 H' sT' xs' (W'.map (·.2)) ∧ Go.Abs.Le H0 H' ∧ ∀ d, n0 ≤ d → d < H.length → H'[d]? = H[d]?) ∨
      (conW r A M dm op W next (ps.drop i) = none ∧ ∃ sT' H', R (.loop F.iPartialNetwork 0) [.sc (.hp bs 0), ssc sp, isc (ps.length : Int), isc (i : Int), npv r s u, npv0, npv r sT u9] H = some ⟨1, [bsc false, npv0, npv r sT' u9], H'⟩ ∧ Go.Abs.Le H0 H')
  | 0, i, H, sl, sT, next, v, xs, W, hi, hO, hn, hC, hv, hW, hl, hnx, hd, hx, hord => by
    obtain rfl : i = ps.length := by omega
    rw [List.drop_eq_nil_of_le (Nat.le_refl _)]
    exact .inl ⟨W, sT, xs, H, rfl, by rw [R_eq, e_iPartialNetwork_0, lt_self]; rfl, hC, hO.fr.le, fun _ _ _ => rfl⟩
  | k + 1, i, H, sl, sT, next, v, xs, W, hi, hO, hn, hC, hv, hW, hl, hnx, hd, hx, hord => by
    have hlt : i < ps.length := by omega
    rw [List.drop_eq_getElem_cons hlt] at hord ⊢
    obtain ⟨q1, q2, q3, q4⟩ := ordW_at hord
    have hvl : v.length = W.length := by have := congrArg List.length hv; simpa [vp, labsT] using this
    have hvn : v.map (·.n) = W.map (·.1) := by rw [← vp_nums, hv, labsT_nums]
    have hvL : ∀ (m : Nat) (h1 : m < v.length) (h2 : m < W.length), v[m].n = W[m].1 ∧ v[m].l = W[m].2.L := fun m h1 h2 => by
      have := congrArg (fun l => l[m]?) hv
      simp only [vp, labsT, List.getElem?_map, List.getElem?_eq_getElem h1, List.getElem?_eq_getElem h2, Option.map_some, Option.some.injEq, Prod.mk.injEq] at this
      exact this
    have hsv : SmallV v := ⟨by omega, fun t ht => by
      obtain ⟨m, hm, rfl⟩ := List.getElem_of_mem ht
      rw [(hvL m hm (by omega)).2]
      have := (hW _ (List.getElem_mem (show m < W.length by omega))).len
      omega⟩
    have hdv : (v.map (·.n)).Nodup := by rw [hvn]; exact hd
    have ra := placeF_lo v ps[i].a 0
    have rb := placeF_lo v ps[i].b 0
    have na : ¬ placeF v ps[i].a 0 < 0 := fun h => (placeF_neg v _ 0).1 h (by rw [hvn]; exact q1)
    have nb : ¬ placeF v ps[i].b 0 < 0 := fun h => (placeF_neg v _ 0).1 h (by rw [hvn]; exact q2)
    obtain ⟨p, hpa⟩ : ∃ p : Nat, placeF v ps[i].a 0 = p := ⟨(placeF v ps[i].a 0).toNat, by omega⟩
    obtain ⟨q, hqb⟩ : ∃ q : Nat, placeF v ps[i].b 0 = q := ⟨(placeF v ps[i].b 0).toNat, by omega⟩
    have hpl' : p < v.length := by omega
    have hql' : q < v.length := by omega
    obtain ⟨hp1, _, hp2⟩ := placeF_at v _ 0 p hpa
    obtain ⟨hq1, _, hq2⟩ := placeF_at v _ 0 q hqb
    simp only [Nat.sub_zero] at hp2 hq2
    have hpW : p < W.length := by omega
    have hqW : q < W.length := by omega
    have wp : W[p].1 = ps[i].a := by rw [← (hvL p hpl' hpW).1]; exact hp2
    have wq : W[q].1 = ps[i].b := by rw [← (hvL q hql' hqW).1]; exact hq2
    have tp : tenW W ps[i].a = W[p].2 := by rw [← wp]; exact tenW_at hd hpW
    have tq : tenW W ps[i].b = W[q].2 := by rw [← wq]; exact tenW_at hd hqW
    have pa := c_place hO hsv.1 ps[i].a
    have pb := c_place hO hsv.1 ps[i].b
    rw [hpa] at pa
    rw [hqb] at pb
    have hxl : xs.length = W.length := by have := hC.len; simpa using this
    obtain ⟨cs, h1, h2, h3, h4, h5⟩ := hC.out.cells (show p < xs.length by omega)
    obtain ⟨cs', g1, g2, g3, g4, g5⟩ := hC.out.cells (show q < xs.length by omega)
    obtain rfl : cs = cs' := by rw [h1] at g1; exact Option.some.inj g1
    have hTlt : sT.b < H.length := hC.out.lt fun e => by rw [e] at hxl; simp at hxl; omega
    have tsp := hC.ts (i := p) (by omega) (by simp; omega)
    have tsq := hC.ts (i := q) (by omega) (by simp; omega)
    simp only [List.getElem_map] at tsp tsq
    obtain ⟨sk, H1, e1, l1, o1⟩ := c_resultLabels hO hsv (by omega) hpl' hql'
    have hres := vp_res (op := op) hdv hpl' hql' hp2 hq2 hpa hqb
    rw [hv] at hres
    have hKl : (resL op v p q).length ≤ 1048576 := by
      rw [hres]
      unfold resW
      have h1 := joinL_len (labW (labsT W) ps[i].a) (labW (labsT W) ps[i].b)
      rw [labW_ten, labW_ten] at h1 ⊢
      have h2 := (hW.ten q1).len
      have h3 := (hW.ten q2).len
      have h4 := List.length_filter_le (keptW op (labsT W) ps[i].a ps[i].b) (joinL (tenW W ps[i].a).L (tenW W ps[i].b).L)
      omega
    have cp := hW.ten q1
    have cq := hW.ten q2
    rw [tp] at cp
    rw [tq] at cq
    have hfit : fitT dm op W ps[i] = pairB dm W[p].2 W[q].2 (resL op v p q) := by unfold fitT; rw [tp, tq, hres]
    have hnew : newTn r A M dm op W ps[i] = ctrT r A M dm W[p].2 W[q].2 (resL op v p q) := by unfold newTn; rw [tp, tq, hres]
    have ek : ∀ {α : Type} (x : Option α), cond (decide (H1.take H.length = H.take H.length)) x none = x := fun x => by rw [decide_eq_true (le_take l1)]; rfl
    have hgo : R (.loop F.iPartialNetwork 0) [.sc (.hp bs 0), ssc sp, isc (ps.length : Int), isc (i : Int), npv r s u, npv0, npv r sT u9] H =
        ((R (.fn F.iContractPair) [r.pv, tpv xs[p].1 xs[p].2.1 xs[p].2.2, tpv xs[q].1 xs[q].2.1 xs[q].2.2, ssc sk] H1).bind fun r45 =>
      (lenP r45.vs 2).bind fun _ =>
      (nthP r45.vs 0).bind fun p46 =>
      p46.agg?.bind fun l47 =>
      cond (decide (l47.length = 3))
      ((slAt l47 0).bind fun s48 =>
       (slAt l47 1).bind fun s49 =>
       (slAt l47 2).bind fun s50 =>
       (nthP r45.vs 1).bind fun p51 =>
       p51.sc?.bind fun c52 =>
       (boolAt [c52] 0).bind fun b53 =>
       cond (!b53)
       (some ⟨1, [bsc false, npv0, npv r sT u9], r45.H⟩)
       ((R (.loop F.iPartialNetwork 1) [isc (p : Int), isc (q : Int), ssc ⟨0, 0, 0, 0, true⟩, ssc sT, isc (sT.n : Int), isc 0] r45.H).bind fun r66 =>
        cond (Nat.beq r66.e 4)
        ((nthP r66.vs 0).bind fun p67 =>
         p67.sc?.bind fun c68 =>
         (slAt [c68] 0).bind fun s69 =>
         (newB r66.H 3 [.sl s48, .sl s49, .sl s50]).bind fun h70 =>
         (rng h70.2 h70.1 0 (1 * 3)).bind fun l71 =>
         (appB h70.2 3 72 s69 l71 1).bind fun m72 =>
         (R (.fn F.x__impl_orderState__contract) [.sc (.hp bs 0), isc (p : Int), isc (q : Int)] m72.2).bind fun r73 =>
         (oneP r73.vs).bind fun p74 =>
         p74.agg?.bind fun l75 =>
         cond (decide (l75.length = 2))
         ((intAt .i64 l75 0).bind fun n76 =>
          (intAt .i64 l75 1).bind fun n77 =>
          R (.loop F.iPartialNetwork 0) [.sc (.hp bs 0), ssc sp, isc (ps.length : Int), isc ((i + 1 : Nat) : Int), npv r s u, npv0, npv r m72.1 u9] r73.H)
         (none))
        (none)))
      (none)) := by
      rw [R_eq, e_iPartialNetwork_0, lt_true hlt, w1 hlt (by omega), cond_true, (hp.le hO.fr.le).ld hlt, pa]
      simp only [Option.bind_some, one_int]
      rw [pb]
      simp only [Option.bind_some, one_int]
      rw [h2]
      simp only [Option.bind_some]
      rw [decide_eq_true hTlt, cond_true, h1]
      simp only [Option.bind_some, h3, h4, h5]
      rw [g2]
      simp only [Option.bind_some, cond_true, g3, g4, g5]
      rw [e1]
      simp only [Option.bind_some, one_sl]
      rw [ek]
    rcases c_iContractPair hR ((tsp.le l1)) ((tsq.le l1)) cp cq o1.is hKl with ⟨hpb, a', b', c', H2, e2, n2⟩ | ⟨hpb, H2, e2, l2⟩
    · -- the step is made
      have l02 := l1.trans n2.le
      obtain ⟨so3, H3, e3, F3, O3⟩ := c_iPartialNetwork_1 (H := H2) (n0 := n0) (hC.out.le l02) (by omega) p q xs.length 0 H2 ⟨0, 0, 0, 0, true⟩ [] (by omega) (Fr.start H2) (OOut.nil _ _ _) (by simp)
      rw [List.drop_zero, List.nil_append] at O3
      have hdl : (dropX p q xs 0).length ≤ xs.length := (dropX_sub p q xs 0).length_le
      obtain ⟨so4, H4, e4, F4, O4, _⟩ := push_tensor' (a := a') (b := b') (c := c') F3 O3 (by omega)
      have l24 := F4.le
      have l04 := l02.trans l24
      obtain ⟨sl', s9, H5, e5, O5, l5, f5, _⟩ := c_contract' (hO.ext l04) hsv (by omega) (by omega) hpl' hql'
      have hnt : n0 ≤ H2.length := by have := l02.len; omega
      have ob : ∀ z ∈ rows3 a' b' c' (ctrT r A M dm W[p].2 W[q].2 (resL op v p q)), Own n0 H4 z.1 z.2 := fun x hx => ((n2.rows.own x hx).low (by have := l1.len; omega)).le l24
      have C4 := (hC.step l04 O4 hnt ⟨ob (a', (ctrT r A M dm W[p].2 W[q].2 (resL op v p q)).L) (by simp), ob (b', (ctrT r A M dm W[p].2 W[q].2 (resL op v p q)).D) (by simp), ob (c', (ctrT r A M dm W[p].2 W[q].2 (resL op v p q)).X) (by simp)⟩)
      have hk5 : ∀ d, n0 ≤ d → d < H4.length → H5[d]? = H4[d]? := fun d h1 h2 => f5 d h2 (by omega)
      have C5 := C4.keepB hk5
      have hdW : dropX p q (W.map (·.2)) 0 ++ [ctrT r A M dm W[p].2 W[q].2 (resL op v p q)] = (stepT r A M dm op W next ps[i]).map (·.2) := by
        unfold stepT
        rw [← dropX_map, dropX_T W 0 fun m t ht => ⟨numW_at hd hpW wp m t ht, numW_at hd hqW wq m t ht⟩, List.map_append, hnew]
        rfl
      rw [hdW] at C5
      have hvp := vp_step (op := op) (nx := next) hdv s9 hpl' hql' hp2 hq2 hpa hqb
      rw [hv, ← stepT_labs r A M dm] at hvp
      have hf : fitT dm op W ps[i] = true := by rw [hfit]; exact hpb
      have hnums := stepT_nums r A M dm op W (next : Int) ps[i]
      obtain ⟨d1, d2⟩ := nums_step hd hx ps[i].a ps[i].b
      have hcast : ((next + 1 : Nat) : Int) = (next : Int) + 1 := by omega
      have hWl : (stepT r A M dm op W next ps[i]).length ≤ 12 := by
        have h1 := congrArg List.length hnums
        have h2 := nums_len hd q1 q2 (by omega)
        simp only [List.length_map, List.length_append, List.length_cons, List.length_nil] at h1 h2
        omega
      have ih := c_iPartialNetwork_0 hR (s := s) (u := u) (u9 := u9) hp hpl ho hbs hn0 k (i + 1) H5 sl' so4 (next + 1) _ _ (stepT r A M dm op W next ps[i]) (by omega) O5 (by have := l04.len; omega) C5 hvp (hW.step hR.alg q1 q2 hf) hWl (by omega) (by rw [hnums]; exact d1) (by rw [hnums, hcast]; exact d2) (by rw [hnums, hcast]; exact q4)
      have hcon : conW r A M dm op W next (ps[i] :: ps.drop (i + 1)) = conW r A M dm op (stepT r A M dm op W next ps[i]) ((next + 1 : Nat) : Int) (ps.drop (i + 1)) := by
        rw [hcast]
        show (if fitT dm op W ps[i] then _ else none) = _
        rw [if_pos hf]
      have hrun : R (.loop F.iPartialNetwork 0) [.sc (.hp bs 0), ssc sp, isc (ps.length : Int), isc (i : Int), npv r s u, npv0, npv r sT u9] H = R (.loop F.iPartialNetwork 0) [.sc (.hp bs 0), ssc sp, isc (ps.length : Int), isc ((i + 1 : Nat) : Int), npv r s u, npv0, npv r so4 u9] H5 := by
        rw [hgo, e2]
        simp only [Option.bind_some, t_sss_b2, Bool.not_true, cond_false]
        have e3 : R (.loop F.iPartialNetwork 1) [isc (p : Int), isc (q : Int), ssc ⟨0, 0, 0, 0, true⟩, ssc sT, isc (xs.length : Int), isc 0] H2 = _ := e3
        rw [hC.out.n, e3]
        simp only [Option.bind_some, Nat.beq, cond_true]
        rw [show ∀ (x : Sl) (K : Sl → Option Out), ((nthP [ssc x] 0).bind fun p67 => p67.sc?.bind fun c68 => (slAt [c68] 0).bind K) = K x from fun _ _ => rfl, e4]
        simp only
        rw [e5]
        simp only [Option.bind_some, o_ii]
      rw [hcon, hrun]
      rcases ih with ⟨W', sT', xs', H', c1, c2, c3, c4, c5⟩ | ⟨c1, sT', H', c2, c3⟩
      · exact .inl ⟨W', sT', xs', H', c1, c2, c3, c4, fun d h1 h2 => by
          have := l04.len
          rw [c5 d h1 (by omega), hk5 d h1 (by omega), l04.get d h2]⟩
      · exact .inr ⟨c1, sT', H', c2, c3⟩
    · -- it does not fit
      have hf : fitT dm op W ps[i] = false := by rw [hfit]; exact hpb
      refine .inr ⟨?_, sT, H2, ?_, (hO.fr.le.trans l1).trans l2⟩
      · show (if fitT dm op W ps[i] then _ else none) = _
        rw [hf]; rfl
      · rw [hgo, e2]
        rfl
end Go.Abs
/- Contracts: a network is contracted along an order (impl): the call of PartialNetwork. -/
namespace Go.Abs
set_option linter.all false
set_option maxRecDepth 10000

/-- impl.copyNetwork: the tensors -/
theorem c_icopyNetwork_0 {r : Rg} {H0 : AH} {s su : Sl} {op : List Int} {ts : List Tn} (hT : T3 H0 s ts) (hl : ts.length ≤ 1000) (hs : ∀ t ∈ ts, TnSmall t) :
    ∀ (k i : Nat) (H : AH) (so : Sl) (xs : List Tri), i + k = ts.length → NetR H0 H so xs (ts.take i) [(su, op)] →
      ∃ s' xs' H', R (.loop F.icopyNetwork 0) [ssc s, isc (ts.length : Int), isc (i : Int), npv r so su] H = some ⟨2, [npv r s' su], H'⟩ ∧ NetR H0 H' s' xs' ts [(su, op)]
  | 0, i, H, so, xs, hi, hN => by
    obtain rfl : i = ts.length := by omega
    rw [List.take_length] at hN
    exact ⟨so, xs, H, by rw [R_eq, e_icopyNetwork_0, lt_self]; rfl, hN⟩
  | k + 1, i, H, so, xs, hi, hN => by
    have hlt : i < ts.length := by omega
    obtain ⟨a, b, c, ht, kt⟩ := (hT.le hN.fr.le).ld hlt
    have lr := Go.Abs.Le.app H [resB]
    obtain ⟨a1, b1, c1, H1, e1, n1⟩ := n_icopyTensor (ht.le lr) (hs _ (List.getElem_mem hlt))
    have hxl : xs.length ≤ 1048576 := by have := hN.len; simp at this; omega
    obtain ⟨so', H2, e2, F2, O2, l2, _⟩ := push_tensor hN.fr hN.out hxl n1
    have F3 := Fr.snocT (xs := xs) (ts := ts.take i) F2 hN.len
    obtain ⟨s', xs', H3, e3, N3⟩ := c_icopyNetwork_0 (r := r) hT hl hs k (i + 1) H2 so' (xs ++ [(a1, b1, c1)]) (by omega) (by
      rw [take_snocT hlt]
      exact ⟨F3, by have := hN.len; simp at this ⊢; omega, O2⟩)
    refine ⟨s', xs', H3, ?_, N3⟩
    rw [R_eq, e_icopyNetwork_0, lt_true hlt, w1 hlt (by omega), cond_true, kt, reserve1, e1]
    simp only [Option.bind_some, o_sss]
    rw [e2]
    exact e3
/-- impl.copyNetwork -/
theorem c_icopyNetwork {H : AH} {s u : Sl} {n : Nw} (h : NS H s u n) (hl : n.ts.length ≤ 1000) (hs : ∀ t ∈ n.ts, TnSmall t) (ho : n.op.length ≤ 1048576) :
    ∃ s' u' xs' H', R (.fn F.icopyNetwork) [npv n.r s u] H = some ⟨1, [npv n.r s' u'], H'⟩ ∧ NetR H H' s' xs' n.ts [(u', n.op)] := by
  obtain ⟨u', H1, e1, l1, o1⟩ := c_icopyInts h.op (by omega)
  have F1 := (Fr.start H).new l1 o1
  have N1 : NetR H H1 ⟨0, 0, 0, 0, true⟩ [] (n.ts.take 0) [(u', n.op)] := ⟨by simpa [rowsT] using F1, rfl, OOut.nil _ _ _⟩
  obtain ⟨s', xs', H2, e2, N2⟩ := c_icopyNetwork_0 (r := n.r) h.ts hl hs n.ts.length 0 H1 ⟨0, 0, 0, 0, true⟩ [] (by omega) N1
  refine ⟨s', u', xs', H2, ?_, N2⟩
  have e2 : R (.loop F.icopyNetwork 0) [ssc s, isc (n.ts.length : Int), isc 0, npv n.r ⟨0, 0, 0, 0, true⟩ u'] H1 = _ := e2
  rw [R_eq, e_icopyNetwork, e1]
  simp only [Option.bind_some, one_sl]
  rw [h.ts.1, e2]
  simp only [Option.bind_some, Nat.beq, cond_true]
  rw [agg5]
/-- The tensors by their numbers. -/
def W0T (ts : List Tn) : List (Int × Tn) := ts.zipIdx.map fun x => ((x.2 : Int), x.1)
theorem W0T_labs (ts : List Tn) : labsT (W0T ts) = W0 ts := by
  unfold labsT W0T W0
  rw [List.map_map]
  rfl
theorem W0T_ts (ts : List Tn) : (W0T ts).map (·.2) = ts := by
  unfold W0T
  refine List.ext_getElem (by simp) fun i h1 h2 => ?_
  simp
theorem W0T_nums (ts : List Tn) : (W0T ts).map (·.1) = (List.range ts.length).map fun i : Nat => (i : Int) := by
  unfold W0T
  refine List.ext_getElem (by simp) fun i h1 h2 => ?_
  simp
theorem range_nodup (m : Nat) : ((List.range m).map fun i : Nat => (i : Int)).Nodup ∧ ∀ x ∈ (List.range m).map (fun i : Nat => (i : Int)), x < (m : Int) := by
  refine ⟨?_, fun x hx => ?_⟩
  · rw [List.Nodup, List.pairwise_map]
    exact List.Pairwise.imp (fun h => by omega) (List.pairwise_lt_range (n := m))
  · obtain ⟨i, hi, rfl⟩ := List.mem_map.1 hx
    have := List.mem_range.1 hi
    omega
theorem W0T_wc {n : Nw} (hn : netB n = true) : WC n.r (dimF n.ts) (W0T n.ts) := fun x hx => by
  have hm : x.2 ∈ n.ts := by
    have : x.2 ∈ (W0T n.ts).map (·.2) := List.mem_map.2 ⟨x, hx, rfl⟩
    rwa [W0T_ts] at this
  exact ⟨net_mem hn x.2 hm, net_dims hn x.2 hm⟩
theorem S2.whole {H : AH} {s : Sl} {ps : List Sp} (h : S2 H s ps) : ∃ s', slB s none (some (s.n : Int)) none 2 = some s' ∧ S2 H s' ps := by
  refine ⟨⟨s.b, s.o, s.n, s.c, s.x⟩, ?_, h.1, h.2.1, h.2.2⟩
  have hc := h.2.1
  unfold slB
  simp only [Option.bind_some, Option.getD_some, Option.getD_none]
  rw [if_pos ⟨by omega, by omega, by omega, by omega⟩]
  simp
/-- impl.PartialNetwork, all steps -/
theorem c_iPartialNetwork {A M : List Int → List Int → List Int} {H : AH} {s u sp : Sl} {n : Nw} {ps : List Sp} (hR : RC n.r A M) (h : NS H s u n) (hp : S2 H sp ps) (hord : ordB n ps = true) :
    (∃ W' sT' u' xs' H', conW n.r A M (dimF n.ts) n.op (W0T n.ts) n.ts.length ps = some W' ∧ R (.fn F.iPartialNetwork) [npv n.r s u, ssc sp, isc (sp.n : Int)] H = some ⟨1, [npv n.r sT' u', bsc true], H'⟩ ∧ Go.Abs.Le H H' ∧ ∃ n0, CS n0 H' sT' xs' (W'.map (·.2))) ∨
    (conW n.r A M (dimF n.ts) n.op (W0T n.ts) n.ts.length ps = none ∧ ∃ H', R (.fn F.iPartialNetwork) [npv n.r s u, ssc sp, isc (sp.n : Int)] H = some ⟨1, [npv0, bsc false], H'⟩ ∧ Go.Abs.Le H H') := by
  obtain ⟨hn, hpl, ho⟩ := ordB_at hord
  obtain ⟨b1, b2, b3⟩ := netB_small hn
  obtain ⟨H1, e1, l1⟩ := c_iOrderOk h (by omega) hp (by omega)
  rw [hord] at e1
  obtain ⟨bs, D, sl, v, H2, e2, O2, v2, hD⟩ := c_start (h.le l1) hn
  obtain ⟨f1, f2, f3, f4, f5, f6⟩ := start_facts hn v2
  have l12 := l1.trans O2.fr.le
  obtain ⟨s3, u3, xs3, H3, e3, N3⟩ := c_icopyNetwork (h.le l12) (by omega) (fun t ht => by
    have hT := tensor_ok (net_mem hn t ht)
    have hw := width_range hT.rg
    have h1 := hT.len
    have h2 := hT.d.2.2
    have h3 := prd_pos hT.d.ge
    have h4 : prd t.D * widthR n.r ≤ 4096 * 6 := Int.mul_le_mul h2 hw.2 (by omega) (by omega)
    have h5 := tensor_dims (net_mem hn t ht)
    exact ⟨by omega, by omega, by omega⟩) (by omega)
  have l13 := l12.trans N3.fr.le
  obtain ⟨s', es, hs'⟩ := S2.whole (hp.le l13)
  have O3 := O2.ext N3.fr.le
  have hC := N3.cs
  have hW := W0T_wc hn
  obtain ⟨rn1, rn2⟩ := range_nodup n.ts.length
  have hpbs : bs < H2.length := (List.getElem?_eq_some_iff.1 O2.blk).1
  have hC : CS H2.length H3 s3 xs3 ((W0T n.ts).map (·.2)) := by rw [W0T_ts]; exact hC
  have hWl : (W0T n.ts).length ≤ 12 := by unfold W0T; simpa using b1
  have l1H := l1.trans O2.fr.le
  have hlow : OS H1 H3 bs D n.op u sl n.ts.length v := O3
  have key := c_iPartialNetwork_0 hR (r := n.r) (dm := dimF n.ts) (n0 := H2.length) (s := s) (u := u) (u9 := u3) (sp := sp) (hp.le l1) (by omega) (by omega) hpbs O2.fr.le.len ps.length 0 H3 sl s3 n.ts.length v xs3 (W0T n.ts) (by omega) O3 N3.fr.le.len hC (by rw [v2, W0T_labs]) hW hWl (by omega) (by rw [W0T_nums]; exact rn1) (by rw [W0T_nums]; exact rn2) (by rw [W0T_nums, List.drop_zero]; exact ho)
  rw [List.drop_zero] at key
  have hgo : ∀ K, R (.loop F.iPartialNetwork 0) [.sc (.hp bs 0), ssc sp, isc (ps.length : Int), isc 0, npv n.r s u, npv0, npv n.r s3 u3] H3 = some K → True := fun _ _ => trivial
  have hsb : slB sp none (some (sp.n : Int)) none 2 = some sp := by
    have hc := hp.2.1
    unfold slB
    simp only [Option.bind_some, Option.getD_some, Option.getD_none]
    rw [if_pos ⟨by omega, by omega, by omega, by omega⟩]
    simp
  have hneg : decide ((sp.n : Int) < 0) = false := decide_eq_false (by omega)
  have hgt : decide ((sp.n : Int) > (sp.n : Int)) = false := decide_eq_false (by omega)
  rcases key with ⟨W', sT', xs', H', c1, c2, c3, c4, _⟩ | ⟨c1, sT', H', c2, c3⟩
  · refine .inl ⟨W', sT', u3, xs', H', c1, ?_, l1.trans c4, H2.length, c3⟩
    have c2 : R (.loop F.iPartialNetwork 0) [.sc (.hp bs 0), ssc sp, isc (ps.length : Int), isc 0, npv n.r s u, npv0, npv n.r s3 u3] H3 = _ := c2
    rw [R_eq, e_iPartialNetwork, e1]
    simp only [Option.bind_some, one_bool, Bool.not_true, cond_false, hneg, hgt]
    rw [e2]
    simp only [Option.bind_some, one_hp]
    rw [e3]
    simp only [Option.bind_some, o_iiiss]
    rw [hsb]
    simp only [Option.bind_some]
    rw [hp.1, c2]
    rfl
  · refine .inr ⟨c1, H', ?_, l1.trans c3⟩
    have c2 : R (.loop F.iPartialNetwork 0) [.sc (.hp bs 0), ssc sp, isc (ps.length : Int), isc 0, npv n.r s u, npv0, npv n.r s3 u3] H3 = _ := c2
    rw [R_eq, e_iPartialNetwork, e1]
    simp only [Option.bind_some, one_bool, Bool.not_true, cond_false, hneg, hgt]
    rw [e2]
    simp only [Option.bind_some, one_hp]
    rw [e3]
    simp only [Option.bind_some, o_iiiss]
    rw [hsb]
    simp only [Option.bind_some]
    rw [hp.1, c2]
    rfl
end Go.Abs
/- Contracts: a tensor is summed to a single element (both). -/
namespace Go.Abs
set_option linter.all false
set_option maxRecDepth 10000

def oneT (r : Rg) : Tn := ⟨[], [], oneR r⟩
def sumX (r : Rg) (A M : List Int → List Int → List Int) (dm : Int → Int) (t : Tn) : List Int := (ctrT r A M dm t (oneT r) []).X
theorem one_ct {r : Rg} (hr : ringB r = true) (h1 : VE r (oneR r)) (dm : Int → Int) : CT r dm (oneT r) := by
  refine ⟨tensor_mk ⟨hr, rfl, ⟨by simp [oneT], by simp [oneT], by simp [oneT, prd]⟩, ?_, ?_⟩, rfl⟩
  · show (((oneR r).length : Nat) : Int) = 1 * widthR r
    rw [h1.1, Int.one_mul]
  · refine List.all_eq_true.2 fun v hv => ?_
    have := h1.2 v hv
    simpa [inB] using this
theorem keepF_nil (m : List Int) : keepF m [] = [] := by
  unfold keepF
  refine List.filter_eq_nil_iff.2 fun x _ => by simp
theorem joinL_nil (a : List Int) : joinL a [] = a := by simp [joinL, colF]
theorem sum_fits {r : Rg} {dm : Int → Int} {t : Tn} (ht : CT r dm t) : pairB dm t (oneT r) [] = true := by
  have hT := tensor_ok ht.ok
  unfold pairB
  show (decide (prd ((joinL t.L []).map dm) ≤ 65536) && decide (sizeB (keepF (joinL t.L []) []) ((keepF (joinL t.L []) []).map dm) ≠ -1)) = true
  rw [keepF_nil, joinL_nil, ← ht.d]
  have := hT.d.2.2
  rw [decide_eq_true (show prd t.D ≤ 65536 by omega)]
  rfl
theorem sum_T {r : Rg} {A M : List Int → List Int → List Int} {dm : Int → Int} {t : Tn} : ctrT r A M dm t (oneT r) [] = ⟨[], [], sumX r A M dm t⟩ := by
  unfold sumX ctrT
  rw [keepF_nil]
  rfl
theorem sum_ve {r : Rg} {A M : List Int → List Int → List Int} {dm : Int → Int} {t : Tn} (ht : CT r dm t) (hA : AlgOk r A M) (h1 : VE r (oneR r)) : VE r (sumX r A M dm t) ∧ tensorB r ⟨[], [], sumX r A M dm t⟩ = true := by
  have hc := pair_ct ht (one_ct hA.rg h1 dm) hA (sum_fits ht)
  rw [sum_T] at hc
  refine ⟨?_, hc.ok⟩
  have hT := tensor_ok hc.ok
  refine ⟨?_, fun v hv => ?_⟩
  · have := hT.len
    simpa [prd] using this
  · have := List.all_eq_true.1 hT.all v hv
    simpa [inB] using this
theorem IS.nil' (H : AH) (b c : Nat) (x : Bool) : IS H ⟨b, 0, 0, c, x⟩ [] := ⟨rfl, Nat.zero_le _, .inl rfl⟩
/-- impl.SumLabels, to nothing -/
theorem c_iSumLabels0 {r : Rg} {A M : List Int → List Int → List Int} {dm : Int → Int} {t : Tn} (hR : RC r A M) (h1 : VE r (oneR r)) {H : AH} {a b c sk : Sl} (ht : TS H a b c t) (hc : CT r dm t) (hk : IS H sk []) :
    ∃ a' b' c' H', R (.fn F.iSumLabels) [r.pv, tpv a b c, ssc sk] H = some ⟨1, [tpv a' b' c'], H'⟩ ∧ NewT H H' a' b' c' ⟨[], [], sumX r A M dm t⟩ := by
  have e1 := c_iTensorOk r ht
  rw [hc.ok] at e1
  obtain ⟨s4, H1, e2, n2⟩ := c_irawOne hR.alg.rg H
  have e3 : R (.fn F.iscalarOne) [r.pv] H = some ⟨1, [tpv ⟨0, 0, 0, 0, true⟩ ⟨0, 0, 0, 0, true⟩ s4], H1⟩ := by
    rw [R_eq, e_iscalarOne, e2]; rfl
  rcases c_iContractPair hR (ht.le n2.le) (show TS H1 ⟨0, 0, 0, 0, true⟩ ⟨0, 0, 0, 0, true⟩ s4 (oneT r) from ⟨IS.nil' _ _ _ _, IS.nil' _ _ _ _, n2.own.is⟩) hc (one_ct hR.alg.rg h1 dm) (hk.le n2.le) (by simp) with ⟨_, a', b', c', H', e4, n4⟩ | ⟨hb, _⟩
  · rw [sum_T] at n4
    refine ⟨a', b', c', H', ?_, ⟨n2.le.trans n4.le, n4.rows.low n2.le.len⟩⟩
    rw [R_eq, e_iSumLabels, e1]
    simp only [Option.bind_some, one_bool, Bool.not_true, cond_false]
    rw [e3]
    simp only [Option.bind_some, o_sss]
    rw [e4]
    rfl
  · rw [sum_fits hc] at hb; cases hb
/-- spec.l08Sum, to nothing -/
theorem c_sl08Sum0 {r : Rg} {A M : List Int → List Int → List Int} {dm : Int → Int} {t : Tn} (hR : RC r A M) (h1 : VE r (oneR r)) {H : AH} {a b c sk : Sl} (ht : TS H a b c t) (hc : CT r dm t) (hk : IS H sk []) :
    ∃ a' b' c' H', R (.fn F.sl08Sum) [r.pv, tpv a b c, ssc sk] H = some ⟨1, [tpv a' b' c'], H'⟩ ∧ NewT H H' a' b' c' ⟨[], [], sumX r A M dm t⟩ := by
  obtain ⟨s4, H1, e2, n2⟩ := c_sl02One hR.alg.rg H
  obtain ⟨a', b', c', H', e4, n4⟩ := c_sl08Pair hR (ht.le n2.le) (show TS H1 ⟨0, 0, 0, 0, true⟩ ⟨0, 0, 0, 0, true⟩ s4 (oneT r) from ⟨IS.nil' _ _ _ _, IS.nil' _ _ _ _, n2.own.is⟩) hc (one_ct hR.alg.rg h1 dm) (hk.le n2.le) (by simp) (sum_fits hc)
  rw [sum_T] at n4
  refine ⟨a', b', c', H', ?_, ⟨n2.le.trans n4.le, n4.rows.low n2.le.len⟩⟩
  rw [R_eq, e_sl08Sum, e2]
  simp only [Option.bind_some, one_sl]
  rw [e4]
  rfl
theorem getE_one {w : Nat} {X : List Int} (h : X.length = w) : (X.drop (0 * w)).take w = X := by
  rw [Nat.zero_mul, List.drop_zero, List.take_of_length_le (by omega)]
/-- impl.rawPermute, of a single element -/
theorem c_irawPermute0 {r : Rg} {H : AH} {a b c sk : Sl} {X : List Int} {w : Nat} (hw : widthR r = (w : Int)) (hw1 : 1 ≤ w) (hw6 : w ≤ 6) (ht : TS H a b c ⟨[], [], X⟩) (hX : X.length = w) (hk : IS H sk []) :
    ∃ a' b' c' H', R (.fn F.irawPermute) [r.pv, tpv a b c, ssc sk] H = some ⟨1, [tpv a' b' c'], H'⟩ ∧ Go.Abs.Le H H' ∧ TS H' a' b' c' ⟨[], [], X⟩ := by
  have hr1 : (reserve H 1) = H ++ [resB] := rfl
  have hk1 : ((reserve H 1).set (H.length + 0) deadB) = H ++ [deadB] := by simp [hr1]
  have hle0 := Go.Abs.Le.app H [deadB]
  obtain ⟨s4, H1, e1, l1, o1⟩ := c_icopyInts (hk.le hle0) (by simp)
  have hlen1 : H.length + 1 ≤ H1.length := by have := l1.len; simpa using this
  have hrest : ∃ H2, restB (reserve H 1) H1 (H.length + 0) = H2 ∧ isRes H2 H.length = true ∧ H2.length = H1.length ∧ ∀ b, b ≠ H.length → H2[b]? = H1[b]? := by
    refine ⟨_, rfl, ?_, by simp [restB], fun b hb => ?_⟩
    · unfold isRes restB
      rw [hr1]
      simp [show H.length < H1.length by omega, resB]
    · simp only [restB, Nat.add_zero]
      rw [List.getElem?_set_ne (Ne.symm hb)]
  obtain ⟨H2, hH2, hres, hlen2, hoth⟩ := hrest
  have hle2 : Go.Abs.Le H H2 := ⟨by omega, fun b hb => by rw [hoth b (by omega), l1.get b (by simp; omega)]; exact List.getElem?_append_left hb⟩
  have hmk := mkAt_ints (H := H2) (i := H.length) (n := 0) hres (by omega)
  have hle3 := hle2.set (b := H.length) (k := ⟨ics (List.replicate 0 0), .rw, 1⟩) (Nat.le_refl _)
  generalize hH3 : H2.set H.length ⟨ics (List.replicate 0 0), .rw, 1⟩ = H3 at *
  have hkn := hk.n
  simp only [List.length_nil] at hkn
  have hsk0 : IS H3 sk [] := hk.le hle3
  have e2 := c_istridesOf2 (c := c) (ht.L.le hle3) (ht.D.le hle3) hsk0 (by simp) (by simp) ⟨by simp, by simp, by simp [prd]⟩
  have hst : strM [] (⟨[], [], X⟩ : Tn).L (⟨[], [], X⟩ : Tn).D = [] := List.length_eq_zero_iff.1 (strM_len _ _ _)
  rw [hst] at e2
  have l4 := Go.Abs.Le.app H3 [⟨ics [], .rw, 1⟩]
  generalize hH4 : H3 ++ [⟨ics [], .rw, 1⟩] = H4 at *
  have l5 := Go.Abs.Le.app H4 [⟨ics (List.replicate 0 0), .rw, 1⟩]
  have hm5 : mkB H4 1 8 [.int .i64 0] ((0 : Nat) : Int) ((0 : Nat) : Int) = some (⟨H4.length, 0, 0, 0, true⟩, H4 ++ [⟨ics (List.replicate 0 0), .rw, 1⟩]) := mk_ints (by omega)
  generalize hH5 : H4 ++ [⟨ics (List.replicate 0 0), .rw, 1⟩] = H5 at *
  have hle5 := (hle3.trans l4).trans l5
  have e3 := c_idotOf2 (H := H5) (a := ⟨H3.length, 0, ([] : List Int).length, ([] : List Int).length, true⟩) (b := ⟨H4.length, 0, 0, 0, true⟩) (l := []) (m := []) (IS.nil' _ _ _ _) (IS.nil' _ _ _ _) rfl (by simp) (by simp) (by simp)
  have hX5 : IS H5 c X := ht.X.le hle5
  have hcc : X.length ≤ c.c := by have := hX5.n; have := hX5.c; omega
  have e4 := c_irawElem' (r := r) (H := H5) (a := a) (b := b) (c := c) (n := 0) (w := w) hw (by omega) (by omega) (by omega) hw6
  have hpart := hX5.part (o := 0 * w) (m := w) (by omega)
  rw [getE_one hX] at hpart
  have hap : ∃ s6 H6, appB H5 1 8 ⟨0, 0, 0, 0, true⟩ (ics X) w = some (s6, H6) ∧ Go.Abs.Le H5 H6 ∧ IS H6 s6 X := by
    obtain ⟨s6, H6, e, F6, l6⟩ := Fr.app [] (ys := []) (s := ⟨0, 0, 0, 0, true⟩) (l := []) (m := X) ((Fr.start H5).empty 0) (by simp; omega)
    rw [hX] at e
    refine ⟨s6, H6, e, F6.le, ?_⟩
    have := F6.is (s := s6) (l := [] ++ X) (by simp)
    simpa using this
  obtain ⟨s6, H6, e5, l6, i6⟩ := hap
  obtain ⟨H7, e7, m7⟩ := m_inextIndex (n0 := 0) (H := H6) (s := ⟨H.length, 0, 0, 0, true⟩) (u := ⟨H4.length, 0, 0, 0, true⟩) (D := []) (I := []) (IS.nil' _ _ _ _) (by simp) ⟨rfl, rfl, rfl, .inl rfl, .inl ⟨rfl, rfl⟩⟩ (fun e => absurd rfl e) rfl (by simp)
  have hle7 : Go.Abs.Le H6 H7 := ⟨by rw [m7.len]; exact Nat.le_refl _, fun d hd => m7.fr d (.inr rfl)⟩
  refine ⟨s4, ⟨H.length, 0, 0, 0, true⟩, s6, H7, ?_, (hle5.trans l6).trans hle7, ?_, IS.nil' _ _ _ _, i6.le hle7⟩
  · have hge : decide (H1.length ≥ (reserve H 1).length) = true := decide_eq_true (by rw [hr1]; simp; omega)
    have eL : R (.loop F.irawPermute 0) [ssc sk, isc 0, isc 0, tpv a b c, tpv s4 ⟨H.length, 0, 0, 0, true⟩ ⟨0, 0, 0, 0, true⟩] H3 = some ⟨2, [], H3⟩ := by rw [R_eq, e_irawPermute_0]; rfl
    have eM : R (.loop F.irawPermute 1) [ssc ⟨H3.length, 0, 0, 0, true⟩, ssc ⟨H4.length, 0, 0, 0, true⟩, r.pv, tpv a b c, tpv ⟨0, 0, 0, 0, true⟩ ⟨0, 0, 0, 0, true⟩ ⟨0, 0, 0, 0, true⟩, tpv s4 ⟨H.length, 0, 0, 0, true⟩ ⟨0, 0, 0, 0, true⟩] H5 = some ⟨1, [tpv s4 ⟨H.length, 0, 0, 0, true⟩ s6, tpv s4 ⟨H.length, 0, 0, 0, true⟩ s6], H7⟩ := by
      have e3 : R (.fn F.idotOf) [ssc ⟨H3.length, 0, 0, 0, true⟩, ssc ⟨H4.length, 0, 0, 0, true⟩] H5 = some ⟨1, [isc 0], H5⟩ := e3
      have e4 : R (.fn F.irawElem) [r.pv, tpv a b c, isc 0] H5 = some ⟨1, [ssc (partAt c w 0)], H5⟩ := e4
      rw [R_eq, e_irawPermute_1, e3]
      simp only [Option.bind_some, one_int]
      rw [e4]
      simp only [Option.bind_some, one_sl]
      have hr := hpart.rng
      have hr : rng H5 (partAt c w 0).b (partAt c w 0).o ((partAt c w 0).n * 1) = some (ics X) := by rw [Nat.mul_one]; simpa using hr
      rw [hr]
      simp only [Option.bind_some]
      rw [e5]
      simp only [Option.bind_some]
      rw [e7]
      rfl
    rw [R_eq, e_irawPermute, hk1, e1]
    simp only [Option.bind_some, one_sl]
    rw [hge, cond_true, hH2, hkn]
    rw [show mkAt H2 (H.length + 0) 1 8 [Sc.int .i64 0] ((0 : Nat) : Int) ((0 : Nat) : Int) = _ from hmk]
    simp only [Option.bind_some]
    rw [show R (.loop F.irawPermute 0) [ssc sk, isc ((0 : Nat) : Int), isc 0, tpv a b c, tpv s4 ⟨H.length, 0, 0, 0, true⟩ ⟨0, 0, 0, 0, true⟩] H3 = _ from eL]
    simp only [Option.bind_some, Nat.beq, cond_true]
    rw [e2]
    simp only [Option.bind_some, one_sl]
    rw [hm5]
    simp only [Option.bind_some]
    rw [show R (.loop F.irawPermute 1) [ssc ⟨H3.length, 0, ([] : List Int).length, ([] : List Int).length, true⟩, ssc ⟨H4.length, 0, 0, 0, true⟩, r.pv, tpv a b c, tpv ⟨0, 0, 0, 0, true⟩ ⟨0, 0, 0, 0, true⟩ ⟨0, 0, 0, 0, true⟩, tpv s4 ⟨H.length, 0, 0, 0, true⟩ ⟨0, 0, 0, 0, true⟩] H5 = _ from eM]
    rfl
  · have hn4 : s4.n = 0 := o1.n
    exact ⟨hn4, by omega, .inl rfl⟩
/-- impl.PermuteTensor, of a single element -/
theorem c_iPermuteTensor0 {r : Rg} {H : AH} {a b c sk : Sl} {X : List Int} {w : Nat} (hw : widthR r = (w : Int)) (hw1 : 1 ≤ w) (hw6 : w ≤ 6) (ht : TS H a b c ⟨[], [], X⟩) (hok : tensorB r ⟨[], [], X⟩ = true) (hX : X.length = w) (hk : IS H sk []) :
    ∃ a' b' c' H', R (.fn F.iPermuteTensor) [r.pv, tpv a b c, ssc sk] H = some ⟨1, [tpv a' b' c', bsc true], H'⟩ ∧ Go.Abs.Le H H' ∧ TS H' a' b' c' ⟨[], [], X⟩ := by
  have e1 := c_iTensorOk r ht
  rw [hok] at e1
  have hkn : sk.n = 0 := hk.n
  have han : a.n = 0 := ht.L.n
  have e2 : R (.fn F.isameLabels) [ssc a, ssc sk] H = some ⟨1, [bsc true], H⟩ := by
    have eL : R (.loop F.isameLabels 0) [ssc a, ssc sk, ssc sk, isc 0, isc 0] H = some ⟨2, [], H⟩ := by rw [R_eq, e_isameLabels_0]; rfl
    rw [R_eq, e_isameLabels, hkn, han]
    rw [show ((((0 : Nat) : Int)) != (((0 : Nat) : Int))) = false from rfl, cond_false]
    rw [show R (.loop F.isameLabels 0) [ssc a, ssc sk, ssc sk, isc ((0 : Nat) : Int), isc 0] H = _ from eL]
    rfl
  obtain ⟨a', b', c', H', e3, l3, t3⟩ := c_irawPermute0 hw hw1 hw6 ht hX hk
  refine ⟨a', b', c', H', ?_, l3, t3⟩
  rw [R_eq, e_iPermuteTensor, e1]
  simp only [Option.bind_some, one_bool, Bool.not_true, cond_false]
  rw [e2]
  simp only [Option.bind_some, one_bool, Bool.not_true, cond_false]
  rw [e3]
  rfl
/-- impl.FinishTensor, of a network without open labels -/
theorem c_iFinishTensor0 {A M : List Int → List Int → List Int} {dm : Int → Int} {t : Tn} {n : Nw} (hR : RC n.r A M) (h1 : VE n.r (oneR n.r)) {H : AH} {s u a b c : Sl} (h : NS H s u n) (hn : netB n = true) (ho : n.op = []) (ht : TS H a b c t) (hc : CT n.r dm t) :
    ∃ a' b' c' H', R (.fn F.iFinishTensor) [npv n.r s u, tpv a b c] H = some ⟨1, [tpv a' b' c', bsc true], H'⟩ ∧ Go.Abs.Le H H' ∧ TS H' a' b' c' ⟨[], [], sumX n.r A M dm t⟩ := by
  obtain ⟨H1, e1, l1⟩ := c_iNetworkOk h (by rw [ho]; simp)
  rw [hn] at e1
  have e2 := c_iTensorOk n.r (ht.le l1)
  rw [hc.ok] at e2
  have hu : IS H1 u [] := by have := h.op.le l1; rwa [ho] at this
  have hun : u.n = 0 := hu.n
  have e3 : R (.fn F.iallIn) [ssc u, ssc a] H1 = some ⟨1, [bsc true], H1⟩ := by
    have eL : R (.loop F.iallIn 0) [ssc a, ssc u, isc 0, isc 0] H1 = some ⟨2, [], H1⟩ := by rw [R_eq, e_iallIn_0]; rfl
    rw [R_eq, e_iallIn, hun]
    rw [show R (.loop F.iallIn 0) [ssc a, ssc u, isc ((0 : Nat) : Int), isc 0] H1 = _ from eL]
    rfl
  obtain ⟨a2, b2, c2, H2, e4, n4⟩ := c_iSumLabels0 hR h1 (ht.le l1) hc hu
  obtain ⟨v1, v2⟩ := sum_ve hc hR.alg h1
  have hwr := width_range hR.alg.rg
  obtain ⟨w, hw⟩ : ∃ w : Nat, widthR n.r = (w : Int) := ⟨(widthR n.r).toNat, by omega⟩
  obtain ⟨a3, b3, c3, H3, e5, l5, t5⟩ := c_iPermuteTensor0 hw (by omega) (by omega) n4.ts v2 (by have := v1.1; omega) (hu.le n4.le)
  refine ⟨a3, b3, c3, H3, ?_, (l1.trans n4.le).trans l5, t5⟩
  rw [R_eq, e_iFinishTensor, e1]
  simp only [Option.bind_some, one_bool, Bool.not_true, cond_false]
  rw [e2]
  simp only [Option.bind_some, one_bool, Bool.not_true, cond_false]
  rw [e3]
  simp only [Option.bind_some, one_bool, Bool.not_true, cond_false]
  rw [e4]
  simp only [Option.bind_some, o_sss]
  rw [e5]
  rfl
end Go.Abs
/- Contracts: a network without open labels is contracted (impl). -/
namespace Go.Abs
set_option linter.all false
set_option maxRecDepth 10000

def valW (r : Rg) (A M : List Int → List Int → List Int) (dm : Int → Int) : List (Int × Tn) → List Int
  | [] => oneR r
  | x :: _ => sumX r A M dm x.2
def conV (A M : List Int → List Int → List Int) (n : Nw) (ps : List Sp) : Option (List Int) :=
  if ordB n ps then (conW n.r A M (dimF n.ts) n.op (W0T n.ts) n.ts.length ps).map (valW n.r A M (dimF n.ts)) else none
/-- impl.Contract, of a network without open labels -/
theorem c_iContract0 {A M : List Int → List Int → List Int} {n : Nw} (hR : RC n.r A M) (h1 : VE n.r (oneR n.r)) {H : AH} {s u sp : Sl} {ps : List Sp} (h : NS H s u n) (ho : n.op = []) (hts : n.ts.length ≤ 4611686018427387904) (hp : S2 H sp ps) :
    (∃ X, conV A M n ps = some X ∧ ∃ a b c H', R (.fn F.iContract) [npv n.r s u, ssc sp] H = some ⟨1, [tpv a b c, bsc true], H'⟩ ∧ Go.Abs.Le H H' ∧ IS H' c X) ∨
    (conV A M n ps = none ∧ ∃ H', R (.fn F.iContract) [npv n.r s u, ssc sp] H = some ⟨1, [tpv ⟨0, 0, 0, 0, true⟩ ⟨0, 0, 0, 0, true⟩ ⟨0, 0, 0, 0, true⟩, bsc false], H'⟩ ∧ Go.Abs.Le H H') := by
  unfold conV
  cases hord : ordB n ps with
  | false =>
    simp only [Bool.false_eq_true, if_false]
    obtain ⟨H1, e1, l1⟩ := c_iOrderOk h (by rw [ho]; simp) hp hts
    rw [hord] at e1
    have e2 : R (.fn F.iPartialNetwork) [npv n.r s u, ssc sp, isc (sp.n : Int)] H = some ⟨1, [npv0, bsc false], H1⟩ := by
      rw [R_eq, e_iPartialNetwork, e1]; rfl
    refine .inr ⟨trivial, H1, ?_, l1⟩
    rw [R_eq, e_iContract, e2]
    rfl
  | true =>
    simp only [if_true]
    have hn := (ordB_at hord).1
    obtain ⟨_, hpl, hon⟩ := ordB_at hord
    rcases c_iPartialNetwork hR h hp hord with ⟨W', sT, u', xs, H1, c1, e1, l1, n0, hC⟩ | ⟨c1, H1, e1, l1⟩
    · have hWC := conW_wc hR.alg ps _ _ _ (W0T_wc hn) (by rw [W0T_nums]; exact hon) c1
      have hxl := hC.len
      rw [List.length_map] at hxl
      rw [c1]
      cases hW : W' with
      | nil =>
        subst hW
        obtain ⟨s4, H2, e2, n2⟩ := c_irawOne hR.alg.rg H1
        have hs0 : sT.n = 0 := by rw [hC.out.n, hxl]; rfl
        have e3 : R (.fn F.iscalarOne) [n.r.pv] H1 = some ⟨1, [tpv ⟨0, 0, 0, 0, true⟩ ⟨0, 0, 0, 0, true⟩ s4], H2⟩ := by
          rw [R_eq, e_iscalarOne, e2]; rfl
        refine .inl ⟨oneR n.r, rfl, ⟨0, 0, 0, 0, true⟩, ⟨0, 0, 0, 0, true⟩, s4, H2, ?_, l1.trans n2.le, n2.own.is⟩
        rw [R_eq, e_iContract, e1]
        simp only [Option.bind_some, t_iiiss_b, Bool.not_true, cond_false, hs0]
        rw [show ((((0 : Nat) : Int)) == 0) = true from rfl, cond_true, e3]
        rfl
      | cons x W2 =>
        subst hW
        have h0 : 0 < xs.length := by rw [hxl]; simp
        have hs0 : ((sT.n : Int) == 0) = false := by
          have := hC.out.n
          simp only [beq_eq_false_iff_ne, ne_eq]; omega
        obtain ⟨cs, q1, q2, q3, q4, q5⟩ := hC.out.cells h0
        have hts := hC.ts h0 (by simp)
        obtain ⟨a, b, c, H2, e2, l2, t2⟩ := c_iFinishTensor0 hR h1 (h.le l1) hn ho hts (hWC x List.mem_cons_self)
        refine .inl ⟨_, rfl, a, b, c, H2, ?_, l1.trans l2, t2.X⟩
        rw [R_eq, e_iContract, e1]
        simp only [Option.bind_some, t_iiiss_b, Bool.not_true, cond_false, hs0]
        rw [show ixA sT 0 3 = some (0 * 3) from q2]
        simp only [Option.bind_some, q1, q3, q4, q5]
        rw [e2]
        rfl
    · refine .inr ⟨by rw [c1]; rfl, H1, ?_, l1⟩
      rw [R_eq, e_iContract, e1]
      rfl
theorem scs_app (ps : List Sp) (g : Sp) : scs (ps ++ [g]) = scs ps ++ [.int .i64 g.a, .int .i64 g.b] := by simp [scs]
theorem CO.s2 {n0 : Nat} {H : AH} {s : Sl} {ps : List Sp} (h : CO 2 n0 H s (scs ps)) : S2 H s ps := by
  have hn := h.n
  rw [scs_len] at hn
  have hsn : s.n = ps.length := by omega
  refine ⟨hsn, by rw [h.c]; exact Nat.le_refl _, ?_⟩
  rcases h.blk with ⟨e, _, _⟩ | ⟨_, _, hb⟩
  · left
    have := congrArg List.length e
    rw [scs_len] at this
    exact List.length_eq_zero_iff.1 (by simp at this; omega)
  · exact .inr ⟨scs ps, by unfold rdB; rw [hb]; rfl, fun i g hi => by rw [h.o, Nat.zero_add]; exact scs_get ps i g hi⟩
theorem push_step {n0 : Nat} {H : AH} {s : Sl} {ps : List Sp} (h : CO 2 n0 H s (scs ps)) (hn0 : n0 ≤ H.length) (hl : ps.length ≤ 1048576) (g : Sp) :
    ∃ s' H', (∀ {α : Type} (k : Sl × AH → Option α), ((newB H 2 [.int .i64 g.a, .int .i64 g.b]).bind fun h => (rng h.2 h.1 0 (1 * 2)).bind fun q => (appB h.2 2 16 s q 1).bind k) = k (s', H')) ∧ CO 2 n0 H' s' (scs (ps ++ [g])) ∧ H.length ≤ H'.length ∧ ∀ d, d < n0 → H'[d]? = H[d]? := by
  have hle := Go.Abs.Le.app H [⟨[.int .i64 g.a, .int .i64 g.b], .rw, 2⟩]
  have hsn : s.n = ps.length := h.s2.1
  obtain ⟨s', H', e, O, _, l, f⟩ := (h.le hle).push (by_ := 16) (new := [.int .i64 g.a, .int .i64 g.b]) (by simp; omega) (by omega) (by omega) rfl (by rw [hsn]; unfold most; omega)
  refine ⟨s', H', fun k => ?_, by rw [scs_app]; exact O, by simp at l; omega, fun d hd => ?_⟩
  · have hnb : newB H 2 [.int .i64 g.a, .int .i64 g.b] = some (H.length, H ++ [⟨[.int .i64 g.a, .int .i64 g.b], .rw, 2⟩]) := rfl
    rw [hnb]
    simp only [Option.bind_some]
    rw [rng_new (cs := [.int .i64 g.a, .int .i64 g.b]) (z := 2) (m := 1 * 2) (by simp) rfl (by omega)]
    simp only [Option.bind_some]
    rw [e]; rfl
  · rw [f d (by simp; omega) ?_, hle.get d (by omega)]
    rcases h.blk with ⟨e, _⟩ | ⟨_, hlo, _⟩
    · exact .inr e
    · exact .inl (by omega)
def plainS (m k : Nat) : Sp := if k = 0 then ⟨0, 1⟩ else ⟨(k : Int) + 1, (m : Int) + k - 1⟩
def plainL (m : Nat) : List Sp := (List.range (m - 1)).map (plainS m)
theorem plain_take (m k : Nat) (h : k < m - 1) : (plainL m).take (k + 1) = (plainL m).take k ++ [plainS m k] := by
  unfold plainL
  have hl : k < ((List.range (m - 1)).map (plainS m)).length := by simpa using h
  rw [List.take_succ_eq_append_getElem hl]
  simp
theorem plain_len (m : Nat) : (plainL m).length = m - 1 := by simp [plainL]
/-- impl.PlainOrder, of a valid network -/
theorem c_iPlainOrder {H : AH} {s u : Sl} {n : Nw} (h : NS H s u n) (hn : netB n = true) :
    ∃ s' H', R (.fn F.iPlainOrder) [npv n.r s u] H = some ⟨1, [ssc s'], H'⟩ ∧ Go.Abs.Le H H' ∧ S2 H' s' (plainL n.ts.length) := by
  obtain ⟨b1, b2, b3⟩ := netB_small hn
  obtain ⟨H1, e1, l1⟩ := c_iNetworkOk h (by omega)
  rw [hn] at e1
  have hpl := plain_len n.ts.length
  generalize hm : n.ts.length = m at *
  have loop : ∀ (k i : Nat), i + k = m - 1 → ∀ (Hc : AH) (so : Sl), Go.Abs.Le H1 Hc → CO 2 H1.length Hc so (scs ((plainL m).take i)) →
      ∃ s' H', R (.loop F.iPlainOrder 0) [ssc so, isc (m : Int), isc (i : Int)] Hc = some ⟨2, [ssc s'], H'⟩ ∧ Go.Abs.Le H1 H' ∧ CO 2 H1.length H' s' (scs (plainL m)) := by
    intro k
    induction k with
    | zero =>
      intro i hi Hc so hle hC
      refine ⟨so, Hc, ?_, hle, ?_⟩
      · have hw : IntKind.wrap .i64 ((m : Int) - 1) = (m : Int) - 1 := by rw [wrap_id] <;> omega
        rw [R_eq, e_iPlainOrder_0, hw, decide_eq_false (by omega)]
        rfl
      · rw [List.take_of_length_le (by omega)] at hC
        exact hC
    | succ k ih =>
      intro i hi Hc so hle hC
      have hw : IntKind.wrap .i64 ((m : Int) - 1) = (m : Int) - 1 := by rw [wrap_id] <;> omega
      have hw2 : IntKind.wrap .i64 ((i : Int) + 1) = ((i + 1 : Nat) : Int) := by rw [wrap_id] <;> omega
      have hw3 : IntKind.wrap .i64 ((m : Int) + i) = (m : Int) + i := by rw [wrap_id] <;> omega
      have hw4 : IntKind.wrap .i64 ((m : Int) + i - 1) = (m : Int) + i - 1 := by rw [wrap_id] <;> omega
      obtain ⟨so', H2, e2, C2, l2, f2⟩ := push_step hC hle.len (by simp; omega) (plainS m i)
      rw [← plain_take m i (by omega)] at C2
      have hle2 : Go.Abs.Le H1 H2 := ⟨by have := hle.len; omega, fun d hd => by rw [f2 d hd]; exact hle.get d hd⟩
      obtain ⟨s', H', e3, l3, C3⟩ := ih (i + 1) (by omega) H2 so' hle2 C2
      refine ⟨s', H', ?_, l3, C3⟩
      rw [R_eq, e_iPlainOrder_0, hw, decide_eq_true (show (i : Int) < (m : Int) - 1 by omega), cond_true, hw2, hw3, hw4]
      by_cases h0 : i = 0
      · subst h0
        rw [show (((0 : Nat) : Int) == 0) = true from rfl, cond_true]
        exact (e2 _).trans e3
      · have : ((i : Int) == 0) = false := by simp; omega
        rw [this, cond_false]
        have hp : plainS m i = ⟨((i + 1 : Nat) : Int), (m : Int) + i - 1⟩ := by unfold plainS; rw [if_neg h0]; simp
        rw [hp] at e2
        exact (e2 _).trans e3
  obtain ⟨s', H', e2, l2, C2⟩ := loop (m - 1) 0 (by omega) H1 ⟨0, 0, 0, 0, true⟩ (Go.Abs.Le.refl _) (CO.nil _ _ _ _)
  refine ⟨s', H', ?_, l1.trans l2, C2.s2⟩
  have e2 : R (.loop F.iPlainOrder 0) [ssc ⟨0, 0, 0, 0, true⟩, isc (m : Int), isc 0] H1 = _ := e2
  rw [R_eq, e_iPlainOrder, e1]
  simp only [Option.bind_some, one_bool, Bool.not_true, cond_false]
  rw [h.ts.1, hm, e2]
  rfl
/-- impl.TotalOf, of a network without open labels -/
theorem c_iTotalOf0 {A M : List Int → List Int → List Int} {n : Nw} (hR : RC n.r A M) (h1 : VE n.r (oneR n.r)) {H : AH} {s u : Sl} (h : NS H s u n) (ho : n.op = []) (hts : n.ts.length ≤ 4611686018427387904) :
    (∃ X, conV A M n (plainL n.ts.length) = some X ∧ ∃ c H', R (.fn F.iTotalOf) [npv n.r s u] H = some ⟨1, [ssc c, bsc true], H'⟩ ∧ Go.Abs.Le H H' ∧ IS H' c X) ∨
    (conV A M n (plainL n.ts.length) = none ∧ ∃ H', R (.fn F.iTotalOf) [npv n.r s u] H = some ⟨1, [ssc ⟨0, 0, 0, 0, true⟩, bsc false], H'⟩ ∧ Go.Abs.Le H H') := by
  obtain ⟨H1, e1, l1⟩ := c_iNetworkOk h (by rw [ho]; simp)
  cases hn : netB n with
  | false =>
    rw [hn] at e1
    have e2 : R (.fn F.iOpenNetwork) [npv n.r s u, ssc ⟨0, 0, 0, 0, true⟩] H = some ⟨1, [npv0, bsc false], H1⟩ := by
      rw [R_eq, e_iOpenNetwork, e1]; rfl
    refine .inr ⟨?_, H1, ?_, l1⟩
    · unfold conV ordB
      rw [hn]; rfl
    · rw [R_eq, e_iTotalOf, e2]
      rfl
  | true =>
    rw [hn] at e1
    obtain ⟨b1, b2, b3⟩ := netB_small hn
    obtain ⟨s2, u2, xs2, H2, e2, N2⟩ := c_icopyNetwork (h.le l1) (by omega) (fun t ht => by
      have hT := tensor_ok (net_mem hn t ht)
      have hw := width_range hT.rg
      have h1 := hT.len
      have h2 := hT.d.2.2
      have h3 := prd_pos hT.d.ge
      have h4 : prd t.D * widthR n.r ≤ 4096 * 6 := Int.mul_le_mul h2 hw.2 (by omega) (by omega)
      have h5 := tensor_dims (net_mem hn t ht)
      exact ⟨by omega, by omega, by omega⟩) (by omega)
    obtain ⟨u3, H3, e3, l3, o3⟩ := c_icopyInts (IS.nil' H2 0 0 true) (by simp)
    have ns2 := (N2.neto (r := n.r)).ns
    have ns3 : NS H3 s2 u3 n := ⟨ns2.ts.le l3, by rw [ho]; exact o3.is⟩
    obtain ⟨H4, e4, l4⟩ := c_iNetworkOk ns3 (by omega)
    rw [hn] at e4
    have e5 : R (.fn F.iOpenNetwork) [npv n.r s u, ssc ⟨0, 0, 0, 0, true⟩] H = some ⟨1, [npv n.r s2 u3, bsc true], H4⟩ := by
      rw [R_eq, e_iOpenNetwork, e1]
      simp only [Option.bind_some, one_bool, Bool.not_true, cond_false]
      rw [e2]
      simp only [Option.bind_some, o_iiiss]
      rw [e3]
      simp only [Option.bind_some, one_sl]
      rw [e4]
      rfl
    have l04 := ((l1.trans N2.fr.le).trans l3).trans l4
    have ns4 := ns3.le l4
    obtain ⟨sp, H5, e6, l6, p6⟩ := c_iPlainOrder ns4 hn
    have l05 := l04.trans l6
    rcases c_iContract0 hR h1 (ns4.le l6) ho hts p6 with ⟨X, hX, a, b, c, H', e7, l7, i7⟩ | ⟨hX, H', e7, l7⟩
    · refine .inl ⟨X, hX, c, H', ?_, l05.trans l7, i7⟩
      rw [R_eq, e_iTotalOf, e5]
      simp only [Option.bind_some, t_iiiss_b, Bool.not_true, cond_false]
      rw [e6]
      simp only [Option.bind_some, one_sl]
      rw [e7]
      rfl
    · refine .inr ⟨hX, H', ?_, l05.trans l7⟩
      rw [R_eq, e_iTotalOf, e5]
      simp only [Option.bind_some, t_iiiss_b, Bool.not_true, cond_false]
      rw [e6]
      simp only [Option.bind_some, one_sl]
      rw [e7]
      rfl
end Go.Abs
/- Contracts: a network is contracted along an order (spec): the steps. -/
namespace Go.Abs
set_option linter.all false
set_option maxRecDepth 10000

structure AS (n0 : Nat) (H : AH) (sa : Sl) (xs : List Tri) (us : List Tn) : Prop where
  out : OOut n0 H sa xs
  len : xs.length = us.length
  ts : ∀ (i : Nat) x t, xs[i]? = some x → us[i]? = some t → TS H x.1 x.2.1 x.2.2 t
theorem AS.le {n0 : Nat} {H H' : AH} {sa : Sl} {xs : List Tri} {us : List Tn} (h : AS n0 H sa xs us) (k : Go.Abs.Le H H') : AS n0 H' sa xs us := ⟨h.out.le k, h.len, fun i x t hx ht => (h.ts i x t hx ht).le k⟩
/-- A tensor more; the outer row alone may change. -/
theorem AS.push {n0 : Nat} {H H' : AH} {sa sa' : Sl} {xs : List Tri} {us : List Tn} {x : Tri} {t : Tn} (h : AS n0 H sa xs us) (ho : OOut n0 H' sa' (xs ++ [x])) (f : ∀ d, d < H.length → (d ≠ sa.b ∨ xs = []) → H'[d]? = H[d]?) (ht : TS H' x.1 x.2.1 x.2.2 t) : AS n0 H' sa' (xs ++ [x]) (us ++ [t]) := by
  have kp : ∀ {s : Sl} {l : List Int}, IS H s l → IS H' s l := fun {s l} hs => hs.keepB fun hne => f _ (hs.lt hne) (by
    rcases h.out.blk with ⟨e, _⟩ | ⟨_, _, hb⟩
    · exact .inr e
    · exact .inl (is_ne hs hne hb (triC_noint _)))
  refine ⟨ho, by simp [h.len], fun i y u hy hu => ?_⟩
  rcases Nat.lt_or_ge i xs.length with hi | hi
  · rw [List.getElem?_append_left hi] at hy
    rw [List.getElem?_append_left (by rw [← h.len]; exact hi)] at hu
    have := h.ts i y u hy hu
    exact ⟨kp this.L, kp this.D, kp this.X⟩
  · have hi2 := (List.getElem?_eq_some_iff.1 hy).1
    simp at hi2
    obtain rfl : i = xs.length := by omega
    rw [List.getElem?_append_right (Nat.le_refl _), Nat.sub_self] at hy
    rw [List.getElem?_append_right (by rw [h.len]; exact Nat.le_refl _), h.len, Nat.sub_self] at hu
    simp at hy hu
    subst hy hu
    exact ht
/-- The numbers' tensors. -/
def WA (W : List (Int × Tn)) (us : List Tn) : Prop := ∀ x ∈ W, ∃ i : Nat, x.1 = (i : Int) ∧ us[i]? = some x.2
theorem WA.ten {W : List (Int × Tn)} {us : List Tn} (h : WA W us) {a : Int} (ha : a ∈ W.map (·.1)) : ∃ i : Nat, a = (i : Int) ∧ us[i]? = some (tenW W a) := by
  obtain ⟨x, hx, e1, e2⟩ := tenW_mem ha
  obtain ⟨i, h1, h2⟩ := h x hx
  exact ⟨i, by rw [← e1]; exact h1, by rw [e2]; exact h2⟩
theorem T3.ld0 {H0 H : AH} {s : Sl} {ts : List Tn} (h : T3 H0 s ts) (hle : Go.Abs.Le H0 H) {i : Nat} (hi : i < ts.length) : ∃ a b c, TS H0 a b c ts[i] ∧ ∀ {α : Type} (k : Sl → Sl → Sl → Option α),
    ((ixA s (i : Int) 3).bind fun o => (rdB H s.b).bind fun q => (slAt q o).bind fun x => (slAt q (o + 1)).bind fun y => (slAt q (o + 1 + 1)).bind fun z => k x y z) = k a b c := by
  obtain ⟨hn, _, rfl | ⟨cs, h1, h2⟩⟩ := h
  · simp at hi
  · obtain ⟨a, b, c, e1, e2, e3, e4⟩ := h2 i _ (List.getElem?_eq_getElem hi)
    refine ⟨a, b, c, e4, fun k => ?_⟩
    rw [ixA_nat (by omega)]
    simp only [Option.bind_some, hle.rdB h1, slAt_get e1, slAt_get e2, slAt_get e3]
/-- spec.l18Run: the tensors that are there -/
theorem c_sl18Run_0 {H0 : AH} {s : Sl} {ts : List Tn} (hT : T3 H0 s ts) (hl : ts.length ≤ 1000) :
    ∀ (k i : Nat) (H : AH) (sa st : Sl) (xs : List Tri), i + k = ts.length → Fr H0 H [(st, (List.range i).map fun i : Nat => (i : Int))] → OOut H0.length H sa xs → xs.length = i → (∀ (j : Nat) x t, xs[j]? = some x → ts[j]? = some t → TS H0 x.1 x.2.1 x.2.2 t) →
      ∃ sa' st' xs' H', R (.loop F.sl18Run 0) [ssc sa, ssc st, ssc s, isc (ts.length : Int), isc (i : Int)] H = some ⟨2, [ssc sa', ssc st'], H'⟩ ∧ Go.Abs.Le H0 H' ∧ IS H' st' ((List.range ts.length).map fun i : Nat => (i : Int)) ∧ AS H0.length H' sa' xs' ts
  | 0, i, H, sa, st, xs, hi, hF, hO, hxl, hts => by
    obtain rfl : i = ts.length := by omega
    exact ⟨sa, st, xs, H, by rw [R_eq, e_sl18Run_0, lt_self]; rfl, hF.le, hF.is (by simp), hO, hxl, fun j x t hx ht => (hts j x t hx ht).le hF.le⟩
  | k + 1, i, H, sa, st, xs, hi, hF, hO, hxl, hts => by
    have hlt : i < ts.length := by omega
    obtain ⟨a, b, c, ht, kt⟩ := hT.ld0 hF.le hlt
    obtain ⟨sa', H1, e1, F1, O1, l1, f1⟩ := push_tensor' (a := a) (b := b) (c := c) hF hO (by omega)
    have F1s := F1.own (s := st) (l := (List.range i).map fun i : Nat => (i : Int)) (by simp)
    obtain ⟨st', H2, e2, o2, l2, f2, g2⟩ := push_own F1.le.len F1s (by simp; omega) (i : Int)
    have hrg : (List.range i).map (fun i : Nat => (i : Int)) ++ [(i : Int)] = (List.range (i + 1)).map fun i : Nat => (i : Int) := by rw [List.range_succ]; simp
    rw [hrg] at o2
    have hle2 : Go.Abs.Le H0 H2 := ⟨by have := F1.le.len; omega, fun d hd => by
      rw [f2 d (by have := F1.le.len; omega) (by
        rcases F1s.lo with h | h
        · exact .inr h
        · exact .inl (by omega))]
      exact F1.le.get d hd⟩
    have O2 : OOut H0.length H2 sa' (xs ++ [(a, b, c)]) := O1.keep fun hne => f2 _ (O1.lt hne) (by
      by_cases e : (List.range i).map (fun i : Nat => (i : Int)) = []
      · exact .inr e
      · rcases O1.blk with ⟨e', _⟩ | ⟨_, _, hb⟩
        · exact absurd e' hne
        · exact .inl fun e3 => is_ne F1s.is e hb (triC_noint _) e3.symm)
    obtain ⟨sa2, st2, xs2, H3, e3, l3, i3, A3⟩ := c_sl18Run_0 hT hl k (i + 1) H2 sa' st' (xs ++ [(a, b, c)]) (by omega) ⟨hle2, (Rows.nil _ _).cons o2 (by simp)⟩ O2 (by simp [hxl]) (fun j x t hx ht' => by
      rcases Nat.lt_or_ge j xs.length with hj | hj
      · rw [List.getElem?_append_left hj] at hx
        exact hts j x t hx ht'
      · have h2 := (List.getElem?_eq_some_iff.1 hx).1
        simp at h2
        obtain rfl : j = xs.length := by omega
        rw [List.getElem?_append_right (Nat.le_refl _), Nat.sub_self] at hx
        simp at hx
        subst hx
        rw [hxl, List.getElem?_eq_getElem hlt] at ht'
        cases ht'
        exact ht)
    refine ⟨sa2, st2, xs2, H3, ?_, l3, i3, A3⟩
    rw [R_eq, e_sl18Run_0, lt_true hlt, w1 hlt (by omega), cond_true, kt]
    rw [e1]
    simp only
    rw [e2]
    exact e3
/-- spec.l18Run: the numbers that are left -/
theorem c_sl18Run_2 {H : AH} {st : Sl} {ns : List Int} (h : IS H st ns) (hl : ns.length ≤ 1000) (b : Nat) (p : Sp) :
    ∃ s' H', R (.loop F.sl18Run 2) [ssc ⟨b, 0, 0, 0, true⟩, ssc st, isc (ns.length : Int), isc 0, .agg [.int .i64 p.a, .int .i64 p.b]] H = some ⟨6, [ssc s'], H'⟩ ∧ Own H.length H' s' (ns.filter fun x => x != p.a && x != p.b) ∧ Go.Abs.Le H H' := by
  have cl := collect (l := ns) (H0 := H) (F := fun i c Hc => R (.loop F.sl18Run 2) [ssc c, ssc st, isc (ns.length : Int), isc (i : Int), .agg [.int .i64 p.a, .int .i64 p.b]] Hc) (fin := fun c Hc => some ⟨6, [ssc c], Hc⟩) (fun _ y => if (y != p.a && y != p.b) then some y else none)
    (fun c Hc => by rw [R_eq, e_sl18Run_2, lt_self]; rfl)
    (fun i hi c Hc acc hle ho ha => by
      cases h1 : (ns[i] != p.a) with
      | false =>
        refine ⟨c, Hc, ?_, by rw [Bool.false_and]; simpa using ho, hle⟩
        rw [R_eq, e_sl18Run_2, lt_true hi, w1 hi (by omega), cond_true, (h.le hle).ldk hi, h1, cond_false]
      | true =>
        cases h2 : (ns[i] != p.b) with
        | false =>
          refine ⟨c, Hc, ?_, by rw [Bool.and_false]; simpa using ho, hle⟩
          rw [R_eq, e_sl18Run_2, lt_true hi, w1 hi (by omega), cond_true, (h.le hle).ldk hi, h1, cond_true, h2, cond_false]
        | true =>
          obtain ⟨s', H', e, o, l⟩ := push_le hle ho (by omega) ns[i]
          refine ⟨s', H', ?_, by simpa using o, l⟩
          rw [R_eq, e_sl18Run_2, lt_true hi, w1 hi (by omega), cond_true, (h.le hle).ldk hi, h1, cond_true, h2, cond_true]
          rw [e])
    (s0 := ⟨b, 0, 0, 0, true⟩) (H := H) (Go.Abs.Le.refl _) (Own.nil _ _ _)
  obtain ⟨s', H', e, o, l1⟩ := cl
  rw [colF_filter (fun y => y != p.a && y != p.b)] at o
  exact ⟨s', H', e, o, l1⟩
/-- spec.l18Run: the steps -/
theorem c_sl18Run_1 {r : Rg} {A M : List Int → List Int → List Int} {dm : Int → Int} (hR : RC r A M) {HL H0 : AH} {bs m : Nat} {op : List Int} {sp s u sL gL : Sl} {xL : List Tri} {al : List (List Int)} {gn : List Bool} {ps : List Sp} (hS : LS HL H0 bs sL gL xL al gn dm) (hal : ∀ l ∈ al, l.length ≤ 1000) (hp : S2 H0 sp ps) (hpl : ps.length ≤ 100) (hm : m ≤ 12) (hsm : s.n = m) (hall : al.length = m + ps.length) :
    ∀ (k i : Nat) (H : AH) (sa st : Sl) (xs : List Tri) (us : List Tn) (W : List (Int × Tn)), i + k = ps.length → Go.Abs.Le H0 H → IS H st (W.map (·.1)) → AS H0.length H sa xs us → us.length = m + i → WA W us → WC r dm W → W.length ≤ 12 → (W.map (·.1)).Nodup → (∀ x ∈ W.map (·.1), x < ((m + i : Nat) : Int)) → orderN (W.map (·.1)) ((m + i : Nat) : Int) (ps.drop i) = true → al.drop (m + i) = labsL op (labsT W) ((m + i : Nat) : Int) (ps.drop i) →
      (∃ W' sa' st' xs' us' H', conW r A M dm op W ((m + i : Nat) : Int) (ps.drop i) = some W' ∧ R (.loop F.sl18Run 1) [.sc (.hp bs 0), ssc sa, ssc st, ssc sp, isc (ps.length : Int), isc (i : Int), npv r s u] H = some ⟨4, [ssc sa', ssc st'], H'⟩ ∧ Go.Abs.Le H0 H' ∧ AS H0.length H' sa' xs' us' ∧ us'.length = m + ps.length ∧ WA W' us') ∨
      (conW r A M dm op W ((m + i : Nat) : Int) (ps.drop i) = none ∧ ∃ H', R (.loop F.sl18Run 1) [.sc (.hp bs 0), ssc sa, ssc st, ssc sp, isc (ps.length : Int), isc (i : Int), npv r s u] H = some ⟨1, [ssc ⟨0, 0, 0, 0, true⟩, ssc ⟨0, 0, 0, 0, true⟩, bsc false], H'⟩ ∧ Go.Abs.Le H0 H')
  | 0, i, H, sa, st, xs, us, W, hi, hle, hst, hA, hasl, hWA, hWC, hWl, hd, hx, hord, hlab => by
    obtain rfl : i = ps.length := by omega
    rw [List.drop_eq_nil_of_le (Nat.le_refl _)]
    exact .inl ⟨W, sa, st, xs, us, H, rfl, by rw [R_eq, e_sl18Run_1, lt_self]; rfl, hle, hA, hasl, hWA⟩
  | k + 1, i, H, sa, st, xs, us, W, hi, hle, hst, hA, hasl, hWA, hWC, hWl, hd, hx, hord, hlab => by
    have hlt : i < ps.length := by omega
    rw [List.drop_eq_getElem_cons hlt] at hord hlab ⊢
    obtain ⟨q1, q2, q3, q4⟩ := ordW_at hord
    have hal1 : m + i < al.length := by omega
    rw [List.drop_eq_getElem_cons hal1] at hlab
    simp only [labsL, List.cons.injEq] at hlab
    obtain ⟨hlab1, hlab2⟩ := hlab
    obtain ⟨p, hpa, hpt⟩ := hWA.ten q1
    obtain ⟨q, hqa, hqt⟩ := hWA.ten q2
    have hpl' := (List.getElem?_eq_some_iff.1 hpt).1
    have hql' := (List.getElem?_eq_some_iff.1 hqt).1
    have hxl := hA.len
    obtain ⟨cs, h1, h2, h3, h4, h5⟩ := hA.out.cells (show p < xs.length by omega)
    obtain ⟨cs', g1, g2, g3, g4, g5⟩ := hA.out.cells (show q < xs.length by omega)
    obtain rfl : cs = cs' := by rw [h1] at g1; exact Option.some.inj g1
    have tsp := hA.ts p _ _ (List.getElem?_eq_getElem (show p < xs.length by omega)) hpt
    have tsq := hA.ts q _ _ (List.getElem?_eq_getElem (show q < xs.length by omega)) hqt
    have cp := hWC.ten q1
    have cq := hWC.ten q2
    -- the labels of the result
    have S1 := hS.ext hle
    have hLl : m + i < xL.length := by rw [← hS.len]; exact hal1
    obtain ⟨cl, y1, y2, y3, y4, y5⟩ := S1.all.cells hLl
    have isK := (S1.labs (m + i) _ _ (List.getElem?_eq_getElem hLl) (List.getElem?_eq_getElem hal1)).1
    have hKl : al[m + i].length ≤ 1048576 := by have := hal _ (List.getElem_mem hal1); omega
    have hfit : fitT dm op W ps[i] = pairB dm (tenW W ps[i].a) (tenW W ps[i].b) al[m + i] := by unfold fitT; rw [hlab1]
    have hnew : newTn r A M dm op W ps[i] = ctrT r A M dm (tenW W ps[i].a) (tenW W ps[i].b) al[m + i] := by unfold newTn; rw [hlab1]
    obtain ⟨H1, e1, l1⟩ := c_sl08Fits tsp tsq cp cq isK hKl
    have hwm : IntKind.wrap .i64 ((s.n : Int) + (i : Int)) = ((m + i : Nat) : Int) := by rw [hsm, wrap_id] <;> omega
    have hgo : R (.loop F.sl18Run 1) [.sc (.hp bs 0), ssc sa, ssc st, ssc sp, isc (ps.length : Int), isc (i : Int), npv r s u] H =
              cond (!(pairB dm (tenW W ps[i].a) (tenW W ps[i].b) al[m + i]))
          (some ⟨1, [ssc ⟨0, 0, 0, 0, true⟩, ssc ⟨0, 0, 0, 0, true⟩, bsc false], H1⟩)
          ((R (.fn F.sl08Pair) [r.pv, tpv xs[p].1 xs[p].2.1 xs[p].2.2, tpv xs[q].1 xs[q].2.1 xs[q].2.2, ssc xL[m + i].1] (H1 ++ [resB])).bind fun r62 =>
          (oneP r62.vs).bind fun p63 =>
          p63.agg?.bind fun l64 =>
          cond (decide (l64.length = 3))
          ((slAt l64 0).bind fun s65 =>
           (slAt l64 1).bind fun s66 =>
           (slAt l64 2).bind fun s67 =>
           (newAt r62.H (H1.length + 0) 3 [.sl s65, .sl s66, .sl s67]).bind fun h68 =>
           (rng h68.2 h68.1 0 (1 * 3)).bind fun l69 =>
           (appB h68.2 3 72 sa l69 1).bind fun m70 =>
           (newB m70.2 1 []).bind fun h71 =>
           (R (.loop F.sl18Run 2) [ssc ⟨h71.1, 0, 0, 0, true⟩, ssc st, isc (st.n : Int), isc 0, .agg [.int .i64 ps[i].a, .int .i64 ps[i].b]] h71.2).bind fun r78 =>
           cond (Nat.beq r78.e 6)
           ((nthP r78.vs 0).bind fun p79 =>
            p79.sc?.bind fun c80 =>
            (slAt [c80] 0).bind fun s81 =>
            (newB r78.H 1 [.int .i64 (IntKind.wrap .i64 ((m70.1.n : Int) - 1))]).bind fun h82 =>
            (rng h82.2 h82.1 0 (1 * 1)).bind fun l83 =>
            (appB h82.2 1 8 s81 l83 1).bind fun m84 =>
            R (.loop F.sl18Run 1) [.sc (.hp bs 0), ssc m70.1, ssc m84.1, ssc sp, isc (ps.length : Int), isc ((i + 1 : Nat) : Int), npv r s u] m84.2)
           (none))
          (none)) := by
      have lr := l1.trans (Go.Abs.Le.app H1 [resB])
      have rp := lr.rdB h1
      rw [R_eq, e_sl18Run_1, lt_true hlt, w1 hlt (by omega), cond_true, (hp.le hle).ld hlt]
      rw [S1.rd]
      simp only [Option.bind_some]
      rw [show slAt [Sc.sl sL, Sc.sl gL] (0 + 0) = some sL from rfl]
      simp only [Option.bind_some]
      rw [hwm, y2]
      simp only [Option.bind_some, y1, Nat.add_zero, y3]
      rw [hpa, h2]
      simp only [Option.bind_some, h1, h3, h4, h5]
      rw [hqa, g2]
      simp only [Option.bind_some, g3, g4, g5]
      rw [hpa, hqa] at e1
      rw [e1]
      simp only [Option.bind_some, one_bool, reserve1, rp, h3, h4, h5, g3, g4, g5]
    rw [hgo]
    cases hpb : pairB dm (tenW W ps[i].a) (tenW W ps[i].b) al[m + i] with
    | false =>
      have hf : fitT dm op W ps[i] = false := by rw [hfit]; exact hpb
      refine .inr ⟨?_, H1, rfl, hle.trans l1⟩
      show (if fitT dm op W ps[i] then _ else none) = _
      rw [hf]; rfl
    | true =>
      have hf : fitT dm op W ps[i] = true := by rw [hfit]; exact hpb
      have lr := Go.Abs.Le.app H1 [resB]
      have lr2 := l1.trans lr
      obtain ⟨a', b', c', H2, e2, n2⟩ := c_sl08Pair hR (tsp.le lr2) (tsq.le lr2) cp cq (isK.le lr2) hKl hpb
      obtain ⟨sa', H3, e3, F3, O3, l3, f3⟩ := push_tensor (rs := []) (Fr.of (hle.trans l1)) (hA.out.le l1) (by omega) n2
      rw [← hnew] at F3
      have iF : ∀ z ∈ rows3 a' b' c' (newTn r A M dm op W ps[i]), IS H3 z.1 z.2 := fun z hz => (F3.rows.own z (by simpa using hz)).is
      have A3 := (hA.le l1).push (x := (a', b', c')) (t := newTn r A M dm op W ps[i]) O3 f3 ⟨iF (a', (newTn r A M dm op W ps[i]).L) (by simp), iF (b', (newTn r A M dm op W ps[i]).D) (by simp), iF (c', (newTn r A M dm op W ps[i]).X) (by simp)⟩
      have hst3 : IS H3 st (W.map (·.1)) := (hst.le l1).keepB fun hne => f3 _ ((hst.le l1).lt hne) (by
        rcases (hA.out.le l1).blk with ⟨e, _⟩ | ⟨_, _, hb⟩
        · exact .inr e
        · exact .inl (is_ne (hst.le l1) hne hb (triC_noint _)))
      have l4 := Go.Abs.Le.app H3 [⟨[], .rw, 1⟩]
      obtain ⟨s5, H5, e5, o5, l5⟩ := c_sl18Run_2 (hst3.le l4) (by simp; omega) H3.length ps[i]
      have hOn : sa'.n = us.length + 1 := by rw [O3.n]; simp [hxl]
      have hw5 : IntKind.wrap .i64 ((sa'.n : Int) - 1) = ((m + i : Nat) : Int) := by rw [hOn, wrap_id] <;> omega
      have hfl := List.length_filter_le (fun x => x != ps[i].a && x != ps[i].b) (W.map (·.1))
      simp only [List.length_map] at hfl
      obtain ⟨s6, H6, e6, o6, l6⟩ := push_le l5 o5 (by omega) ((m + i : Nat) : Int)
      have l36 := l4.trans l6
      have hnums := stepT_nums r A M dm op W ((m + i : Nat) : Int) ps[i]
      rw [← hnums] at o6
      obtain ⟨d1, d2⟩ := nums_step hd hx ps[i].a ps[i].b
      have hcast : ((m + (i + 1) : Nat) : Int) = ((m + i : Nat) : Int) + 1 := by omega
      have hWl2 : (stepT r A M dm op W ((m + i : Nat) : Int) ps[i]).length ≤ 12 := by
        have h1 := congrArg List.length hnums
        have h2 := nums_len hd q1 q2 (by omega)
        simp only [List.length_map, List.length_append, List.length_cons, List.length_nil] at h1 h2
        omega
      have hWA2 : WA (stepT r A M dm op W ((m + i : Nat) : Int) ps[i]) (us ++ [newTn r A M dm op W ps[i]]) := fun x hx => by
        unfold stepT at hx
        rcases List.mem_append.1 hx with hx | hx
        · obtain ⟨j, j1, j2⟩ := hWA x (List.mem_filter.1 hx).1
          exact ⟨j, j1, by rw [List.getElem?_append_left (List.getElem?_eq_some_iff.1 j2).1]; exact j2⟩
        · simp at hx
          subst hx
          exact ⟨m + i, rfl, by rw [← hasl]; simp⟩
      have hcon : conW r A M dm op W ((m + i : Nat) : Int) (ps[i] :: ps.drop (i + 1)) = conW r A M dm op (stepT r A M dm op W ((m + i : Nat) : Int) ps[i]) ((m + (i + 1) : Nat) : Int) (ps.drop (i + 1)) := by
        rw [hcast]
        show (if fitT dm op W ps[i] then _ else none) = _
        rw [if_pos hf]
      have hle6 : Go.Abs.Le H0 H6 := F3.le.trans l36
      have ih := c_sl18Run_1 hR (s := s) (u := u) (op := op) hS hal hp hpl hm hsm hall k (i + 1) H6 sa' s6 _ _ (stepT r A M dm op W ((m + i : Nat) : Int) ps[i]) (by omega) hle6 o6.is (A3.le l36) (by simp; omega) hWA2 (hWC.step hR.alg q1 q2 hf) hWl2 (by rw [hnums]; exact d1) (by rw [hnums, hcast]; exact d2) (by rw [hnums, hcast]; exact q4)
        (by rw [stepT_labs, hcast]; exact hlab2)
      have hrun : (cond (!true)
          (some ⟨1, [ssc ⟨0, 0, 0, 0, true⟩, ssc ⟨0, 0, 0, 0, true⟩, bsc false], H1⟩)
          ((R (.fn F.sl08Pair) [r.pv, tpv xs[p].1 xs[p].2.1 xs[p].2.2, tpv xs[q].1 xs[q].2.1 xs[q].2.2, ssc xL[m + i].1] (H1 ++ [resB])).bind fun r62 =>
          (oneP r62.vs).bind fun p63 =>
          p63.agg?.bind fun l64 =>
          cond (decide (l64.length = 3))
          ((slAt l64 0).bind fun s65 =>
           (slAt l64 1).bind fun s66 =>
           (slAt l64 2).bind fun s67 =>
           (newAt r62.H (H1.length + 0) 3 [.sl s65, .sl s66, .sl s67]).bind fun h68 =>
           (rng h68.2 h68.1 0 (1 * 3)).bind fun l69 =>
           (appB h68.2 3 72 sa l69 1).bind fun m70 =>
           (newB m70.2 1 []).bind fun h71 =>
           (R (.loop F.sl18Run 2) [ssc ⟨h71.1, 0, 0, 0, true⟩, ssc st, isc (st.n : Int), isc 0, .agg [.int .i64 ps[i].a, .int .i64 ps[i].b]] h71.2).bind fun r78 =>
           cond (Nat.beq r78.e 6)
           ((nthP r78.vs 0).bind fun p79 =>
            p79.sc?.bind fun c80 =>
            (slAt [c80] 0).bind fun s81 =>
            (newB r78.H 1 [.int .i64 (IntKind.wrap .i64 ((m70.1.n : Int) - 1))]).bind fun h82 =>
            (rng h82.2 h82.1 0 (1 * 1)).bind fun l83 =>
            (appB h82.2 1 8 s81 l83 1).bind fun m84 =>
            R (.loop F.sl18Run 1) [.sc (.hp bs 0), ssc m70.1, ssc m84.1, ssc sp, isc (ps.length : Int), isc ((i + 1 : Nat) : Int), npv r s u] m84.2)
           (none))
          (none)) : Option Out) = R (.loop F.sl18Run 1) [.sc (.hp bs 0), ssc sa', ssc s6, ssc sp, isc (ps.length : Int), isc ((i + 1 : Nat) : Int), npv r s u] H6 := by
        rw [Bool.not_true, cond_false, e2]
        simp only [Option.bind_some, o_sss]
        rw [e3]
        simp only
        rw [show newB H3 1 [] = some (H3.length, H3 ++ [⟨[], .rw, 1⟩]) from rfl]
        simp only [Option.bind_some]
        rw [hst.n, e5]
        simp only [Option.bind_some, Nat.beq, cond_true]
        rw [show ∀ (x : Sl) (K : Sl → Option Out), ((nthP [ssc x] 0).bind fun p79 => p79.sc?.bind fun c80 => (slAt [c80] 0).bind K) = K x from fun _ _ => rfl, hw5, e6]
      rw [hcon]
      rw [hrun]
      rcases ih with ⟨W', sa2, st2, xs2, us2, H', c1, c2, c3, c4, c5, c6⟩ | ⟨c1, H', c2, c3⟩
      · exact .inl ⟨W', sa2, st2, xs2, us2, H', c1, c2, c3, c4, c5, c6⟩
      · exact .inr ⟨c1, H', c2, c3⟩
end Go.Abs
/- Contracts: a network without open labels is contracted (spec). -/
namespace Go.Abs
set_option linter.all false
set_option maxRecDepth 10000

theorem W0T_wa (ts : List Tn) : WA (W0T ts) ts := fun x hx => by
  unfold W0T at hx
  obtain ⟨y, hy, rfl⟩ := List.mem_map.1 hx
  obtain ⟨i, hi⟩ := List.getElem?_of_mem hy
  rw [List.getElem?_zipIdx] at hi
  cases hh : ts[i]? with
  | none => rw [hh] at hi; simp at hi
  | some z =>
    rw [hh] at hi
    simp at hi
    subst hi
    exact ⟨i, by simp, hh⟩
/-- spec.l18Run, all steps -/
theorem c_sl18Run {A M : List Int → List Int → List Int} {H : AH} {s u sp : Sl} {n : Nw} {ps : List Sp} (hR : RC n.r A M) (h : NS H s u n) (hp : S2 H sp ps) (hord : ordB n ps = true) :
    (∃ W' sa st xs us H', conW n.r A M (dimF n.ts) n.op (W0T n.ts) n.ts.length ps = some W' ∧ R (.fn F.sl18Run) [npv n.r s u, ssc sp, isc (sp.n : Int)] H = some ⟨1, [ssc sa, ssc st, bsc true], H'⟩ ∧ Go.Abs.Le H H' ∧ (∃ n0, AS n0 H' sa xs us) ∧ us.length = n.ts.length + ps.length ∧ WA W' us) ∨
    (conW n.r A M (dimF n.ts) n.op (W0T n.ts) n.ts.length ps = none ∧ ∃ H', R (.fn F.sl18Run) [npv n.r s u, ssc sp, isc (sp.n : Int)] H = some ⟨1, [ssc ⟨0, 0, 0, 0, true⟩, ssc ⟨0, 0, 0, 0, true⟩, bsc false], H'⟩ ∧ Go.Abs.Le H H') := by
  obtain ⟨hn, hpl, ho⟩ := ordB_at hord
  obtain ⟨b1, b2, b3⟩ := netB_small hn
  obtain ⟨bs, sL, gL, uc, xL, al, gn, H1, e1, S1, hc, hz, hg, hx, hal⟩ := c_sl17Run h (SN.net hn) hp (by omega) ho
  have l1 := S1.le
  have l2 := Go.Abs.Le.app H1 [⟨[], .rw, 3⟩]
  have l3 := Go.Abs.Le.app (H1 ++ [⟨[], .rw, 3⟩]) [⟨[], .rw, 1⟩]
  have l13 := l2.trans l3
  have hnb1 : newB H1 3 [] = some (H1.length, H1 ++ [⟨[], .rw, 3⟩]) := rfl
  have hnb2 : newB (H1 ++ [⟨[], .rw, 3⟩]) 1 [] = some ((H1 ++ [(⟨[], .rw, 3⟩ : Blk)]).length, H1 ++ [⟨[], .rw, 3⟩] ++ [⟨[], .rw, 1⟩]) := rfl
  obtain ⟨sa, st, xs, H4, e4, l4, i4, A4⟩ := c_sl18Run_0 (H0 := H1) (h.ts.le l1) (by omega) n.ts.length 0 (H1 ++ [⟨[], .rw, 3⟩] ++ [⟨[], .rw, 1⟩]) ⟨H1.length, 0, 0, 0, true⟩ ⟨(H1 ++ [(⟨[], .rw, 3⟩ : Blk)]).length, 0, 0, 0, true⟩ [] (by omega) ⟨l13, (Rows.nil _ _).cons (Own.nil _ _ _) (by simp)⟩ (OOut.nil _ _ _) rfl (fun j x t hx _ => by simp at hx)
  have e4 : R (.loop F.sl18Run 0) [ssc ⟨H1.length, 0, 0, 0, true⟩, ssc ⟨(H1 ++ [(⟨[], .rw, 3⟩ : Blk)]).length, 0, 0, 0, true⟩, ssc s, isc (n.ts.length : Int), isc 0] (H1 ++ [⟨[], .rw, 3⟩] ++ [⟨[], .rw, 1⟩]) = _ := e4
  obtain ⟨rn1, rn2⟩ := range_nodup n.ts.length
  have hll : (labsL n.op (W0 n.ts) n.ts.length ps).length = ps.length := by
    have : ∀ (ps : List Sp) (W : List (Int × List Int)) (nx : Int), (labsL n.op W nx ps).length = ps.length := by
      intro ps
      induction ps with
      | nil => intro W nx; rfl
      | cons p ps ih => intro W nx; simp [labsL, ih]
    exact this _ _ _
  have hall : al.length = n.ts.length + ps.length := by rw [hal]; simp [hll]
  have hsl : ∀ l ∈ al, l.length ≤ 1000 := fun l hl => by have := labs_len (hg l hl).1 (hg l hl).2; omega
  have hWl : (W0T n.ts).length ≤ 12 := by unfold W0T; simpa using b1
  have key := c_sl18Run_1 (r := n.r) (dm := dimF n.ts) hR (m := n.ts.length) (op := n.op) (s := s) (u := u) S1 hsl (hp.le l1) (by omega) b1 h.ts.1 hall ps.length 0 H4 sa st xs n.ts (W0T n.ts) (by omega) l4 (by rw [W0T_nums]; exact i4) A4 (by omega) (W0T_wa n.ts) (W0T_wc hn) hWl (by rw [W0T_nums]; exact rn1) (by rw [W0T_nums]; exact rn2) (by rw [W0T_nums, List.drop_zero]; exact ho) (by rw [List.drop_zero, W0T_labs, hal, Nat.add_zero, List.drop_left' (by simp)])
  rw [List.drop_zero] at key
  have hsb : slB sp none (some (sp.n : Int)) none 2 = some sp := by
    have hc := hp.2.1
    unfold slB
    simp only [Option.bind_some, Option.getD_some, Option.getD_none]
    rw [if_pos ⟨by omega, by omega, by omega, by omega⟩]
    simp
  have n_two : ∀ (x y : Sl) (K : Sl → Sl → Option Out), ((nthP [ssc x, ssc y] 0).bind fun p22 => p22.sc?.bind fun c23 => (slAt [c23] 0).bind fun s24 => (nthP [ssc x, ssc y] 1).bind fun p25 => p25.sc?.bind fun c26 => (slAt [c26] 0).bind fun s27 => K s24 s27) = K x y := fun _ _ _ => rfl
  rcases key with ⟨W', sa', st', xs', us', H', c1, c2, c3, c4, c5, c6⟩ | ⟨c1, H', c2, c3⟩
  · refine .inl ⟨W', sa', st', xs', us', H', c1, ?_, l1.trans c3, ⟨_, c4⟩, c5, c6⟩
    have c2 : R (.loop F.sl18Run 1) [.sc (.hp bs 0), ssc sa, ssc st, ssc sp, isc (ps.length : Int), isc 0, npv n.r s u] H4 = _ := c2
    rw [R_eq, e_sl18Run, e1]
    simp only [Option.bind_some, t_hs]
    rw [hnb1]
    simp only [Option.bind_some]
    rw [hnb2]
    simp only [Option.bind_some]
    rw [h.ts.1, e4]
    simp only [Option.bind_some, Nat.beq, cond_true]
    rw [n_two, hsb]
    simp only [Option.bind_some]
    rw [hp.1, c2]
    rfl
  · refine .inr ⟨c1, H', ?_, l1.trans c3⟩
    have c2 : R (.loop F.sl18Run 1) [.sc (.hp bs 0), ssc sa, ssc st, ssc sp, isc (ps.length : Int), isc 0, npv n.r s u] H4 = _ := c2
    rw [R_eq, e_sl18Run, e1]
    simp only [Option.bind_some, t_hs]
    rw [hnb1]
    simp only [Option.bind_some]
    rw [hnb2]
    simp only [Option.bind_some]
    rw [h.ts.1, e4]
    simp only [Option.bind_some, Nat.beq, cond_true]
    rw [n_two, hsb]
    simp only [Option.bind_some]
    rw [hp.1, c2]
    rfl
/-- spec.l06Permute, of a single element -/
theorem c_sl06Permute0 {r : Rg} {H : AH} {a b c sk : Sl} {X : List Int} {w : Nat} (hw : widthR r = (w : Int)) (hw1 : 1 ≤ w) (hw6 : w ≤ 6) (ht : TS H a b c ⟨[], [], X⟩) (hX : X.length = w) (hk : IS H sk []) :
    ∃ a' b' c' H', R (.fn F.sl06Permute) [r.pv, tpv a b c, ssc sk] H = some ⟨1, [tpv a' b' c'], H'⟩ ∧ Go.Abs.Le H H' ∧ TS H' a' b' c' ⟨[], [], X⟩ := by
  have hkn : sk.n = 0 := hk.n
  have hbn : b.n = 0 := ht.D.n
  have l1 := Go.Abs.Le.app H [⟨[], .rw, 1⟩]
  have l2 := Go.Abs.Le.app (H ++ [⟨[], .rw, 1⟩]) [⟨[], .rw, 1⟩]
  have hnb1 : newB H 1 [] = some (H.length, H ++ [⟨[], .rw, 1⟩]) := rfl
  have hnb2 : newB (H ++ [⟨[], .rw, 1⟩]) 1 [] = some ((H ++ [(⟨[], .rw, 1⟩ : Blk)]).length, H ++ [⟨[], .rw, 1⟩] ++ [⟨[], .rw, 1⟩]) := rfl
  generalize hb1 : H.length = q1 at *
  generalize hb2 : (H ++ [(⟨[], .rw, 1⟩ : Blk)]).length = q2 at *
  have l12 := l1.trans l2
  generalize hH2 : H ++ [⟨[], .rw, 1⟩] ++ [⟨[], .rw, 1⟩] = H2 at *
  have e1 : R (.loop F.sl06Permute 0) [ssc ⟨q1, 0, 0, 0, true⟩, ssc ⟨q2, 0, 0, 0, true⟩, ssc sk, isc 0, isc 0, tpv a b c] H2 = some ⟨2, [ssc ⟨q1, 0, 0, 0, true⟩, ssc ⟨q2, 0, 0, 0, true⟩], H2⟩ := by rw [R_eq, e_sl06Permute_0]; rfl
  obtain ⟨s29, H3, e2, l3, o3⟩ := c_sl05Ints (hk.le l12) (by simp)
  have l13 := l12.trans l3
  have hm5 : mkB H3 1 8 [.int .i64 0] ((0 : Nat) : Int) ((0 : Nat) : Int) = some (⟨H3.length, 0, 0, 0, true⟩, H3 ++ [⟨ics (List.replicate 0 0), .rw, 1⟩]) := mk_ints (by omega)
  have l4 := Go.Abs.Le.app H3 [⟨ics (List.replicate 0 0), .rw, 1⟩]
  generalize hb3 : H3.length = q3 at *
  generalize hH4 : H3 ++ [⟨ics (List.replicate 0 0), .rw, 1⟩] = H4 at *
  have l14 := l13.trans l4
  have ep : ∀ G : AH, R (.fn F.sl05Product) [ssc ⟨q1, 0, 0, 0, true⟩, isc 4096] G = some ⟨1, [isc 1], G⟩ := fun G => c_sl05Product (IS.nil' G _ _ _) (by simp) (by simp)
  have ei := c_sl05Index (H := H4) (s := ⟨q1, 0, 0, 0, true⟩) (D := []) (IS.nil' _ _ _ _) (by simp) (by simp) (n := 0) (by omega) (by omega)
  have hi0 : idxF [] 0 = [] := rfl
  rw [hi0] at ei
  have l5 := Go.Abs.Le.app H4 [⟨ics [], .rw, 1⟩]
  generalize hb4 : H4.length = q4 at *
  generalize hH5 : H4 ++ [⟨ics [], .rw, 1⟩] = H5 at *
  have e3 : R (.loop F.sl06Permute 2) [ssc ⟨q2, 0, 0, 0, true⟩, ssc ⟨q3, 0, 0, 0, true⟩, ssc (rowAt q4 []), isc 0, isc 0] H5 = some ⟨6, [], H5⟩ := by rw [R_eq, e_sl06Permute_2]; rfl
  have e4 : R (.fn F.sl05Offset) [ssc b, ssc ⟨q3, 0, 0, 0, true⟩] H5 = some ⟨1, [isc 0], H5⟩ := by
    have eL : R (.loop F.sl05Offset 0) [ssc ⟨q3, 0, 0, 0, true⟩, isc 0, ssc b, isc 0, isc 0] H5 = some ⟨2, [isc 0], H5⟩ := by rw [R_eq, e_sl05Offset_0]; rfl
    rw [R_eq, e_sl05Offset, hbn]
    rw [show R (.loop F.sl05Offset 0) [ssc ⟨q3, 0, 0, 0, true⟩, isc 0, ssc b, isc ((0 : Nat) : Int), isc 0] H5 = _ from eL]
    rfl
  have hX5 : IS H5 c X := ht.X.le (l14.trans l5)
  obtain ⟨s55, H6, e5, l6, o6⟩ := c_sl05Get (r := r) (a := a) (b := b) (c := c) hX5 hw hw1 hw6 (n := 0) (by omega) (by omega) (by omega)
  have o6i := o6.is
  rw [getE_one hX] at o6i
  have hap : ∃ s7 H7, appB H6 1 8 ⟨0, 0, 0, 0, true⟩ (ics X) w = some (s7, H7) ∧ Go.Abs.Le H6 H7 ∧ IS H7 s7 X := by
    obtain ⟨s6, H7, e, F6, l6⟩ := Fr.app [] (ys := []) (s := ⟨0, 0, 0, 0, true⟩) (l := []) (m := X) ((Fr.start H6).empty 0) (by simp; omega)
    rw [hX] at e
    refine ⟨s6, H7, e, F6.le, ?_⟩
    have := F6.is (s := s6) (l := [] ++ X) (by simp)
    simpa using this
  obtain ⟨s7, H7, e6, l7, i7⟩ := hap
  have e7 : R (.loop F.sl06Permute 1) [ssc ⟨q1, 0, 0, 0, true⟩, ssc ⟨q2, 0, 0, 0, true⟩, ssc ⟨q3, 0, 0, 0, true⟩, isc 1, r.pv, tpv a b c, tpv s29 ⟨q1, 0, 0, 0, true⟩ s7] H7 = some ⟨4, [tpv s29 ⟨q1, 0, 0, 0, true⟩ s7], H7⟩ := by
    rw [R_eq, e_sl06Permute_1, ep]
    rfl
  have e8 : R (.loop F.sl06Permute 1) [ssc ⟨q1, 0, 0, 0, true⟩, ssc ⟨q2, 0, 0, 0, true⟩, ssc ⟨q3, 0, 0, 0, true⟩, isc 0, r.pv, tpv a b c, tpv s29 ⟨q1, 0, 0, 0, true⟩ ⟨0, 0, 0, 0, true⟩] H4 = some ⟨4, [tpv s29 ⟨q1, 0, 0, 0, true⟩ s7], H7⟩ := by
    rw [R_eq, e_sl06Permute_1, ep]
    simp only [Option.bind_some, one_int]
    rw [decide_eq_true (show (0 : Int) < 1 by omega), cond_true, ei]
    simp only [Option.bind_some, one_sl]
    rw [show R (.loop F.sl06Permute 2) [ssc ⟨q2, 0, 0, 0, true⟩, ssc ⟨q3, 0, 0, 0, true⟩, ssc (rowAt q4 []), isc (((rowAt q4 []).n : Nat) : Int), isc 0] H5 = _ from e3]
    simp only [Option.bind_some, Nat.beq, cond_true]
    rw [e4]
    simp only [Option.bind_some, one_int]
    rw [show R (.fn F.sl05Get) [r.pv, tpv a b c, isc 0] H5 = _ from e5]
    simp only [Option.bind_some, one_sl]
    have hr : rng H6 s55.b s55.o (s55.n * 1) = some (ics X) := o6i.rng
    rw [hr]
    simp only [Option.bind_some]
    have hsn : s55.n = w := by rw [o6i.n, hX]
    rw [hsn, e6]
    simp only [Option.bind_some]
    exact e7
  refine ⟨s29, ⟨q1, 0, 0, 0, true⟩, s7, H7, ?_, ((l14.trans l5).trans l6).trans l7, ?_, IS.nil' _ _ _ _, i7⟩
  · rw [R_eq, e_sl06Permute, hnb1]
    simp only [Option.bind_some]
    rw [hnb2]
    simp only [Option.bind_some]
    rw [hkn]
    rw [show R (.loop F.sl06Permute 0) [ssc ⟨q1, 0, 0, 0, true⟩, ssc ⟨q2, 0, 0, 0, true⟩, ssc sk, isc ((0 : Nat) : Int), isc 0, tpv a b c] H2 = _ from e1]
    simp only [Option.bind_some, Nat.beq, cond_true]
    rw [show ∀ (x y : Sl) (K : Sl → Sl → Option Out), ((nthP [ssc x, ssc y] 0).bind fun p22 => p22.sc?.bind fun c23 => (slAt [c23] 0).bind fun s24 => (nthP [ssc x, ssc y] 1).bind fun p25 => p25.sc?.bind fun c26 => (slAt [c26] 0).bind fun s27 => K s24 s27) = K x y from fun _ _ _ => rfl]
    rw [e2]
    simp only [Option.bind_some, one_sl]
    rw [hm5]
    simp only [Option.bind_some]
    rw [e8]
    rfl
  · have hn4 : s29.n = 0 := o3.n
    exact ⟨hn4, by omega, .inl rfl⟩
/-- spec.l18Finish, of a network without open labels -/
theorem c_sl18Finish0 {A M : List Int → List Int → List Int} {dm : Int → Int} {t : Tn} {n : Nw} (hR : RC n.r A M) (h1 : VE n.r (oneR n.r)) {H : AH} {s u a b c : Sl} (h : NS H s u n) (ho : n.op = []) (ht : TS H a b c t) (hc : CT n.r dm t) :
    ∃ a' b' c' H', R (.fn F.sl18Finish) [npv n.r s u, tpv a b c] H = some ⟨1, [tpv a' b' c'], H'⟩ ∧ Go.Abs.Le H H' ∧ TS H' a' b' c' ⟨[], [], sumX n.r A M dm t⟩ := by
  have hu : IS H u [] := by have := h.op; rwa [ho] at this
  obtain ⟨a2, b2, c2, H2, e4, n4⟩ := c_sl08Sum0 hR h1 ht hc hu
  obtain ⟨v1, v2⟩ := sum_ve hc hR.alg h1
  have hwr := width_range hR.alg.rg
  obtain ⟨w, hw⟩ : ∃ w : Nat, widthR n.r = (w : Int) := ⟨(widthR n.r).toNat, by omega⟩
  obtain ⟨a3, b3, c3, H3, e5, l5, t5⟩ := c_sl06Permute0 hw (by omega) (by omega) n4.ts (by have := v1.1; omega) (hu.le n4.le)
  refine ⟨a3, b3, c3, H3, ?_, n4.le.trans l5, t5⟩
  rw [R_eq, e_sl18Finish, e4]
  simp only [Option.bind_some, o_sss]
  rw [e5]
  rfl
theorem t_ssb3 {α : Type} (a b : Sl) (q : Bool) (K : Sl → Sl → Bool → Option α) : ((lenP [ssc a, ssc b, bsc q] 3).bind fun _ => (nthP [ssc a, ssc b, bsc q] 0).bind fun p10 => p10.sc?.bind fun c11 => (slAt [c11] 0).bind fun s12 => (nthP [ssc a, ssc b, bsc q] 1).bind fun p13 => p13.sc?.bind fun c14 => (slAt [c14] 0).bind fun s15 => (nthP [ssc a, ssc b, bsc q] 2).bind fun p16 => p16.sc?.bind fun c17 => (boolAt [c17] 0).bind fun b18 => K s12 s15 b18) = K a b q := rfl
/-- spec.Contract, of a network without open labels -/
theorem c_sContract0 {A M : List Int → List Int → List Int} {n : Nw} (hR : RC n.r A M) (h1 : VE n.r (oneR n.r)) {H : AH} {s u sp : Sl} {ps : List Sp} (h : NS H s u n) (ho : n.op = []) (hts : n.ts.length ≤ 4611686018427387904) (hp : S2 H sp ps) :
    (∃ X, conV A M n ps = some X ∧ ∃ a b c H', R (.fn F.sContract) [npv n.r s u, ssc sp] H = some ⟨1, [tpv a b c, bsc true], H'⟩ ∧ Go.Abs.Le H H' ∧ IS H' c X) ∨
    (conV A M n ps = none ∧ ∃ H', R (.fn F.sContract) [npv n.r s u, ssc sp] H = some ⟨1, [tpv ⟨0, 0, 0, 0, true⟩ ⟨0, 0, 0, 0, true⟩ ⟨0, 0, 0, 0, true⟩, bsc false], H'⟩ ∧ Go.Abs.Le H H') := by
  obtain ⟨H1, e1, l1⟩ := c_sOrderOk h (by rw [ho]; simp) hp hts
  unfold conV
  cases hord : ordB n ps with
  | false =>
    simp only [Bool.false_eq_true, if_false]
    rw [hord] at e1
    refine .inr ⟨trivial, H1, ?_, l1⟩
    rw [R_eq, e_sContract, e1]
    rfl
  | true =>
    simp only [if_true]
    rw [hord] at e1
    obtain ⟨hn, hpl, hon⟩ := ordB_at hord
    obtain ⟨b1, b2, b3⟩ := netB_small hn
    have hsn := h.ts.1
    by_cases hz : n.ts.length = 0
    · have hps : ps = [] := List.length_eq_zero_iff.1 (by omega)
      have hts0 : n.ts = [] := List.length_eq_zero_iff.1 hz
      obtain ⟨s4, H2, e2, n2⟩ := c_sl02One hR.alg.rg H1
      refine .inl ⟨oneR n.r, ?_, ⟨0, 0, 0, 0, true⟩, ⟨0, 0, 0, 0, true⟩, s4, H2, ?_, l1.trans n2.le, n2.own.is⟩
      · rw [hps, hts0]; rfl
      · have hs0 : ((s.n : Int) == 0) = true := by rw [hsn, hz]; rfl
        rw [R_eq, e_sContract, e1]
        simp only [Option.bind_some, one_bool, Bool.not_true, cond_false, hs0, cond_true]
        rw [e2]
        rfl
    · have hs0 : ((s.n : Int) == 0) = false := by simp only [beq_eq_false_iff_ne, ne_eq]; omega
      rcases c_sl18Run hR (h.le l1) (hp.le l1) hord with ⟨W', sa, st, xs, us, H2, c1, e2, l2, ⟨n0, hA⟩, hul, hWA⟩ | ⟨c1, H2, e2, l2⟩
      · have hWC := conW_wc hR.alg ps _ _ _ (W0T_wc hn) (by rw [W0T_nums]; exact hon) c1
        obtain ⟨rn1, rn2⟩ := range_nodup n.ts.length
        have hlen := conW_len ps _ _ _ (by rw [W0T_nums]; exact rn1) (by rw [W0T_nums]; exact rn2) (by rw [W0T_nums]; exact hon) c1
        have hw0 : (W0T n.ts).length = n.ts.length := by simp [W0T]
        have hW1 : W'.length = 1 := by omega
        obtain ⟨W1, t', hlast⟩ := conW_last ps _ W' _ (n.ts.getD (n.ts.length - 1) tn0) c1 (fun e => by
          have hl1 : n.ts.length = 1 := by rw [e] at hpl; simp at hpl; omega
          match hh : n.ts, hl1 with
          | [t], _ => exact ⟨[], rfl⟩) (.inr trivial)
        have hW1e : W1 = [] := by
          have := congrArg List.length hlast
          simp at this
          exact List.length_eq_zero_iff.1 (by omega)
        subst hW1e
        rw [List.nil_append] at hlast
        obtain ⟨j, j1, j2⟩ := hWA ((n.ts.length : Int) + ps.length - 1, t') (by rw [hlast]; simp)
        have hjl : j = us.length - 1 := by simp only at j1; omega
        have hxl := hA.len
        have hx0 : us.length - 1 < xs.length := by omega
        obtain ⟨cs, q1, q2, q3, q4, q5⟩ := hA.out.cells hx0
        simp only at j2
        rw [hjl] at j2
        have hts' := hA.ts _ _ _ (List.getElem?_eq_getElem hx0) j2
        have hsan : sa.n = us.length := by rw [hA.out.n, hxl]
        have hwl : IntKind.wrap .i64 ((sa.n : Int) - 1) = ((us.length - 1 : Nat) : Int) := by rw [hsan, wrap_id] <;> omega
        obtain ⟨a, b, c, H3, e3, l3, t3⟩ := c_sl18Finish0 hR h1 ((h.le l1).le l2) ho hts' (hWC ((n.ts.length : Int) + ps.length - 1, t') (by rw [hlast]; simp))
        refine .inl ⟨sumX n.r A M (dimF n.ts) t', by rw [c1, hlast]; rfl, a, b, c, H3, ?_, (l1.trans l2).trans l3, t3.X⟩
        rw [R_eq, e_sContract, e1]
        simp only [Option.bind_some, one_bool, Bool.not_true, cond_false, hs0]
        rw [e2]
        simp only [Option.bind_some, t_ssb3, Bool.not_true, cond_false]
        rw [hwl, q2]
        simp only [Option.bind_some, q1, q3, q4, q5]
        rw [e3]
        rfl
      · refine .inr ⟨by rw [c1]; rfl, H2, ?_, l1.trans l2⟩
        rw [R_eq, e_sContract, e1]
        simp only [Option.bind_some, one_bool, Bool.not_true, cond_false, hs0]
        rw [e2]
        rfl
/-- spec.l17Plain -/
theorem c_sl17Plain (H : AH) (m : Nat) (hm : m ≤ 1000) : ∃ s' H', R (.fn F.sl17Plain) [isc (m : Int)] H = some ⟨1, [ssc s'], H'⟩ ∧ Go.Abs.Le H H' ∧ S2 H' s' (plainL m) := by
  have hpl := plain_len m
  have loop : ∀ (k i : Nat), i + k = m - 1 → ∀ (Hc : AH) (so : Sl), Go.Abs.Le H Hc → CO 2 H.length Hc so (scs ((plainL m).take i)) →
      ∃ s' H', R (.loop F.sl17Plain 0) [isc (m : Int), ssc so, isc ((i + 1 : Nat) : Int)] Hc = some ⟨2, [ssc s'], H'⟩ ∧ Go.Abs.Le H H' ∧ CO 2 H.length H' s' (scs (plainL m)) := by
    intro k
    induction k with
    | zero =>
      intro i hi Hc so hle hC
      refine ⟨so, Hc, ?_, hle, ?_⟩
      · rw [R_eq, e_sl17Plain_0, decide_eq_false (by omega)]
        rfl
      · rw [List.take_of_length_le (by omega)] at hC
        exact hC
    | succ k ih =>
      intro i hi Hc so hle hC
      have hw2 : IntKind.wrap .i64 (((i + 1 : Nat) : Int) + 1) = ((i + 1 + 1 : Nat) : Int) := by rw [wrap_id] <;> omega
      have hw3 : IntKind.wrap .i64 ((m : Int) + ((i + 1 : Nat) : Int)) = (m : Int) + ((i + 1 : Nat) : Int) := by rw [wrap_id] <;> omega
      have hw4 : IntKind.wrap .i64 ((m : Int) + ((i + 1 : Nat) : Int) - 2) = (m : Int) + i - 1 := by rw [wrap_id] <;> omega
      obtain ⟨so', H2, e2, C2, l2, f2⟩ := push_step hC hle.len (by simp; omega) (plainS m i)
      rw [← plain_take m i (by omega)] at C2
      have hle2 : Go.Abs.Le H H2 := ⟨by have := hle.len; omega, fun d hd => by rw [f2 d hd]; exact hle.get d hd⟩
      obtain ⟨s', H', e3, l3, C3⟩ := ih (i + 1) (by omega) H2 so' hle2 C2
      refine ⟨s', H', ?_, l3, C3⟩
      rw [R_eq, e_sl17Plain_0, decide_eq_true (show ((i + 1 : Nat) : Int) < (m : Int) by omega), cond_true, hw2, hw3, hw4]
      by_cases h0 : i = 0
      · subst h0
        rw [show (((0 + 1 : Nat) : Int) == 1) = true from rfl, cond_true]
        exact (e2 _).trans e3
      · have : (((i + 1 : Nat) : Int) == 1) = false := by simp only [beq_eq_false_iff_ne, ne_eq]; omega
        rw [this, cond_false]
        have hp : plainS m i = ⟨((i + 1 : Nat) : Int), (m : Int) + i - 1⟩ := by unfold plainS; rw [if_neg h0]; simp
        rw [hp] at e2
        exact (e2 _).trans e3
  have l0 := Go.Abs.Le.app H [⟨[], .rw, 2⟩]
  obtain ⟨s', H', e2, l2, C2⟩ := loop (m - 1) 0 (by omega) (H ++ [⟨[], .rw, 2⟩]) ⟨H.length, 0, 0, 0, true⟩ l0 (CO.nil _ _ _ _)
  refine ⟨s', H', ?_, l2, C2.s2⟩
  have e2 : R (.loop F.sl17Plain 0) [isc (m : Int), ssc ⟨H.length, 0, 0, 0, true⟩, isc 1] (H ++ [⟨[], .rw, 2⟩]) = _ := e2
  rw [R_eq, e_sl17Plain]
  rw [show newB H 2 [] = some (H.length, H ++ [⟨[], .rw, 2⟩]) from rfl]
  simp only [Option.bind_some]
  rw [e2]
  rfl
/-- spec.l28With, of no open labels -/
theorem c_sl28With0 {A M : List Int → List Int → List Int} {n : Nw} (hR : RC n.r A M) (h1 : VE n.r (oneR n.r)) {H : AH} {s u : Sl} (h : NS H s u n) (ho : n.op = []) (hts : n.ts.length ≤ 1000) :
    (∃ X, conV A M n (plainL n.ts.length) = some X ∧ ∃ a b c H', R (.fn F.sl28With) [npv n.r s u, ssc ⟨0, 0, 0, 0, true⟩] H = some ⟨1, [tpv a b c, bsc true], H'⟩ ∧ Go.Abs.Le H H' ∧ IS H' c X) ∨
    (conV A M n (plainL n.ts.length) = none ∧ ∃ H', R (.fn F.sl28With) [npv n.r s u, ssc ⟨0, 0, 0, 0, true⟩] H = some ⟨1, [tpv ⟨0, 0, 0, 0, true⟩ ⟨0, 0, 0, 0, true⟩ ⟨0, 0, 0, 0, true⟩, bsc false], H'⟩ ∧ Go.Abs.Le H H') := by
  obtain ⟨s4, H1, e1, l1, p1⟩ := c_sl17Plain H n.ts.length hts
  have h2 : NS H1 s ⟨0, 0, 0, 0, true⟩ n := ⟨h.ts.le l1, by rw [ho]; exact IS.nil' _ _ _ _⟩
  rcases c_sContract0 hR h1 h2 ho (by omega) p1 with ⟨X, hX, a, b, c, H', e7, l7, i7⟩ | ⟨hX, H', e7, l7⟩
  · refine .inl ⟨X, hX, a, b, c, H', ?_, l1.trans l7, i7⟩
    rw [R_eq, e_sl28With, h.ts.1, e1]
    simp only [Option.bind_some, one_sl]
    rw [e7]
    rfl
  · refine .inr ⟨hX, H', ?_, l1.trans l7⟩
    rw [R_eq, e_sl28With, h.ts.1, e1]
    simp only [Option.bind_some, one_sl]
    rw [e7]
    rfl
end Go.Abs
/- Integer networks: whether they are right, and their bounds (both). -/
namespace Go.Abs
set_option linter.all false
set_option maxRecDepth 10000

def intTB (t : Tn) : Bool := decide (sizeB t.L t.D ≠ -1) && decide ((t.X.length : Int) = sizeB t.L t.D) && t.X.all fun x => inB x (-9) 9
def consI : List Tn → List Tn → Bool
  | pre, t :: ts => intTB t && agreeB pre t && consI (pre ++ [t]) ts
  | _, [] => true
def absI (n : Int) : Int := if 0 - n > n then 0 - n else n
def absS : List Int → Int
  | [] => 0
  | x :: l => absI x + absS l
def boundF : Int → List Tn → Int
  | b, [] => b
  | b, t :: ts => boundF (min (b * absS t.X) 100000000000001) ts
def boundN (ts : List Tn) : Int := boundF 1 ts
def intB (ts : List Tn) : Bool := decide (ts.length ≤ 12) && consI [] ts && decide (boundN ts ≤ 100000000000000)
def r2 : Rg := ⟨2, 2, 0⟩
def zT (t : Tn) : Tn := ⟨t.L, t.D, List.replicate t.X.length 0⟩
theorem r2_ok : ringB r2 = true := by kernel_rfl
theorem intTB_at {t : Tn} (h : intTB t = true) : sizeB t.L t.D ≠ -1 ∧ (t.X.length : Int) = sizeB t.L t.D ∧ ∀ x ∈ t.X, -9 ≤ x ∧ x ≤ 9 := by
  simp only [intTB, Bool.and_eq_true, decide_eq_true_eq] at h
  refine ⟨h.1.1, h.1.2, fun x hx => ?_⟩
  have := List.all_eq_true.1 h.2 x hx
  simpa [inB] using this
theorem zT_ok {t : Tn} (h : intTB t = true) : tensorB r2 (zT t) = true := by
  obtain ⟨h1, h2, h3⟩ := intTB_at h
  simp only [tensorB, Bool.and_eq_true, decide_eq_true_eq]
  refine ⟨⟨⟨r2_ok, h1⟩, ?_⟩, List.all_eq_true.2 fun x hx => ?_⟩
  · show (((List.replicate t.X.length (0 : Int)).length : Nat) : Int) = sizeB t.L t.D * widthR r2
    rw [List.length_replicate, h2]
    rw [show widthR r2 = 1 from rfl, Int.mul_one]
  · rw [(List.mem_replicate.1 hx).2]; rfl
theorem zT_shp (ts : List Tn) : shp (ts.map zT) = shp ts := by
  unfold shp
  rw [List.map_map]; rfl
theorem consI_z : ∀ (ts pre : List Tn), (∀ t ∈ ts, intTB t = true) → consG r2 (pre.map zT) (ts.map zT) = consI pre ts
  | [], pre, _ => rfl
  | t :: ts, pre, h => by
    have h0 := h t List.mem_cons_self
    have ih := consI_z ts (pre ++ [t]) fun u hu => h u (List.mem_cons_of_mem _ hu)
    rw [List.map_append] at ih
    have ha : agreeB (pre.map zT) (zT t) = agreeB pre t := by unfold agreeB; rw [dim_shp (zT_shp pre)]; rfl
    simp only [List.map_cons, consG, consI, zT_ok h0, h0, ha, Bool.true_and]
    rw [← ih]; rfl
theorem dimTs_z : ∀ (ts : List Tn) (d : List Int), dimTs d (ts.map zT) = dimTs d ts
  | [], d => rfl
  | t :: ts, d => by
    show (dimT d (t.L.zip t.D)).bind (fun d' => dimTs d' (ts.map zT)) = (dimT d (t.L.zip t.D)).bind fun d' => dimTs d' ts
    congr 1
    funext d'
    exact dimTs_z ts d'
theorem dims_int {ts : List Tn} (h : ∀ t ∈ ts, intTB t = true) : (consI [] ts = true ∧ ∃ d, dimTs (List.replicate 100 0) ts = some d) ∨ (consI [] ts = false ∧ dimTs (List.replicate 100 0) ts = none) := by
  have hD0 : Dm (List.replicate 100 0) [] := ⟨by simp, fun y _ _ => by
    simp only [List.getD_eq_getElem?_getD, List.getElem?_replicate]
    split <;> rfl⟩
  have := dimTs_spec (r := r2) (ts.map zT) [] _ hD0 (fun _ h => by simp at h) (fun u hu => by
    obtain ⟨t, ht, rfl⟩ := List.mem_map.1 hu
    exact zT_ok (h t ht))
  have hc := consI_z ts [] h
  simp only [List.map_nil] at hc
  rw [dimTs_z, hc] at this
  rcases this with ⟨a, d, b, _⟩ | ⟨a, b⟩
  · exact .inl ⟨a, d, b⟩
  · exact .inr ⟨a, b⟩
theorem consI_all : ∀ {ts pre : List Tn}, consI pre ts = true → ∀ t ∈ ts, intTB t = true
  | [], _, _, t, ht => by simp at ht
  | u :: ts, pre, h, t, ht => by
    simp only [consI, Bool.and_eq_true] at h
    rcases List.mem_cons.1 ht with rfl | ht
    · exact h.1.1
    · exact consI_all h.2 t ht
theorem consI_false {ts pre : List Tn} (h : ts.all intTB = false) : consI pre ts = false := by
  cases hc : consI pre ts with
  | false => rfl
  | true =>
    have : ts.all intTB = true := List.all_eq_true.2 fun t ht => consI_all hc t ht
    rw [this] at h; cases h
theorem int_size {t : Tn} (h : intTB t = true) : LabOk t ∧ 1 ≤ (t.X.length : Int) ∧ t.X.length ≤ 4096 ∧ DimsOk t.D := by
  have hz := zT_ok h
  have hT := tensor_ok hz
  obtain ⟨h1, h2, h3⟩ := intTB_at h
  have hl := hT.len
  rw [show widthR r2 = 1 from rfl, Int.mul_one] at hl
  have hl : ((List.replicate t.X.length (0 : Int)).length : Int) = prd t.D := hl
  rw [List.length_replicate] at hl
  have hp := prd_pos hT.d.ge
  have hp : 1 ≤ prd t.D := hp
  have hd : DimsOk t.D := hT.d
  have := hd.2.2
  exact ⟨(tensor_facts hz).1, by omega, by omega, hd⟩
theorem absI_rng {x : Int} (h : -9 ≤ x ∧ x ≤ 9) : 0 ≤ absI x ∧ absI x ≤ 9 := by unfold absI; split <;> omega
theorem absS_rng : ∀ {l : List Int}, (∀ x ∈ l, -9 ≤ x ∧ x ≤ 9) → 0 ≤ absS l ∧ absS l ≤ 9 * l.length
  | [], _ => by simp [absS]
  | x :: l, h => by
    have h1 := absI_rng (h x List.mem_cons_self)
    have h2 := absS_rng (l := l) fun y hy => h y (List.mem_cons_of_mem _ hy)
    simp only [absS, List.length_cons]; omega
theorem boundF_zero : ∀ ts : List Tn, boundF 0 ts = 0
  | [] => rfl
  | t :: ts => by
    simp only [boundF, Int.zero_mul]
    exact boundF_zero ts
theorem boundF_rng : ∀ {ts : List Tn} {b : Int}, (∀ t ∈ ts, intTB t = true) → 0 ≤ b → b ≤ 100000000000001 → 0 ≤ boundF b ts ∧ boundF b ts ≤ 100000000000001
  | [], b, _, h0, h1 => ⟨h0, h1⟩
  | t :: ts, b, h, h0, h1 => by
    have hs := absS_rng (intTB_at (h t List.mem_cons_self)).2.2
    have : 0 ≤ b * absS t.X := Int.mul_nonneg h0 hs.1
    exact boundF_rng (ts := ts) (fun u hu => h u (List.mem_cons_of_mem _ hu)) (by omega) (by omega)
theorem n_int2 (m : Int) {α : Type} (k : Int → Option α) : ((nthP [isc m] 0).bind fun p => p.sc?.bind fun c => (intAt .i64 [c] 0).bind k) = k m := rfl
theorem abs_wrap {n : Int} (h : -9 ≤ n ∧ n ≤ 9) : (if IntKind.wrap .i64 (0 - n) > n then IntKind.wrap .i64 (0 - n) else n) = absI n := by
  have : IntKind.wrap .i64 (0 - n) = 0 - n := by rw [wrap_id] <;> omega
  rw [this]; rfl
/-- impl.boundOf: a sum -/
theorem c_iboundOf_1 {H : AH} {s : Sl} {X : List Int} (h : IS H s X) (hl : X.length ≤ 4096) (hx : ∀ x ∈ X, -9 ≤ x ∧ x ≤ 9) : R (.loop F.iboundOf 1) [isc 0, ssc s, isc (X.length : Int), isc 0] H = some ⟨4, [isc (absS X)], H⟩ := by
  have loop : ∀ (k i : Nat), i + k = X.length → ∀ a : Int, 0 ≤ a → a ≤ 9 * i → R (.loop F.iboundOf 1) [isc a, ssc s, isc (X.length : Int), isc (i : Int)] H = some ⟨4, [isc (a + absS (X.drop i))], H⟩ := by
    intro k
    induction k with
    | zero =>
      intro i hi a _ _
      obtain rfl : i = X.length := by omega
      rw [R_eq, e_iboundOf_1, lt_self, List.drop_eq_nil_of_le (Nat.le_refl _)]
      simp [absS]
    | succ k ih =>
      intro i hi a h0 h1
      have hlt : i < X.length := by omega
      have hr := hx X[i] (List.getElem_mem hlt)
      have ha := absI_rng hr
      have hw : IntKind.wrap .i64 (a + absI X[i]) = a + absI X[i] := by rw [wrap_id] <;> omega
      rw [R_eq, e_iboundOf_1, lt_true hlt, w1 hlt (by omega), cond_true, h.ldk hlt, abs_wrap hr, hw, ih (i + 1) (by omega) _ (by omega) (by omega), List.drop_eq_getElem_cons hlt]
      simp only [absS]
      rw [Int.add_assoc]
  have := loop X.length 0 (by omega) 0 (by omega) (by omega)
  simpa using this
theorem c_sl42Bound_1 {H : AH} {s : Sl} {X : List Int} (h : IS H s X) (hl : X.length ≤ 4096) (hx : ∀ x ∈ X, -9 ≤ x ∧ x ≤ 9) : R (.loop F.sl42Bound 1) [isc 0, ssc s, isc (X.length : Int), isc 0] H = some ⟨4, [isc (absS X)], H⟩ := by
  have loop : ∀ (k i : Nat), i + k = X.length → ∀ a : Int, 0 ≤ a → a ≤ 9 * i → R (.loop F.sl42Bound 1) [isc a, ssc s, isc (X.length : Int), isc (i : Int)] H = some ⟨4, [isc (a + absS (X.drop i))], H⟩ := by
    intro k
    induction k with
    | zero =>
      intro i hi a _ _
      obtain rfl : i = X.length := by omega
      rw [R_eq, e_sl42Bound_1, lt_self, List.drop_eq_nil_of_le (Nat.le_refl _)]
      simp [absS]
    | succ k ih =>
      intro i hi a h0 h1
      have hlt : i < X.length := by omega
      have hr := hx X[i] (List.getElem_mem hlt)
      have ha := absI_rng hr
      have hw : IntKind.wrap .i64 (a + absI X[i]) = a + absI X[i] := by rw [wrap_id] <;> omega
      rw [R_eq, e_sl42Bound_1, lt_true hlt, w1 hlt (by omega), cond_true, h.ldk hlt, abs_wrap hr, hw, ih (i + 1) (by omega) _ (by omega) (by omega), List.drop_eq_getElem_cons hlt]
      simp only [absS]
      rw [Int.add_assoc]
  have := loop X.length 0 (by omega) 0 (by omega) (by omega)
  simpa using this
theorem bound_step {b s : Int} (h0 : 0 ≤ b) (h1 : b ≤ 100000000000001) (s0 : 0 ≤ s) (s1 : s ≤ 36864) : IntKind.wrap .i64 (b * s) = b * s ∧ (if (100000000000001 : Int) < b * s then 100000000000001 else b * s) = min (b * s) 100000000000001 ∧ 0 ≤ min (b * s) 100000000000001 ∧ min (b * s) 100000000000001 ≤ 100000000000001 := by
  have h2 : 0 ≤ b * s := Int.mul_nonneg h0 s0
  have h3 : b * s ≤ 100000000000001 * 36864 := Int.mul_le_mul h1 s1 s0 (by omega)
  refine ⟨by rw [wrap_id] <;> omega, ?_, by omega, by omega⟩
  split <;> omega
/-- impl.boundOf -/
theorem c_iboundOf {H : AH} {s : Sl} {ts : List Tn} (h : T3 H s ts) (hl : ts.length ≤ 1000) (hi : ∀ t ∈ ts, intTB t = true) : R (.fn F.iboundOf) [ssc s] H = some ⟨1, [isc (boundN ts)], H⟩ := by
  have loop : ∀ (k i : Nat), i + k = ts.length → ∀ b : Int, 0 ≤ b → b ≤ 100000000000001 →
      (R (.loop F.iboundOf 0) [isc b, ssc s, isc (ts.length : Int), isc (i : Int)] H = some ⟨1, [isc 0], H⟩ ∧ boundF b (ts.drop i) = 0) ∨ R (.loop F.iboundOf 0) [isc b, ssc s, isc (ts.length : Int), isc (i : Int)] H = some ⟨2, [isc (boundF b (ts.drop i))], H⟩ := by
    intro k
    induction k with
    | zero =>
      intro i hi' b _ _
      obtain rfl : i = ts.length := by omega
      right
      rw [R_eq, e_iboundOf_0, lt_self, List.drop_eq_nil_of_le (Nat.le_refl _)]
      rfl
    | succ k ih =>
      intro i hi' b h0 h1
      have hlt : i < ts.length := by omega
      have ht := hi _ (List.getElem_mem hlt)
      obtain ⟨q1, q2, q3, q4⟩ := int_size ht
      have hx := (intTB_at ht).2.2
      obtain ⟨x, y, z, hT, kt⟩ := h.ld hlt
      have e1 := c_iboundOf_1 hT.X q3 hx
      have hs := absS_rng hx
      obtain ⟨w1', w2, w3, w4⟩ := bound_step h0 h1 hs.1 (by omega)
      rw [List.drop_eq_getElem_cons hlt]
      simp only [boundF]
      rw [R_eq, e_iboundOf_0, lt_true hlt, w1 hlt (by omega), cond_true, kt, hT.X.n, e1]
      simp only [Option.bind_some, Nat.beq, cond_true, n_int2]
      by_cases hz : absS ts[i].X = 0
      · left
        rw [hz, Int.mul_zero]
        exact ⟨rfl, boundF_zero _⟩
      · have hb : (absS ts[i].X == 0) = false := by simpa using hz
        rw [hb, cond_false, w1', w2]
        exact ih (i + 1) (by omega) _ w3 w4
  rw [R_eq, e_iboundOf, h.1]
  rcases loop ts.length 0 (by omega) 1 (by omega) (by omega) with ⟨e, e2⟩ | e
  · have e : R (.loop F.iboundOf 0) [isc 1, ssc s, isc (ts.length : Int), isc 0] H = _ := e
    rw [List.drop_zero] at e2
    rw [e]
    unfold boundN
    rw [e2]; rfl
  · have e : R (.loop F.iboundOf 0) [isc 1, ssc s, isc (ts.length : Int), isc 0] H = _ := e
    rw [e]
    rfl
/-- spec.l42Bound -/
theorem c_sl42Bound {H : AH} {s : Sl} {ts : List Tn} (h : T3 H s ts) (hl : ts.length ≤ 1000) (hi : ∀ t ∈ ts, intTB t = true) : R (.fn F.sl42Bound) [ssc s] H = some ⟨1, [isc (boundN ts)], H⟩ := by
  have loop : ∀ (k i : Nat), i + k = ts.length → ∀ b : Int, 0 ≤ b → b ≤ 100000000000001 → R (.loop F.sl42Bound 0) [isc b, ssc s, isc (ts.length : Int), isc (i : Int)] H = some ⟨2, [isc (boundF b (ts.drop i))], H⟩ := by
    intro k
    induction k with
    | zero =>
      intro i hi' b _ _
      obtain rfl : i = ts.length := by omega
      rw [R_eq, e_sl42Bound_0, lt_self, List.drop_eq_nil_of_le (Nat.le_refl _)]
      rfl
    | succ k ih =>
      intro i hi' b h0 h1
      have hlt : i < ts.length := by omega
      have ht := hi _ (List.getElem_mem hlt)
      obtain ⟨q1, q2, q3, q4⟩ := int_size ht
      have hx := (intTB_at ht).2.2
      obtain ⟨x, y, z, hT, kt⟩ := h.ld hlt
      have e1 := c_sl42Bound_1 hT.X q3 hx
      have hs := absS_rng hx
      obtain ⟨w1', w2, w3, w4⟩ := bound_step h0 h1 hs.1 (by omega)
      have ih := ih (i + 1) (by omega) _ w3 w4
      rw [List.drop_eq_getElem_cons hlt]
      simp only [boundF]
      rw [R_eq, e_sl42Bound_0, lt_true hlt, w1 hlt (by omega), cond_true, kt, hT.X.n, e1]
      simp only [Option.bind_some, Nat.beq, cond_true, n_int2]
      rw [w1', w2]
      by_cases hp : absS ts[i].X > 0
      · have hb : (absS ts[i].X == 0) = false := by simp only [beq_eq_false_iff_ne, ne_eq]; omega
        have hdv : Int.tdiv 100000000000000 (absS ts[i].X) = 100000000000000 / absS ts[i].X := Int.tdiv_eq_ediv_of_nonneg (by omega)
        have hle : 100000000000000 / absS ts[i].X ≤ 100000000000000 := Int.ediv_le_self _ (by omega)
        have hge : 0 ≤ 100000000000000 / absS ts[i].X := Int.ediv_nonneg (by omega) (by omega)
        have hwd : IntKind.wrap .i64 (Int.tdiv 100000000000000 (absS ts[i].X)) = 100000000000000 / absS ts[i].X := by rw [hdv, wrap_id] <;> omega
        rw [decide_eq_true hp, cond_true, hb, cond_false, hwd]
        by_cases hc : b > 100000000000000 / absS ts[i].X
        · have : (100000000000000 : Int) < b * absS ts[i].X := (Int.ediv_lt_iff_lt_mul hp).1 hc
          rw [decide_eq_true hc, cond_true]
          have e : min (b * absS ts[i].X) 100000000000001 = 100000000000001 := by omega
          rw [e] at ih ⊢
          exact ih
        · rw [decide_eq_false hc, cond_false]
          exact ih
      · rw [decide_eq_false hp, cond_false]
        exact ih
  have e := loop ts.length 0 (by omega) 1 (by omega) (by omega)
  have e : R (.loop F.sl42Bound 0) [isc 1, ssc s, isc (ts.length : Int), isc 0] H = _ := e
  rw [R_eq, e_sl42Bound, h.1, e]
  rfl
/-- impl.intTensorOk -/
theorem c_iintTensorOk {H : AH} {a b c : Sl} {t : Tn} (h : TS H a b c t) : R (.fn F.iintTensorOk) [tpv a b c] H = some ⟨1, [bsc (intTB t)], H⟩ := by
  rw [R_eq, e_iintTensorOk, c_iTensorSize h.L h.D]
  simp only [Option.bind_some, one_int]
  unfold intTB
  by_cases h1 : sizeB t.L t.D = -1
  · rw [h1]; rfl
  · have hb : (sizeB t.L t.D == -1) = false := by simpa using h1
    rw [hb, cond_false, h.X.n, decide_eq_true h1]
    by_cases h2 : (t.X.length : Int) = sizeB t.L t.D
    · have hb2 : ((t.X.length : Int) != sizeB t.L t.D) = false := by simpa using h2
      have hsz : t.X.length ≤ 4096 := by
        rcases sizeB_range t.L t.D with e | e
        · omega
        · omega
      rw [hb2, cond_false, decide_eq_true h2]
      have := loopG (F := fun i : Nat => R (.loop F.iintTensorOk 0) [ssc c, isc (t.X.length : Int), isc (i : Int)] H) (l := t.X) (fun q i => cond (q.all (fun x => inB x (-9) 9)) (some ⟨2, [], H⟩) (some ⟨1, [bsc false], H⟩))
        (by rw [R_eq, e_iintTensorOk_0, lt_self]; rfl) (fun i hi q hq => by
          rw [R_eq, e_iintTensorOk_0, lt_true hi, w1 hi (by omega), cond_true, h.X.ldk hi]
          simp only [List.all_cons]
          by_cases c1 : t.X[i] < -9
          · have : inB t.X[i] (-9) 9 = false := by unfold inB; rw [decide_eq_false (show ¬ t.X[i] ≥ -9 by omega)]; rfl
            rw [decide_eq_true c1, this]; rfl
          · by_cases c2 : t.X[i] > 9
            · have : inB t.X[i] (-9) 9 = false := by unfold inB; rw [decide_eq_false (show ¬ t.X[i] ≤ 9 by omega), Bool.and_false]
              rw [decide_eq_false c1, decide_eq_true c2, this]; rfl
            · have : inB t.X[i] (-9) 9 = true := by unfold inB; rw [decide_eq_true (show t.X[i] ≥ -9 by omega), decide_eq_true (show t.X[i] ≤ 9 by omega)]; rfl
              rw [decide_eq_false c1, decide_eq_false c2, this, Bool.true_and]
              exact hq)
      have this : R (.loop F.iintTensorOk 0) [ssc c, isc (t.X.length : Int), isc 0] H = _ := this
      rw [this]
      simp only [Bool.true_and]
      cases ha : t.X.all fun x => inB x (-9) 9 <;> rfl
    · have hb2 : ((t.X.length : Int) != sizeB t.L t.D) = true := by simpa using h2
      rw [hb2, cond_true, decide_eq_false h2]
      rfl
theorem t_dims2 {l : List Sc} (hl : l.length = 100) (b : Bool) {α : Type} (x y : Option α) :
    ((lenP [.agg l, bsc b] 2).bind fun _ => (nthP [.agg l, bsc b] 0).bind fun p15 => p15.agg?.bind fun l16 => cond (decide (l16.length = 100)) ((nthP [.agg l, bsc b] 1).bind fun p17 => p17.sc?.bind fun c18 => (boolAt [c18] 0).bind fun b19 =>
      cond (Nat.beq l16.length 100) (cond (decide (0 + l16.length ≤ (zc P Y.t100_int).length)) (cond b19 x y) none) none) none) = cond b x y := by
  have hz : (zc P Y.t100_int).length = 100 := by rw [zc_dims]; simp
  simp only [Option.bind_some, lenP, nthP, PV.agg?, PV.sc?, boolAt, List.length_cons, List.length_nil, if_true, List.getElem?_cons_zero, List.getElem?_cons_succ, hl, decide_true, cond_true, hz, Nat.zero_add, Nat.le_refl]
  rfl
/-- impl.IntOk -/
theorem c_iIntOk {H : AH} {s : Sl} {ts : List Tn} (h : T3 H s ts) : R (.fn F.iIntOk) [.agg [.sl s]] H = some ⟨1, [bsc (intB ts)], H⟩ := by
  rw [R_eq, e_iIntOk, h.1]
  unfold intB
  by_cases hl : ts.length ≤ 12
  · rw [decide_eq_false (show ¬ (ts.length : Int) > 12 by omega), cond_false, decide_eq_true hl, Bool.true_and]
    have := loopG (F := fun i : Nat => R (.loop F.iIntOk 0) [ssc s, isc (ts.length : Int), isc (i : Int)] H) (l := ts) (fun q i => cond (q.all intTB) (some ⟨2, [], H⟩) (some ⟨1, [bsc false], H⟩))
      (by rw [R_eq, e_iIntOk_0, lt_self]; rfl) (fun i hi q hq => by
        obtain ⟨x, y, z, hT, kt⟩ := h.ld hi
        rw [R_eq, e_iIntOk_0, lt_true hi, w1 hi (by omega), cond_true, kt, c_iintTensorOk hT]
        simp only [Option.bind_some, one_bool, List.all_cons]
        cases intTB ts[i] with
        | false => rfl
        | true => simp only [Bool.not_true, cond_false, Bool.true_and]; exact hq)
    have this : R (.loop F.iIntOk 0) [ssc s, isc (ts.length : Int), isc 0] H = _ := this
    rw [this]
    cases ha : ts.all intTB with
    | false =>
      rw [consI_false ha]
      rfl
    | true =>
      have hall : ∀ t ∈ ts, intTB t = true := fun t ht => List.all_eq_true.1 ha t ht
      simp only [Option.bind_some, Nat.beq, cond_false, cond_true]
      rcases dims_int hall with ⟨c1, d, c2⟩ | ⟨c1, c2⟩
      · rcases c_idimsOf h hl (fun t ht => (int_size (hall t ht)).1) with ⟨d', e1, e2, e3⟩ | ⟨e1, _⟩
        · have hdl : (ics d').length = 100 := by simp [e2]
          rw [e3]
          simp only [Option.bind_some]
          rw [t_dims2 hdl, cond_true, c_iboundOf h (by omega) hall, c1]
          rfl
        · rw [c2] at e1; cases e1
      · rcases c_idimsOf h hl (fun t ht => (int_size (hall t ht)).1) with ⟨d', e1, _⟩ | ⟨e1, l, e2, e3⟩
        · rw [c2] at e1; cases e1
        · rw [e3]
          simp only [Option.bind_some]
          rw [t_dims2 e2, cond_false, c1]
          rfl
  · rw [decide_eq_true (show (ts.length : Int) > 12 by omega), cond_true, decide_eq_false hl]
    rfl
/-- spec.IntOk, a tensor among those before it -/
theorem c_sIntOk_2 {H : AH} {s a b c : Sl} {ts : List Tn} {t : Tn} (h : T3 H s ts) (hl : ts.length ≤ 12) {i : Nat} (hi : i ≤ ts.length) (hpre : ∀ t ∈ ts.take i, t.L.length = t.D.length ∧ t.L.length ≤ 12) (hT : TS H a b c t) (htl : t.L.length = t.D.length) (ht12 : t.L.length ≤ 12) :
    R (.loop F.sIntOk 2) [isc (i : Int), ssc a, isc (t.L.length : Int), isc 0, .agg [.sl s], tpv a b c] H = cond (agreeB (ts.take i) t) (some ⟨6, [], H⟩) (some ⟨1, [bsc false], H⟩) := by
  have := loopG (F := fun k : Nat => R (.loop F.sIntOk 2) [isc (i : Int), ssc a, isc (t.L.length : Int), isc (k : Int), .agg [.sl s], tpv a b c] H) (l := t.L)
    (fun q k => cond ((q.zip (t.D.drop k)).all (fun y => !(decide (dimF (ts.take i) y.1 > 0) && dimF (ts.take i) y.1 != y.2))) (some ⟨6, [], H⟩) (some ⟨1, [bsc false], H⟩))
    (by rw [R_eq, e_sIntOk_2, lt_self]; rfl) (fun k hk q hq => by
      have hk2 : k < t.D.length := by omega
      rw [R_eq, e_sIntOk_2, hT.L.ldk hk, lt_true hk, w1 hk (by omega), cond_true, slB_take (by have := h.2.1; rw [h.1] at this; omega)]
      simp only [Option.bind_some]
      rw [c_sl12Dim (h.take hi) (by simp; omega) (fun t ht => by have := hpre t ht; omega)]
      simp only [Option.bind_some, one_int]
      rw [List.drop_eq_getElem_cons hk2, List.zip_cons_cons, List.all_cons]
      by_cases hd : dimF (ts.take i) t.L[k] > 0
      · simp only [hd, decide_true, cond_true, Bool.true_and]
        rw [hT.D.ldk hk2]
        by_cases he : dimF (ts.take i) t.L[k] = t.D[k]
        · have hb : (dimF (ts.take i) t.L[k] != t.D[k]) = false := by rw [he]; simp
          simp only [hb, cond_false, Bool.not_false, Bool.true_and]
          exact hq
        · have hb : (dimF (ts.take i) t.L[k] != t.D[k]) = true := by simp [he]
          simp [hb]
      · simp only [hd, decide_false, cond_false, Bool.false_and, Bool.not_false, Bool.true_and]
        exact hq)
  rw [show ((0 : Int)) = ((0 : Nat) : Int) from rfl, this, List.drop_zero]
  rfl
/-- spec.IntOk -/
theorem c_sIntOk {H : AH} {s : Sl} {ts : List Tn} (h : T3 H s ts) : R (.fn F.sIntOk) [.agg [.sl s]] H = some ⟨1, [bsc (intB ts)], H⟩ := by
  rw [R_eq, e_sIntOk, h.1]
  unfold intB
  by_cases hl : ts.length ≤ 12
  · rw [decide_eq_false (show ¬ (ts.length : Int) > 12 by omega), cond_false, decide_eq_true hl, Bool.true_and]
    have loop : ∀ (k i : Nat), i + k = ts.length → (∀ t ∈ ts.take i, intTB t = true) → R (.loop F.sIntOk 0) [ssc s, isc (ts.length : Int), isc (i : Int), .agg [.sl s]] H = cond (consI (ts.take i) (ts.drop i)) (some ⟨2, [], H⟩) (some ⟨1, [bsc false], H⟩) := by
      intro k
      induction k with
      | zero =>
        intro i hi _
        obtain rfl : i = ts.length := by omega
        rw [R_eq, e_sIntOk_0, lt_self, List.drop_eq_nil_of_le (Nat.le_refl _)]
        simp [consI]
      | succ k ih =>
        intro i hi hpre
        have hlt : i < ts.length := by omega
        obtain ⟨x, y, z, hT, kt⟩ := h.ld hlt
        rw [List.drop_eq_getElem_cons hlt]
        simp only [consI]
        rw [R_eq, e_sIntOk_0, lt_true hlt, w1 hlt (by omega), cond_true, kt, c_sTensorSize hT.L hT.D]
        simp only [Option.bind_some, one_int]
        have bad : ∀ v : Bool, intTB ts[i] = false → cond (intTB ts[i] && agreeB (ts.take i) ts[i] && v) (some (⟨2, [], H⟩ : Out)) (some ⟨1, [bsc false], H⟩) = some ⟨1, [bsc false], H⟩ := fun v e => by rw [e]; rfl
        rcases sizeB_range ts[i].L ts[i].D with hs | hs
        · rw [bad _ (by unfold intTB; rw [hs]; rfl), hs]
          rfl
        · have hne : sizeB ts[i].L ts[i].D ≠ -1 := by omega
          rw [decide_eq_false (show ¬ sizeB ts[i].L ts[i].D < 0 by omega), cond_false, hT.X.n]
          by_cases h2 : (ts[i].X.length : Int) = sizeB ts[i].L ts[i].D
          · have hb2 : ((ts[i].X.length : Int) != sizeB ts[i].L ts[i].D) = false := by simpa using h2
            rw [hb2, cond_false]
            have := loopG (F := fun j : Nat => R (.loop F.sIntOk 1) [ssc z, isc (ts[i].X.length : Int), isc (j : Int)] H) (l := ts[i].X) (fun q j => cond (q.all (fun x => inB x (-9) 9)) (some ⟨4, [], H⟩) (some ⟨1, [bsc false], H⟩))
              (by rw [R_eq, e_sIntOk_1, lt_self]; rfl) (fun j hj q hq => by
                rw [R_eq, e_sIntOk_1, lt_true hj, w1 hj (by omega), cond_true, hT.X.ldk hj, c_sl01In]
                simp only [Option.bind_some, one_bool, List.all_cons]
                cases inB ts[i].X[j] (-9) 9 with
                | false => rfl
                | true => simp only [Bool.not_true, cond_false, Bool.true_and]; exact hq)
            have this : R (.loop F.sIntOk 1) [ssc z, isc (ts[i].X.length : Int), isc 0] H = _ := this
            rw [this]
            have hit : intTB ts[i] = ts[i].X.all fun x => inB x (-9) 9 := by unfold intTB; rw [decide_eq_true hne, decide_eq_true h2]; rfl
            cases ha : ts[i].X.all fun x => inB x (-9) 9 with
            | false =>
              rw [bad _ (by rw [hit, ha])]
              rfl
            | true =>
              rw [ha] at hit
              have hsz := int_size hit
              simp only [Option.bind_some, Nat.beq, cond_false, cond_true]
              rw [hT.L.n, c_sIntOk_2 h hl (Nat.le_of_lt hlt) (fun t ht => by have := (int_size (hpre t ht)).1; exact ⟨this.1, this.2.1⟩) hT hsz.1.1 hsz.1.2.1, hit]
              simp only [Bool.true_and]
              cases hg : agreeB (ts.take i) ts[i] with
              | false => rfl
              | true =>
                simp only [cond_true, Option.bind_some, Nat.beq, cond_false, Bool.true_and]
                rw [← take_snocT hlt]
                exact ih (i + 1) (by omega) (fun t ht => by
                  rw [take_snocT hlt] at ht
                  rcases List.mem_append.1 ht with ht | ht
                  · exact hpre t ht
                  · simp at ht; subst ht; exact hit)
          · have hb2 : ((ts[i].X.length : Int) != sizeB ts[i].L ts[i].D) = true := by simpa using h2
            rw [hb2, cond_true, bad _ (by unfold intTB; rw [decide_eq_false h2, Bool.and_false]; rfl)]
    have this : R (.loop F.sIntOk 0) [ssc s, isc (ts.length : Int), isc 0, .agg [.sl s]] H = _ := loop ts.length 0 (by omega) (by simp)
    rw [this]
    simp only [List.take_zero, List.drop_zero]
    cases hc : consI [] ts with
    | false => rfl
    | true =>
      simp only [Option.bind_some, Nat.beq, cond_false, cond_true]
      rw [c_sl42Bound h (by omega) (consI_all hc)]
      rfl
  · rw [decide_eq_true (show (ts.length : Int) > 12 by omega), cond_true, decide_eq_false hl]
    rfl
end Go.Abs
/- Integer networks: modulo a prime, and the value there (both). -/
namespace Go.Abs
set_option linter.all false
set_option maxRecDepth 10000

def modI (p x : Int) : Int := (x.tmod p + p).tmod p
def modT (p : Int) (t : Tn) : Tn := ⟨t.L, t.D, t.X.map (modI p)⟩
def modN (p : Int) (ts : List Tn) : Nw := ⟨⟨2, p, 0⟩, ts.map (modT p), []⟩
theorem prime_at {p : Int} (h : primeB p = true) : 2 ≤ p ∧ p ≤ 1000003 := by
  simp only [primeB, Bool.and_eq_true, decide_eq_true_eq] at h
  exact h.1
theorem mod_mp {p : Int} (h : primeB p = true) : MP ⟨2, p, 0⟩ := by
  have := prime_at h
  refine ⟨rfl, ?_, this.1, this.2⟩
  show (if (2 : Int) = 1 then _ else if (2 : Int) = 2 then primeB p && (0 : Int) == 0 else _) = true
  rw [if_neg (by omega), if_pos rfl, h]; rfl
theorem modI_wrap {p x : Int} (hp : 2 ≤ p ∧ p ≤ 1000003) : Int.tmod (IntKind.wrap .i64 (Int.tmod x p + p)) p = modI p x := by
  have h1 := Int.tmod_lt_of_pos x (show 0 < p by omega)
  have h2 := Int.lt_tmod_of_pos x (show 0 < p by omega)
  unfold modI
  rw [wrap_id (by omega) (by omega)]
/-- A row's numbers are replaced in place, one by one. -/
theorem mid_set {X : List Int} {f : Int → Int} {i : Nat} (h : i < X.length) : ((X.take i).map f ++ X.drop i).set i (f X[i]) = (X.take (i + 1)).map f ++ X.drop (i + 1) := by
  have : i - ((X.take i).map f).length = 0 := by simp; omega
  rw [take_snoc' h, List.map_append, List.set_append_right _ _ (by simp; omega), this]
  have hd : (X.drop i).set 0 (f X[i]) = f X[i] :: X.drop (i + 1) := by rw [List.drop_eq_getElem_cons h]; rfl
  rw [hd]
  simp
theorem m_iModNetwork_1 {n0 : Nat} {H : AH} {a b c : Sl} {X : List Int} {p : Int} (hp : 2 ≤ p ∧ p ≤ 1000003) (ho : Own n0 H c X) (hl : X.length ≤ 4096) :
    ∃ H', R (.loop F.iModNetwork 1) [isc p, ssc c, isc (X.length : Int), isc 0, tpv a b c] H = some ⟨4, [], H'⟩ ∧ Mut n0 H H' c X (X.map (modI p)) := by
  have hp0 : (p == 0) = false := by simp only [beq_eq_false_iff_ne, ne_eq]; omega
  by_cases he : X = []
  · subst he
    exact ⟨H, by rw [R_eq, e_iModNetwork_1]; rfl, Mut.refl ho⟩
  · have hb := ho.blk' he
    have heta := ho.eta
    have loop : ∀ (k i : Nat), i + k = X.length → R (.loop F.iModNetwork 1) [isc p, ssc c, isc (X.length : Int), isc (i : Int), tpv a b c] (H.set c.b ⟨ics ((X.take i).map (modI p) ++ X.drop i), .rw, 1⟩) = some ⟨4, [], H.set c.b ⟨ics (X.map (modI p)), .rw, 1⟩⟩ := by
      intro k
      induction k with
      | zero =>
        intro i hi
        obtain rfl : i = X.length := by omega
        rw [R_eq, e_iModNetwork_1, lt_self, List.take_length, List.drop_eq_nil_of_le (Nat.le_refl _), List.append_nil]
        rfl
      | succ k ih =>
        intro i hi
        have hlt : i < X.length := by omega
        have hll : ((X.take i).map (modI p) ++ X.drop i).length = X.length := by simp; omega
        have hget : ((X.take i).map (modI p) ++ X.drop i)[i]'(by omega) = X[i] := by
          rw [List.getElem_append_right (by simp; omega), List.getElem_drop]
          congr 1
          simp; omega
        have hix : ixA c (i : Int) 1 = some i := by rw [ixA_nat (by rw [ho.n]; exact hlt), ho.o]; simp
        have hrd : rdB (H.set c.b ⟨ics ((X.take i).map (modI p) ++ X.drop i), .rw, 1⟩) c.b = some (ics ((X.take i).map (modI p) ++ X.drop i)) := by unfold rdB; rw [set_get hb]; rfl
        have hia : intAt .i64 (ics ((X.take i).map (modI p) ++ X.drop i)) i = some X[i] := intAt_get (by
          rw [List.getElem?_map, List.getElem?_eq_getElem (by omega), hget]; rfl)
        rw [R_eq, e_iModNetwork_1, lt_true hlt, w1 hlt (by omega), cond_true, hix]
        simp only [Option.bind_some, hrd, hia, hp0, cond_false]
        rw [modI_wrap hp, putR_one (set_get hb) (by simp; omega), set_set]
        simp only [Option.bind_some]
        have hs : (ics ((X.take i).map (modI p) ++ X.drop i)).set i (.int .i64 (modI p X[i])) = ics ((X.take (i + 1)).map (modI p) ++ X.drop (i + 1)) := by
          rw [← mid_set hlt]
          simp [List.map_set]
        rw [hs]
        exact ih (i + 1) (by omega)
    have e := loop X.length 0 (by omega)
    rw [List.take_zero, List.drop_zero, List.map_nil, List.nil_append, set_same hb] at e
    exact ⟨_, e, Mut.set ho he (by simp)⟩
theorem m_sModNetwork_1 {n0 : Nat} {H : AH} {a b c q : Sl} {X : List Int} {p : Int} (hp : 2 ≤ p ∧ p ≤ 1000003) (ho : Own n0 H c X) (hq : IS H q X) (hne : X ≠ [] → q.b ≠ c.b) (hl : X.length ≤ 4096) :
    ∃ H', R (.loop F.sModNetwork 1) [isc p, ssc q, isc (X.length : Int), isc 0, tpv a b c] H = some ⟨4, [], H'⟩ ∧ Mut n0 H H' c X (X.map (modI p)) := by
  have hp0 : (p == 0) = false := by simp only [beq_eq_false_iff_ne, ne_eq]; omega
  by_cases he : X = []
  · subst he
    exact ⟨H, by rw [R_eq, e_sModNetwork_1]; rfl, Mut.refl ho⟩
  · have hb := ho.blk' he
    have loop : ∀ (k i : Nat), i + k = X.length → R (.loop F.sModNetwork 1) [isc p, ssc q, isc (X.length : Int), isc (i : Int), tpv a b c] (H.set c.b ⟨ics ((X.take i).map (modI p) ++ X.drop i), .rw, 1⟩) = some ⟨4, [], H.set c.b ⟨ics (X.map (modI p)), .rw, 1⟩⟩ := by
      intro k
      induction k with
      | zero =>
        intro i hi
        obtain rfl : i = X.length := by omega
        rw [R_eq, e_sModNetwork_1, lt_self, List.take_length, List.drop_eq_nil_of_le (Nat.le_refl _), List.append_nil]
        rfl
      | succ k ih =>
        intro i hi
        have hlt : i < X.length := by omega
        have hix : ixA c (i : Int) 1 = some i := by rw [ixA_nat (by rw [ho.n]; exact hlt), ho.o]; simp
        rw [R_eq, e_sModNetwork_1, lt_true hlt, w1 hlt (by omega), cond_true, (hq.set fun _ => hne he).ldk hlt]
        simp only [hp0, cond_false]
        rw [hix]
        simp only [Option.bind_some]
        rw [modI_wrap hp, putR_one (set_get hb) (by simp; omega), set_set]
        simp only [Option.bind_some]
        have hs : (ics ((X.take i).map (modI p) ++ X.drop i)).set i (.int .i64 (modI p X[i])) = ics ((X.take (i + 1)).map (modI p) ++ X.drop (i + 1)) := by
          rw [← mid_set hlt]
          simp [List.map_set]
        rw [hs]
        exact ih (i + 1) (by omega)
    have e := loop X.length 0 (by omega)
    rw [List.take_zero, List.drop_zero, List.map_nil, List.nil_append, set_same hb] at e
    exact ⟨_, e, Mut.set ho he (by simp)⟩
theorem OOut.mutC {n0 n1 : Nat} {H H' : AH} {so c : Sl} {xs : List Tri} {X X' : List Int} (h : OOut n0 H so xs) (ho : Own n1 H c X) (m : Mut n1 H H' c X X') : OOut n0 H' so xs := h.keep fun hne => m.fr _ (by
  by_cases hx : X = []
  · exact .inr hx
  · rcases h.blk with ⟨e, _⟩ | ⟨_, _, hb⟩
    · exact absurd e hne
    · exact .inl (own_ne ho hx hb (by omega)))
theorem rows_mutC {H0 H H' : AH} {a b c : Sl} {t : Tn} {rs : List Row} {X' : List Int} (h : Fr H0 H (rows3 a b c t ++ rs)) (m : Mut H0.length H H' c t.X X') (he : t.X = [] → X' = []) : Fr H0 H' (rows3 a b c ⟨t.L, t.D, X'⟩ ++ rs) :=
  Fr.mut [(a, t.L), (b, t.D)] (ys := rs) h m he
/-- impl.ModNetwork: the tensors -/
theorem c_iModNetwork_0 {H0 : AH} {s u : Sl} {ts : List Tn} {p : Int} {r : Rg} (hp : 2 ≤ p ∧ p ≤ 1000003) (hT : T3 H0 s ts) (hl : ts.length ≤ 12) (hi : ∀ t ∈ ts, intTB t = true) :
    ∀ (k i : Nat) (H : AH) (so : Sl) (xs : List Tri), i + k = ts.length → NetR H0 H so xs ((ts.take i).map (modT p)) [] →
      ∃ s' xs' H', R (.loop F.iModNetwork 0) [isc p, ssc s, isc (ts.length : Int), isc (i : Int), npv r so u] H = some ⟨2, [npv r s' u], H'⟩ ∧ NetR H0 H' s' xs' (ts.map (modT p)) []
  | 0, i, H, so, xs, hi', hN => by
    obtain rfl : i = ts.length := by omega
    rw [List.take_length] at hN
    exact ⟨so, xs, H, by rw [R_eq, e_iModNetwork_0, lt_self]; rfl, hN⟩
  | k + 1, i, H, so, xs, hi', hN => by
    have hlt : i < ts.length := by omega
    have hit := hi _ (List.getElem_mem hlt)
    obtain ⟨z1, z2, z3, z4⟩ := int_size hit
    obtain ⟨x, y, z, hTt, kt⟩ := (hT.le hN.fr.le).ld hlt
    have hsm : TnSmall ts[i] := ⟨by have := z1.2.1; omega, by have := z1.1; have := z1.2.1; omega, by omega⟩
    obtain ⟨a1, b1, c1, H1, e1, n1⟩ := n_icopyTensor hTt hsm
    have F1 := hN.fr.newT n1
    have F1' : Fr H0 H1 (rows3 a1 b1 c1 ts[i] ++ (rowsT xs ((ts.take i).map (modT p)) ++ [])) := F1
    have oc := F1'.own (s := c1) (l := ts[i].X) (by simp)
    obtain ⟨H2, e2, m2⟩ := m_iModNetwork_1 (a := a1) (b := b1) hp oc z3
    have O2 := (hN.out.le n1.le).mutC oc m2
    have F2 := rows_mutC F1' m2 (fun e => by rw [e]; rfl)
    have hxl : xs.length = i := by have := hN.len; simp at this; omega
    obtain ⟨so', H3, e3, F3, O3, _⟩ := push_tensor' (a := a1) (b := b1) (c := c1) F2 O2 (by omega)
    have F4 := Fr.snocT (xs := xs) (ts := (ts.take i).map (modT p)) F3 hN.len
    obtain ⟨s', xs', H4, e4, N4⟩ := c_iModNetwork_0 (r := r) (u := u) hp hT hl hi k (i + 1) H3 so' (xs ++ [(a1, b1, c1)]) (by omega) (by
      rw [take_snocT hlt, List.map_append]
      exact ⟨F4, by have := hN.len; simp at this ⊢; omega, O3⟩)
    refine ⟨s', xs', H4, ?_, N4⟩
    rw [R_eq, e_iModNetwork_0, lt_true hlt, w1 hlt (by omega), cond_true, kt, e1]
    simp only [Option.bind_some, o_sss]
    rw [oc.n, e2]
    simp only [Option.bind_some, Nat.beq, cond_true]
    rw [e3]
    exact e4
/-- spec.ModNetwork: the tensors -/
theorem c_sModNetwork_0 {H0 : AH} {s u : Sl} {ts : List Tn} {p : Int} {r : Rg} (hp : 2 ≤ p ∧ p ≤ 1000003) (hT : T3 H0 s ts) (hl : ts.length ≤ 12) (hi : ∀ t ∈ ts, intTB t = true) :
    ∀ (k i : Nat) (H : AH) (so : Sl) (xs : List Tri), i + k = ts.length → NetR H0 H so xs ((ts.take i).map (modT p)) [] →
      ∃ s' xs' H', R (.loop F.sModNetwork 0) [isc p, ssc s, isc (ts.length : Int), isc (i : Int), npv r so u] H = some ⟨2, [npv r s' u], H'⟩ ∧ NetR H0 H' s' xs' (ts.map (modT p)) []
  | 0, i, H, so, xs, hi', hN => by
    obtain rfl : i = ts.length := by omega
    rw [List.take_length] at hN
    exact ⟨so, xs, H, by rw [R_eq, e_sModNetwork_0, lt_self]; rfl, hN⟩
  | k + 1, i, H, so, xs, hi', hN => by
    have hlt : i < ts.length := by omega
    have hit := hi _ (List.getElem_mem hlt)
    obtain ⟨z1, z2, z3, z4⟩ := int_size hit
    obtain ⟨x, y, z, hT0, kt⟩ := hT.ld0 hN.fr.le hlt
    have hTt := hT0.le hN.fr.le
    have hsm : TnSmall ts[i] := ⟨by have := z1.2.1; omega, by have := z1.1; have := z1.2.1; omega, by omega⟩
    obtain ⟨a1, b1, c1, H1, e1, n1⟩ := n_sl05Copy hTt hsm
    have F1 := hN.fr.newT n1
    have F1' : Fr H0 H1 (rows3 a1 b1 c1 ts[i] ++ (rowsT xs ((ts.take i).map (modT p)) ++ [])) := F1
    have oc := F1'.own (s := c1) (l := ts[i].X) (by simp)
    obtain ⟨H2, e2, m2⟩ := m_sModNetwork_1 (a := a1) (b := b1) (q := z) hp oc (hTt.X.le n1.le) (fun hne => fr_below F1' (p := (c1, ts[i].X)) (by simp) hne hT0.X hne) z3
    have O2 := (hN.out.le n1.le).mutC oc m2
    have F2 := rows_mutC F1' m2 (fun e => by rw [e]; rfl)
    have hxl : xs.length = i := by have := hN.len; simp at this; omega
    obtain ⟨so', H3, e3, F3, O3, _⟩ := push_tensor' (a := a1) (b := b1) (c := c1) F2 O2 (by omega)
    have F4 := Fr.snocT (xs := xs) (ts := (ts.take i).map (modT p)) F3 hN.len
    obtain ⟨s', xs', H4, e4, N4⟩ := c_sModNetwork_0 (r := r) (u := u) hp hT hl hi k (i + 1) H3 so' (xs ++ [(a1, b1, c1)]) (by omega) (by
      rw [take_snocT hlt, List.map_append]
      exact ⟨F4, by have := hN.len; simp at this ⊢; omega, O3⟩)
    refine ⟨s', xs', H4, ?_, N4⟩
    rw [R_eq, e_sModNetwork_0, lt_true hlt, w1 hlt (by omega), cond_true, kt, e1]
    simp only [Option.bind_some, o_sss]
    rw [hTt.X.n, e2]
    simp only [Option.bind_some, Nat.beq, cond_true]
    rw [e3]
    exact e4
theorem intB_at {ts : List Tn} (h : intB ts = true) : ts.length ≤ 12 ∧ (∀ t ∈ ts, intTB t = true) ∧ boundN ts ≤ 100000000000000 := by
  simp only [intB, Bool.and_eq_true, decide_eq_true_eq] at h
  exact ⟨h.1.1, consI_all h.1.2, h.2⟩
theorem NetR.ns {H0 H : AH} {s : Sl} {xs : List Tri} {ts : List Tn} {r : Rg} (h : NetR H0 H s xs ts []) : NS H s ⟨0, 0, 0, 0, true⟩ ⟨r, ts, []⟩ :=
  ⟨t3_of h.out.outer h.len fun p hp => (h.fr.rows.own p (List.mem_append.2 (.inl hp))).is, IS.nil' _ _ _ _⟩
/-- impl.ModNetwork -/
theorem c_iModNetwork {H : AH} {s : Sl} {ts : List Tn} {p : Int} (h : T3 H s ts) (hi : intB ts = true) (hp : primeB p = true) :
    ∃ s' H', R (.fn F.iModNetwork) [.agg [.sl s], isc p] H = some ⟨1, [npv (modN p ts).r s' ⟨0, 0, 0, 0, true⟩, bsc true], H'⟩ ∧ Go.Abs.Le H H' ∧ NS H' s' ⟨0, 0, 0, 0, true⟩ (modN p ts) := by
  obtain ⟨i1, i2, i3⟩ := intB_at hi
  obtain ⟨s', xs', H', e, N⟩ := c_iModNetwork_0 (r := ⟨2, p, 0⟩) (u := ⟨0, 0, 0, 0, true⟩) (prime_at hp) h i1 i2 ts.length 0 H ⟨0, 0, 0, 0, true⟩ [] (by omega) ⟨Fr.start H, rfl, OOut.nil _ _ _⟩
  refine ⟨s', H', ?_, N.fr.le, N.ns⟩
  have e : R (.loop F.iModNetwork 0) [isc p, ssc s, isc (ts.length : Int), isc 0, npv ⟨2, p, 0⟩ ⟨0, 0, 0, 0, true⟩ ⟨0, 0, 0, 0, true⟩] H = _ := e
  rw [R_eq, e_iModNetwork, c_iIntOk h, hi]
  simp only [Option.bind_some, one_bool, Bool.not_true, cond_false]
  rw [c_iIsPrime, hp]
  simp only [Option.bind_some, one_bool, Bool.not_true, cond_false]
  rw [h.1, e]
  rfl
theorem c_sModNetwork {H : AH} {s : Sl} {ts : List Tn} {p : Int} (h : T3 H s ts) (hi : intB ts = true) (hp : primeB p = true) :
    ∃ s' H', R (.fn F.sModNetwork) [.agg [.sl s], isc p] H = some ⟨1, [npv (modN p ts).r s' ⟨0, 0, 0, 0, true⟩, bsc true], H'⟩ ∧ Go.Abs.Le H H' ∧ NS H' s' ⟨0, 0, 0, 0, true⟩ (modN p ts) := by
  obtain ⟨i1, i2, i3⟩ := intB_at hi
  obtain ⟨s', xs', H', e, N⟩ := c_sModNetwork_0 (r := ⟨2, p, 0⟩) (u := ⟨0, 0, 0, 0, true⟩) (prime_at hp) h i1 i2 ts.length 0 H ⟨0, 0, 0, 0, true⟩ [] (by omega) ⟨Fr.start H, rfl, OOut.nil _ _ _⟩
  refine ⟨s', H', ?_, N.fr.le, N.ns⟩
  have e : R (.loop F.sModNetwork 0) [isc p, ssc s, isc (ts.length : Int), isc 0, npv ⟨2, p, 0⟩ ⟨0, 0, 0, 0, true⟩ ⟨0, 0, 0, 0, true⟩] H = _ := e
  rw [R_eq, e_sModNetwork, c_sIntOk h, hi]
  simp only [Option.bind_some, one_bool, Bool.not_true, cond_false]
  rw [c_sIsPrime, hp]
  simp only [Option.bind_some, one_bool, Bool.not_true, cond_false]
  rw [h.1, e]
  rfl
theorem MP.one {r : Rg} (h : MP r) : VE r (oneR r) := by
  refine h.ve.2 ⟨1, ?_, by omega, by have := h.lo; omega⟩
  have hk := h.k; have hw := h.w
  unfold oneR
  rw [hw, if_neg (by omega), if_neg (by omega)]
  rfl
theorem conV_ve {A M : List Int → List Int → List Int} {n : Nw} {ps : List Sp} {X : List Int} (hA : AlgOk n.r A M) (h1 : VE n.r (oneR n.r)) (h : conV A M n ps = some X) : VE n.r X := by
  unfold conV at h
  split at h
  · rename_i hord
    obtain ⟨hn, hpl, hon⟩ := ordB_at hord
    cases hc : conW n.r A M (dimF n.ts) n.op (W0T n.ts) n.ts.length ps with
    | none => rw [hc] at h; simp at h
    | some W' =>
      rw [hc] at h
      simp only [Option.map_some, Option.some.injEq] at h
      subst h
      have hWC := conW_wc hA ps _ _ _ (W0T_wc hn) (by rw [W0T_nums]; exact hon) hc
      cases W' with
      | nil => exact h1
      | cons x W => exact (sum_ve (hWC x List.mem_cons_self) hA h1).1
  · cases h
/-- The value modulo a prime. -/
def resV (p : Int) (ts : List Tn) : Option Int := (conV (modA p) (modM p) (modN p ts) (plainL ts.length)).map fun X => X.getD 0 0
theorem t_iiiss_b2 {α : Type} (r : Rg) (s u : Sl) (b : Bool) (K : Int → Int → Int → Sl → Sl → Bool → Option α) : ((lenP [npv r s u, bsc b] 2).bind fun _ => (nthP [npv r s u, bsc b] 0).bind fun p2 => p2.agg?.bind fun l3 => cond (decide (l3.length = 5)) ((intAt .i64 l3 0).bind fun n4 => (intAt .i64 l3 1).bind fun n5 => (intAt .i64 l3 2).bind fun n6 => (slAt l3 3).bind fun s7 => (slAt l3 4).bind fun s8 => (nthP [npv r s u, bsc b] 1).bind fun p9 => p9.sc?.bind fun c10 => (boolAt [c10] 0).bind fun b11 => K n4 n5 n6 s7 s8 b11) none) = K r.k r.p r.n s u b := rfl
/-- impl.residueOf -/
theorem c_iresidueOf {H : AH} {s : Sl} {ts : List Tn} {p : Int} (h : T3 H s ts) (hi : intB ts = true) (hp : primeB p = true) :
    ∃ H', R (.fn F.iresidueOf) [.agg [.sl s], isc p] H = some ⟨1, [isc ((resV p ts).getD 0), bsc (resV p ts).isSome], H'⟩ ∧ Go.Abs.Le H H' := by
  obtain ⟨i1, i2, i3⟩ := intB_at hi
  obtain ⟨s', H1, e1, l1, N1⟩ := c_iModNetwork h hi hp
  have hm := mod_mp hp
  have hts : (modN p ts).ts.length = ts.length := by simp [modN]
  have key := c_iTotalOf0 (n := modN p ts) (A := modA p) (M := modM p) hm.rc hm.one N1 rfl (by omega)
  rw [hts] at key
  unfold resV
  rcases key with ⟨X, hX, c, H', e2, l2, i2'⟩ | ⟨hX, H', e2, l2⟩
  · rw [hX]
    obtain ⟨a, rfl, h1, h2⟩ := hm.ve.1 (conV_ve (n := modN p ts) (A := modA p) (M := modM p) hm.alg hm.one hX)
    refine ⟨H', ?_, l1.trans l2⟩
    rw [R_eq, e_iresidueOf, e1]
    simp only [Option.bind_some]
    rw [t_iiiss_b2, Bool.not_true, cond_false]
    rw [show R (.fn F.iTotalOf) [.agg [.int .i64 (modN p ts).r.k, .int .i64 (modN p ts).r.p, .int .i64 (modN p ts).r.n, .sl s', .sl ⟨0, 0, 0, 0, true⟩]] H1 = _ from e2]
    have := i2'.ldk (i := 0) (by simp) (fun n21 => some (⟨1, [isc n21, bsc true], H'⟩ : Out))
    refine Eq.trans ?_ (this.trans ?_)
    · rfl
    · rfl
  · rw [hX]
    refine ⟨H', ?_, l1.trans l2⟩
    rw [R_eq, e_iresidueOf, e1]
    simp only [Option.bind_some]
    rw [t_iiiss_b2, Bool.not_true, cond_false]
    rw [show R (.fn F.iTotalOf) [.agg [.int .i64 (modN p ts).r.k, .int .i64 (modN p ts).r.p, .int .i64 (modN p ts).r.n, .sl s', .sl ⟨0, 0, 0, 0, true⟩]] H1 = _ from e2]
    rfl
/-- spec.l42Residue -/
theorem c_sl42Residue {H : AH} {s : Sl} {ts : List Tn} {p : Int} (h : T3 H s ts) (hi : intB ts = true) (hp : primeB p = true) :
    ∃ H', R (.fn F.sl42Residue) [.agg [.sl s], isc p] H = some ⟨1, [isc ((resV p ts).getD 0), bsc (resV p ts).isSome], H'⟩ ∧ Go.Abs.Le H H' := by
  obtain ⟨i1, i2, i3⟩ := intB_at hi
  obtain ⟨s', H1, e1, l1, N1⟩ := c_sModNetwork h hi hp
  have hm := mod_mp hp
  have hts : (modN p ts).ts.length = ts.length := by simp [modN]
  have key := c_sl28With0 (n := modN p ts) (A := modA p) (M := modM p) hm.rc hm.one N1 rfl (by omega)
  rw [hts] at key
  unfold resV
  rcases key with ⟨X, hX, a0, b0, c, H', e2, l2, i2'⟩ | ⟨hX, H', e2, l2⟩
  · rw [hX]
    obtain ⟨a, rfl, h1, h2⟩ := hm.ve.1 (conV_ve (n := modN p ts) (A := modA p) (M := modM p) hm.alg hm.one hX)
    refine ⟨H', ?_, l1.trans l2⟩
    rw [R_eq, e_sl42Residue, e1]
    simp only [Option.bind_some]
    rw [t_iiiss_b2]
    rw [show R (.fn F.sl28With) [.agg [.int .i64 (modN p ts).r.k, .int .i64 (modN p ts).r.p, .int .i64 (modN p ts).r.n, .sl s', .sl ⟨0, 0, 0, 0, true⟩], ssc ⟨0, 0, 0, 0, true⟩] H1 = _ from e2]
    have := i2'.ldk (i := 0) (by simp) (fun n21 => some (⟨1, [isc n21, bsc true], H'⟩ : Out))
    refine Eq.trans ?_ (this.trans ?_)
    · rfl
    · rfl
  · rw [hX]
    refine ⟨H', ?_, l1.trans l2⟩
    rw [R_eq, e_sl42Residue, e1]
    simp only [Option.bind_some]
    rw [t_iiiss_b2]
    rw [show R (.fn F.sl28With) [.agg [.int .i64 (modN p ts).r.k, .int .i64 (modN p ts).r.p, .int .i64 (modN p ts).r.n, .sl s', .sl ⟨0, 0, 0, 0, true⟩], ssc ⟨0, 0, 0, 0, true⟩] H1 = _ from e2]
    rfl
end Go.Abs
/- Certificates: whether one is right (both). -/
namespace Go.Abs
set_option linter.all false
set_option maxRecDepth 10000

theorem bound_rng {ts : List Tn} (h : intB ts = true) : 0 ≤ boundN ts ∧ boundN ts ≤ 100000000000000 := by
  obtain ⟨i1, i2, i3⟩ := intB_at h
  have := boundF_rng i2 (b := 1) (by omega) (by omega)
  exact ⟨this.1, i3⟩
theorem c_iIntBound {H : AH} {s : Sl} {ts : List Tn} (h : T3 H s ts) (hi : intB ts = true) : R (.fn F.iIntBound) [.agg [.sl s]] H = some ⟨1, [isc (boundN ts)], H⟩ := by
  obtain ⟨i1, i2, i3⟩ := intB_at hi
  rw [R_eq, e_iIntBound, c_iIntOk h, hi]
  simp only [Option.bind_some, one_bool, Bool.not_true, cond_false]
  rw [c_iboundOf h (by omega) i2]
  rfl
theorem n_ib {α : Type} (a : Int) (b : Bool) (K : Int → Bool → Option α) : ((lenP [isc a, bsc b] 2).bind fun _ => (nthP [isc a, bsc b] 0).bind fun p9 => p9.sc?.bind fun c10 => (intAt .i64 [c10] 0).bind fun n11 => (nthP [isc a, bsc b] 1).bind fun p12 => p12.sc?.bind fun c13 => (boolAt [c13] 0).bind fun b14 => K n11 b14) = K a b := rfl
end Go.Abs
/- Marks: what is marked changes within its own blocks alone. -/
namespace Go.Abs
set_option linter.all false
set_option maxRecDepth 10000

/-- A row of whole cells in a block from n0 on, below n1. -/
structure WS (z n0 n1 : Nat) (H : AH) (s : Sl) : Prop where
  o : s.o = 0
  blk : s.n = 0 ∨ (n0 ≤ s.b ∧ s.b < n1 ∧ ∃ cs, H[s.b]? = some ⟨cs, .rw, z⟩ ∧ cs.length = s.n * z)
/-- The same shape; nothing changes out of the blocks from n0 on, below n1, nor the rows of rows in them. -/
structure ShE (n0 n1 : Nat) (H H' : AH) : Prop where
  len : H'.length = H.length
  out : ∀ b, (b < n0 ∨ n1 ≤ b) → H'[b]? = H[b]?
  inn : ∀ (b : Nat) (cs : List Sc) (z : Nat), H[b]? = some ⟨cs, .rw, z⟩ → ∃ cs' : List Sc, H'[b]? = some ⟨cs', .rw, z⟩ ∧ cs'.length = cs.length ∧ (z = 3 → cs' = cs)
theorem ShE.refl (n0 n1 : Nat) (H : AH) : ShE n0 n1 H H := ⟨rfl, fun _ _ => rfl, fun b cs z h => ⟨cs, h, rfl, fun _ => rfl⟩⟩
theorem ShE.trans {n0 n1 : Nat} {A B C : AH} (h : ShE n0 n1 A B) (k : ShE n0 n1 B C) : ShE n0 n1 A C :=
  ⟨k.len.trans h.len, fun b hb => (k.out b hb).trans (h.out b hb), fun b cs z hb => by
    obtain ⟨c1, h1, h2, h3⟩ := h.inn b cs z hb
    obtain ⟨c2, k1, k2, k3⟩ := k.inn b c1 z h1
    exact ⟨c2, k1, k2.trans h2, fun e => (k3 e).trans (h3 e)⟩⟩
theorem ShE.set {n0 n1 z b : Nat} {H : AH} {cs cs' : List Sc} (hz : z ≠ 3) (h0 : n0 ≤ b) (h1 : b < n1) (hb : H[b]? = some ⟨cs, .rw, z⟩) (hl : cs'.length = cs.length) : ShE n0 n1 H (H.set b ⟨cs', .rw, z⟩) :=
  ⟨by simp, fun d hd => List.getElem?_set_ne (by omega), fun d c y hd => by
    by_cases e : b = d
    · subst e
      rw [hb] at hd
      cases hd
      exact ⟨cs', set_get hb, hl, fun e => absurd e hz⟩
    · exact ⟨c, by rw [List.getElem?_set_ne e]; exact hd, rfl, fun _ => rfl⟩⟩
theorem WS.she {z n0 n1 : Nat} {H H' : AH} {s : Sl} (h : WS z n0 n1 H s) (k : ShE n0 n1 H H') : WS z n0 n1 H' s :=
  ⟨h.o, h.blk.imp id fun ⟨a, b, cs, c, d⟩ => by
    obtain ⟨c', e1, e2, _⟩ := k.inn _ cs z c
    exact ⟨a, b, c', e1, e2.trans d⟩⟩
theorem WS.ext {z n0 n1 n2 : Nat} {H H' : AH} {s : Sl} (h : WS z n0 n1 H s) (k : Go.Abs.Le H H') (hn : n1 ≤ n2) : WS z n0 n2 H' s :=
  ⟨h.o, h.blk.imp id fun ⟨a, b, cs, c, d⟩ => ⟨a, by omega, cs, by rw [k.get _ (List.getElem?_eq_some_iff.1 c).1]; exact c, d⟩⟩
theorem WS.low {z m0 n0 n1 : Nat} {H : AH} {s : Sl} (h : WS z n0 n1 H s) (hn : m0 ≤ n0) : WS z m0 n1 H s :=
  ⟨h.o, h.blk.imp id fun ⟨a, b, cs, c, d⟩ => ⟨by omega, b, cs, c, d⟩⟩
/-- What lies below the marked blocks stays. -/
theorem ShE.le {n0 n1 : Nat} {A H H' : AH} (h : ShE n0 n1 H H') (k : Go.Abs.Le A H) (hn : A.length ≤ n0) : Go.Abs.Le A H' :=
  ⟨by rw [h.len]; exact k.len, fun b hb => by rw [h.out b (.inl (by omega))]; exact k.get b hb⟩
/-- laws.markIntS -/
theorem m_ints {n0 n1 : Nat} {H : AH} {s : Sl} (h : WS 1 n0 n1 H s) (hl : s.n ≤ 1048576) {k : Int} (h0 : 0 ≤ k) (h1 : k ≤ 4611686018427387904) :
    ∃ H', R (.fn F.wmarkIntS) [ssc s, isc k] H = some ⟨1, [isc (k + s.n)], H'⟩ ∧ ShE n0 n1 H H' := by
  have loop : ∀ (m i : Nat), i + m = s.n → ∀ Hc, ShE n0 n1 H Hc → ∃ H', R (.loop F.wmarkIntS 0) [ssc s, isc (k + i), isc (i : Int)] Hc = some ⟨2, [isc (k + s.n)], H'⟩ ∧ ShE n0 n1 H H' := by
    intro m
    induction m with
    | zero =>
      intro i hi Hc hE
      obtain rfl : i = s.n := by omega
      exact ⟨Hc, by rw [R_eq, e_wmarkIntS_0, lt_self]; rfl, hE⟩
    | succ m ih =>
      intro i hi Hc hE
      have hlt : i < s.n := by omega
      have hw : IntKind.wrap .i64 (k + (i : Int) + 1) = k + ((i + 1 : Nat) : Int) := by rw [wrap_id] <;> omega
      rcases (h.she hE).blk with e | ⟨b0, b1, cs, hb, hc⟩
      · omega
      rw [R_eq, e_wmarkIntS_0, lt_true hlt, w1 hlt (by omega), cond_true, hw, ixA_nat hlt]
      simp only [Option.bind_some, h.o, Nat.zero_add, Nat.mul_one]
      rw [putR_one hb (by omega)]
      simp only [Option.bind_some]
      exact ih (i + 1) (by omega) _ (hE.trans (ShE.set (by omega) b0 b1 hb (by simp)))
  obtain ⟨H', e, hE⟩ := loop s.n 0 (by omega) H (ShE.refl _ _ _)
  have e : R (.loop F.wmarkIntS 0) [ssc s, isc (k + (0 : Int)), isc 0] H = some ⟨2, [isc (k + s.n)], H'⟩ := e
  rw [Int.add_zero] at e
  exact ⟨H', by rw [R_eq, e_wmarkIntS, e]; rfl, hE⟩
end Go.Abs
/- The law's own helpers for plans. -/
namespace Go.Abs
set_option linter.all false
set_option maxRecDepth 10000

end Go.Abs
/- Marks: copies of arguments lie in blocks of their own; they are marked there. -/
namespace Go.Abs
set_option linter.all false
set_option maxRecDepth 10000

theorem WS.setne {z n0 n1 : Nat} {H : AH} {s : Sl} (h : WS z n0 n1 H s) {q : Nat} {k : Blk} (hq : s.b ≠ q) : WS z n0 n1 (H.set q k) s :=
  ⟨h.o, h.blk.imp id fun ⟨a, b, cs, c, d⟩ => ⟨a, b, cs, by rw [List.getElem?_set_ne (Ne.symm hq)]; exact c, d⟩⟩
theorem w_toIntS {H : AH} {s : Sl} {l : List Int} (h : IS H s l) (hl : l.length ≤ 1048576) :
    ∃ s' H', R (.fn F.wtoIntS) [ssc s] H = some ⟨1, [ssc s'], H'⟩ ∧ Go.Abs.Le H H' ∧ IS H' s' l ∧ WS 1 H.length H'.length H' s' ∧ s'.n = l.length ∧ H.length ≤ s'.b := by
  obtain ⟨H1, e1, l1, n1, b1⟩ := c_wtoIntS h hl
  exact ⟨_, H1, e1, l1, IS.of_blk b1 (Nat.le_refl _), ⟨rfl, .inr ⟨Nat.le_refl _, by show H.length < H1.length; omega, ics l, b1, by simp [ics]⟩⟩, rfl, Nat.le_refl _⟩
/-- A tensor's rows in blocks of their own. -/
structure W3 (n0 n1 : Nat) (H : AH) (a b c : Sl) (t : Tn) : Prop where
  wa : WS 1 n0 n1 H a
  wb : WS 1 n0 n1 H b
  wc : WS 1 n0 n1 H c
  na : a.n = t.L.length
  nb : b.n = t.D.length
  nc : c.n = t.X.length
theorem W3.she {n0 n1 : Nat} {H H' : AH} {a b c : Sl} {t : Tn} (h : W3 n0 n1 H a b c t) (k : ShE n0 n1 H H') : W3 n0 n1 H' a b c t := ⟨h.wa.she k, h.wb.she k, h.wc.she k, h.na, h.nb, h.nc⟩
theorem W3.ext {n0 n1 n2 : Nat} {H H' : AH} {a b c : Sl} {t : Tn} (h : W3 n0 n1 H a b c t) (k : Go.Abs.Le H H') (hn : n1 ≤ n2) : W3 n0 n2 H' a b c t := ⟨h.wa.ext k hn, h.wb.ext k hn, h.wc.ext k hn, h.na, h.nb, h.nc⟩
theorem w_toTensor {H : AH} {a b c : Sl} {t : Tn} (h : TS H a b c t) (hs : TnSmall t) :
    ∃ a' b' c' H', R (.fn F.wtoTensor) [tpv a b c] H = some ⟨1, [tpv a' b' c'], H'⟩ ∧ Go.Abs.Le H H' ∧ TS H' a' b' c' t ∧ W3 H.length H'.length H' a' b' c' t ∧ H.length ≤ a'.b ∧ H.length ≤ b'.b ∧ H.length ≤ c'.b := by
  obtain ⟨a', H1, e1, l1, i1, w1, n1, q1⟩ := w_toIntS h.L hs.1
  obtain ⟨b', H2, e2, l2, i2, w2, n2, q2⟩ := w_toIntS (h.D.le l1) hs.2.1
  obtain ⟨c', H3, e3, l3, i3, w3, n3, q3⟩ := w_toIntS (h.X.le (l1.trans l2)) hs.2.2
  have a1 := l1.len; have a2 := l2.len; have a3 := l3.len
  refine ⟨a', b', c', H3, ?_, (l1.trans l2).trans l3, ⟨i1.le (l2.trans l3), i2.le l3, i3⟩, ⟨w1.ext (l2.trans l3) (by omega), (w2.ext l3 (by omega)).low (by omega), w3.low (by omega), n1, n2, n3⟩, q1, by omega, by omega⟩
  rw [R_eq, e_wtoTensor, e1]
  simp only [Option.bind_some, one_sl]
  rw [e2]
  simp only [Option.bind_some, one_sl]
  rw [e3]
  simp only [Option.bind_some, one_sl]
/-- A row of tensors, their rows in blocks of their own. -/
structure WT (n0 n1 : Nat) (H : AH) (s : Sl) (ts : List Tn) : Prop where
  o : s.o = 0
  n : s.n = ts.length
  blk : ∃ cs : List Sc, H[s.b]? = some ⟨cs, .rw, 3⟩ ∧ ∀ (j : Nat) t, ts[j]? = some t → ∃ a b c, cs[j * 3]? = some (.sl a) ∧ cs[j * 3 + 1]? = some (.sl b) ∧ cs[j * 3 + 1 + 1]? = some (.sl c) ∧ W3 n0 n1 H a b c t
theorem WT.she {n0 n1 : Nat} {H H' : AH} {s : Sl} {ts : List Tn} (h : WT n0 n1 H s ts) (k : ShE n0 n1 H H') : WT n0 n1 H' s ts := by
  obtain ⟨ho, hn, cs, hb, hg⟩ := h
  obtain ⟨cs', e1, e2, e3⟩ := k.inn _ cs 3 hb
  refine ⟨ho, hn, cs', e1, fun j t hj => ?_⟩
  rw [e3 rfl]
  obtain ⟨a, b, c, g1, g2, g3, g4⟩ := hg j t hj
  exact ⟨a, b, c, g1, g2, g3, g4.she k⟩
theorem WT.ext {n0 n1 n2 : Nat} {H H' : AH} {s : Sl} {ts : List Tn} (h : WT n0 n1 H s ts) (k : Go.Abs.Le H H') (hn : n1 ≤ n2) : WT n0 n2 H' s ts := by
  obtain ⟨ho, hm, cs, hb, hg⟩ := h
  refine ⟨ho, hm, cs, by rw [k.get _ (List.getElem?_eq_some_iff.1 hb).1]; exact hb, fun j t hj => ?_⟩
  obtain ⟨a, b, c, g1, g2, g3, g4⟩ := hg j t hj
  exact ⟨a, b, c, g1, g2, g3, g4.ext k hn⟩
theorem w_toTensorS {H : AH} {s : Sl} {ts : List Tn} (h : T3 H s ts) (hl : ts.length ≤ 1048576) (hs : ∀ t ∈ ts, TnSmall t) :
    ∃ s' H', R (.fn F.wtoTensorS) [ssc s] H = some ⟨1, [ssc s'], H'⟩ ∧ Go.Abs.Le H H' ∧ T3 H' s' ts ∧ WT H.length H'.length H' s' ts := by
  have loop : ∀ (k i : Nat), i + k = ts.length → ∀ (Hc : AH) (cs : List Sc), Go.Abs.Le H Hc → Hc[H.length]? = some ⟨cs, .rw, 3⟩ → cs.length = ts.length * 3 →
      (∀ (j : Nat) t, j < i → ts[j]? = some t → ∃ a b c, cs[j * 3]? = some (.sl a) ∧ cs[j * 3 + 1]? = some (.sl b) ∧ cs[j * 3 + 1 + 1]? = some (.sl c) ∧ TS Hc a b c t ∧ W3 H.length Hc.length Hc a b c t ∧ a.b ≠ H.length ∧ b.b ≠ H.length ∧ c.b ≠ H.length) →
      ∃ H' cs', R (.loop F.wtoTensorS 0) [ssc s, ssc ⟨H.length, 0, ts.length, ts.length, true⟩, isc (i : Int)] Hc = some ⟨2, [], H'⟩ ∧ Go.Abs.Le H H' ∧ H'[H.length]? = some ⟨cs', .rw, 3⟩ ∧
        ∀ (j : Nat) t, ts[j]? = some t → ∃ a b c, cs'[j * 3]? = some (.sl a) ∧ cs'[j * 3 + 1]? = some (.sl b) ∧ cs'[j * 3 + 1 + 1]? = some (.sl c) ∧ TS H' a b c t ∧ W3 H.length H'.length H' a b c t := by
    intro k
    induction k with
    | zero =>
      intro i hi Hc cs hle hb hcl hcs
      obtain rfl : i = ts.length := by omega
      refine ⟨Hc, cs, by rw [R_eq, e_wtoTensorS_0, h.1, lt_self]; rfl, hle, hb, fun j g hj => ?_⟩
      obtain ⟨a, b, c, q1, q2, q3, q4, q5, _⟩ := hcs j g (List.getElem?_eq_some_iff.1 hj).1 hj
      exact ⟨a, b, c, q1, q2, q3, q4, q5⟩
    | succ k ih =>
      intro i hi Hc cs hle hb hcl hcs
      have hlt : i < ts.length := by omega
      obtain ⟨x, y, z, ht, kt⟩ := (h.le hle).ld hlt
      obtain ⟨a, b, c, H1, e1, l1, t1, w1', p1, p2, p3⟩ := w_toTensor ht (hs _ (List.getElem_mem hlt))
      have hbl : H.length < Hc.length := (List.getElem?_eq_some_iff.1 hb).1
      have hb1 : H1[H.length]? = some ⟨cs, .rw, 3⟩ := by rw [l1.get _ hbl]; exact hb
      rw [R_eq, e_wtoTensorS_0, h.1, lt_true hlt, w1 hlt (by omega), cond_true, kt, e1]
      simp only [Option.bind_some, o_sss]
      rw [ixA_nat (by exact hlt)]
      simp only [Option.bind_some, Nat.zero_add]
      rw [putR_all hb1 (by simp; omega)]
      simp only [Option.bind_some]
      have hwset : ∀ {a b c : Sl} {t : Tn} {m : Nat} {q : Blk}, W3 H.length m H1 a b c t → a.b ≠ H.length → b.b ≠ H.length → c.b ≠ H.length → W3 H.length m (H1.set H.length q) a b c t := fun w g1 g2 g3 => ⟨w.wa.setne g1, w.wb.setne g2, w.wc.setne g3, w.na, w.nb, w.nc⟩
      refine ih (i + 1) (by omega) _ _ (set_le (hle.trans l1) (Nat.le_refl _)) (set_get hb1) (by rw [setAll_length]; exact hcl) (fun j g hj hjl => ?_)
      rw [setAll_get, setAll_get, setAll_get, List.length_set]
      by_cases e : j = i
      · subst e
        rw [List.getElem?_eq_getElem hlt] at hjl
        cases hjl
        rw [if_pos ⟨by omega, by simp, by omega⟩, if_pos ⟨by omega, by simp, by omega⟩, if_pos ⟨by omega, by simp, by omega⟩]
        have hw' : W3 H.length H1.length H1 a b c ts[j] := ⟨w1'.wa.low (by omega), w1'.wb.low (by omega), w1'.wc.low (by omega), w1'.na, w1'.nb, w1'.nc⟩
        refine ⟨a, b, c, by simp, by simp, by rw [show j * 3 + 1 + 1 - j * 3 = 2 by omega]; rfl, t1.set (by omega) (by omega) (by omega), hwset hw' (by omega) (by omega) (by omega), by omega, by omega, by omega⟩
      · have hji : j < i := by omega
        rw [if_neg (by omega), if_neg (by omega), if_neg (by omega)]
        obtain ⟨a, b, c, q1, q2, q3, q4, q4', q5, q6, q7⟩ := hcs j g hji hjl
        exact ⟨a, b, c, q1, q2, q3, (q4.le l1).set q5 q6 q7, hwset (q4'.ext l1 l1.len) q5 q6 q7, q5, q6, q7⟩
  have hm := mk_any (H := H) (z := 3) (y := 72) (vs := [.sl ⟨0, 0, 0, 0, true⟩, .sl ⟨0, 0, 0, 0, true⟩, .sl ⟨0, 0, 0, 0, true⟩]) hl (by omega) (by omega) (by omega)
  obtain ⟨H', cs, e, l1, b1, g⟩ := loop ts.length 0 (by omega) (H ++ [⟨(List.replicate ts.length [.sl ⟨0, 0, 0, 0, true⟩, .sl ⟨0, 0, 0, 0, true⟩, .sl ⟨0, 0, 0, 0, true⟩]).flatten, .rw, 3⟩]) _ (Go.Abs.Le.app _ _) app_get (by simp) (fun j l hj => by omega)
  have e : R (.loop F.wtoTensorS 0) [ssc s, ssc ⟨H.length, 0, ts.length, ts.length, true⟩, isc 0] (H ++ [⟨(List.replicate ts.length [.sl ⟨0, 0, 0, 0, true⟩, .sl ⟨0, 0, 0, 0, true⟩, .sl ⟨0, 0, 0, 0, true⟩]).flatten, .rw, 3⟩]) = some ⟨2, [], H'⟩ := e
  refine ⟨⟨H.length, 0, ts.length, ts.length, true⟩, H', ?_, l1, ⟨rfl, Nat.le_refl _, .inr ⟨cs, by unfold rdB; rw [b1]; rfl, fun i x hi => ?_⟩⟩, ⟨rfl, rfl, cs, b1, fun j t hj => ?_⟩⟩
  · rw [R_eq, e_wtoTensorS, h.1]
    rw [show mkB H 3 72 [Sc.sl ⟨0, 0, 0, 0, true⟩, .sl ⟨0, 0, 0, 0, true⟩, .sl ⟨0, 0, 0, 0, true⟩] (ts.length : Int) (ts.length : Int) = _ from hm]
    simp only [Option.bind_some]
    rw [e]; rfl
  · rw [Nat.zero_add]
    obtain ⟨a, b, c, q1, q2, q3, q4, _⟩ := g i x hi
    exact ⟨a, b, c, q1, q2, q3, q4⟩
  · obtain ⟨a, b, c, q1, q2, q3, _, q5⟩ := g j t hj
    exact ⟨a, b, c, q1, q2, q3, q5⟩
structure WN (n0 n1 : Nat) (H : AH) (s u : Sl) (n : Nw) : Prop where
  ts : WT n0 n1 H s n.ts
  op : WS 1 n0 n1 H u
  no : u.n = n.op.length
/-- laws.markTensorS -/
theorem m_tensors {n0 n1 : Nat} {H : AH} {s : Sl} {ts : List Tn} (h : WT n0 n1 H s ts) (hl : ts.length ≤ 1048576) (hs : ∀ t ∈ ts, TnSmall t) :
    ∃ k' H', R (.fn F.wmarkTensorS) [ssc s, isc 1] H = some ⟨1, [isc k'], H'⟩ ∧ ShE n0 n1 H H' ∧ 0 ≤ k' ∧ k' ≤ 3298534883329 := by
  have loop : ∀ (m i : Nat), i + m = ts.length → ∀ Hc k, ShE n0 n1 H Hc → 0 ≤ k → k ≤ 1 + 3145728 * (i : Int) → ∃ k' H', R (.loop F.wmarkTensorS 0) [ssc s, isc k, isc (i : Int)] Hc = some ⟨2, [isc k'], H'⟩ ∧ ShE n0 n1 H H' ∧ 0 ≤ k' ∧ k' ≤ 1 + 3145728 * (ts.length : Int) := by
    intro m
    induction m with
    | zero =>
      intro i hi Hc k hE h0 h1
      obtain rfl : i = ts.length := by omega
      exact ⟨k, Hc, by rw [R_eq, e_wmarkTensorS_0, h.n, lt_self]; rfl, hE, h0, h1⟩
    | succ m ih =>
      intro i hi Hc k hE h0 h1
      have hlt : i < ts.length := by omega
      have hst := hs _ (List.getElem_mem hlt)
      have hT := h.she hE
      obtain ⟨cs, hb, hg⟩ := hT.blk
      obtain ⟨a, b, c, g1, g2, g3, g4⟩ := hg i ts[i] (List.getElem?_eq_getElem hlt)
      obtain ⟨H1, e1, E1⟩ := m_ints g4.wa (by rw [g4.na]; exact hst.1) h0 (by omega)
      obtain ⟨c1, b1, _, q1⟩ := E1.inn _ cs 3 hb
      rw [q1 rfl] at b1
      obtain ⟨H2, e2, E2⟩ := m_ints (g4.wb.she E1) (by rw [g4.nb]; exact hst.2.1) (k := k + a.n) (by omega) (by have := hst.1; have := g4.na; omega)
      obtain ⟨c2, b2, _, q2⟩ := E2.inn _ cs 3 b1
      rw [q2 rfl] at b2
      obtain ⟨H3, e3, E3⟩ := m_ints ((g4.wc.she E1).she E2) (by rw [g4.nc]; exact hst.2.2) (k := k + a.n + b.n) (by omega) (by have := hst.1; have := g4.na; have := hst.2.1; have := g4.nb; omega)
      have f1 := hst.1; have f2 := hst.2.1; have f3 := hst.2.2
      have y1 := g4.na; have y2 := g4.nb; have y3 := g4.nc
      obtain ⟨k', H', e4, E4, r1, r2⟩ := ih (i + 1) (by omega) H3 (k + a.n + b.n + c.n) (((hE.trans E1).trans E2).trans E3) (by omega) (by omega)
      refine ⟨k', H', ?_, E4, r1, r2⟩
      have rd : ∀ {G : AH}, G[s.b]? = some ⟨cs, .rw, 3⟩ → rdB G s.b = some cs := fun e => by unfold rdB; rw [e]; rfl
      rw [R_eq, e_wmarkTensorS_0, h.n, lt_true hlt, w1 hlt (by omega), cond_true, ixA_nat (by rw [h.n]; exact hlt), rd hb]
      simp only [Option.bind_some, h.o, Nat.zero_add, Nat.add_zero, slAt_get g1]
      rw [e1]
      simp only [Option.bind_some, one_int, rd b1, slAt_get g2]
      rw [e2]
      simp only [Option.bind_some, one_int, rd b2, slAt_get (show cs[i * 3 + 2]? = some (.sl c) from g3)]
      rw [e3]
      simp only [Option.bind_some, one_int]
      exact e4
  obtain ⟨k', H', e, hE, r1, r2⟩ := loop ts.length 0 (by omega) H 1 (ShE.refl _ _ _) (by omega) (by omega)
  have e : R (.loop F.wmarkTensorS 0) [ssc s, isc 1, isc 0] H = some ⟨2, [isc k'], H'⟩ := e
  exact ⟨k', H', by rw [R_eq, e_wmarkTensorS, e]; rfl, hE, r1, by omega⟩
end Go.Abs
/- The law FnExactFormulaNetwork: its contract in plain Lean. -/
namespace Go.Abs
set_option linter.all false
set_option maxRecDepth 10000

def fieldsOf (P : Program) (t : TypeId) : Option (List (TypeId × Nat × Nat)) := match P.underlying t with
  | some (.struct fs) => some (fs.toList.map fun f => (f.type, f.offset, tsz P f.type))
  | _ => none
theorem open_struct {H : AH} {n : Nat} {t : TypeId} {L : List (TypeId × Nat × Nat)} (hf : fieldsOf P t = some L) {l : List Sc} (h : typed P (n + 1) H t l) : l.length = tsz P t ∧ ∀ x ∈ L, typed P n H x.1 ((l.drop x.2.1).take x.2.2) := by
  unfold fieldsOf at hf
  split at hf
  · rename_i fs hu
    cases hf
    simp only [typed, hu] at h
    refine ⟨h.1, fun x hx => ?_⟩
    obtain ⟨f, hm, rfl⟩ := List.mem_map.1 hx
    exact h.2 f hm
  · cases hf
theorem pvT_struct {t : TypeId} {L : List (TypeId × Nat × Nat)} (hf : fieldsOf P t = some L) (l : List Sc) : pvT P t l = .agg l := by
  unfold fieldsOf at hf
  unfold pvT
  split at hf
  · rename_i fs hu
    rw [hu]
  · cases hf
theorem u_int : P.underlying Y.tint = some (.int .i64) := by kernel_rfl
theorem u_Sint : P.underlying Y.tSint = some (.slice Y.tint) := by kernel_rfl
theorem z_int : tsz P Y.tint = 1 := by kernel_rfl
theorem len3 {α : Type} {l : List α} (h : l.length = 3) : ∃ a b c, l = [a, b, c] := by
  match l, h with
  | [a, b, c], _ => exact ⟨a, b, c, rfl⟩
end Go.Abs
